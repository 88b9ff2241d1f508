/-
  Contracts of the functions that the law reaches.
-/
import Derived.Test.YtlamgfimgadnmaaGreatFwd
import Derived.Test.YtlamgfimgadnmaaGreatProg
import Derived.KernelRfl
import Derived.Test.YtlamgfimgadnmaaGreatFwc
set_option linter.unusedVariables false
set_option linter.unusedSimpArgs false
namespace Go.Proofs.YtlamgfimgadnmaaGreat
open Go Go.CL
noncomputable def tt : List (Nat × TI) := [
(0, {bytes := 0, hz := false, zero := [.sc (.tuple {toList := []})]}),
(1, {zero := [.sc .nilFunc]}),
(2, {zero := [.sc (.int .i64 0)], ik := some .i64}),
(3, {zero := [.sc (.int .i64 0)], ik := some .i64}),
(4, {bytes := 1, zero := [.sc (.bool false)], bl := true}),
(5, {bytes := 1, zero := [.sc (.int .u8 0)], ik := some .u8}),
(6, {bytes := 1, zero := [.sc (.int .u8 0)], ik := some .u8}),
(7, {size := 4, bytes := 24, isAgg := true, zero := [.sc (.int .i64 0), .sc (.int .i64 0), .sc (.bool false), .sc (.int .u8 0)], fields := [(0, 2, 1), (1, 3, 1), (2, 4, 1), (3, 6, 1)], fok := true}),
(8, {size := 4, bytes := 24, isAgg := true, zero := [.sc (.int .i64 0), .sc (.int .i64 0), .sc (.bool false), .sc (.int .u8 0)], fields := [(0, 2, 1), (1, 3, 1), (2, 4, 1), (3, 6, 1)], fok := true}),
(9, {bytes := 16, zero := [.sc (.string ⟨#[]⟩)], str := true}),
(10, {bytes := 16, zero := [.sc (.string ⟨#[]⟩)], str := true}),
(11, {bytes := 16, zero := [.sc (.string ⟨#[]⟩)], str := true}),
(12, {zero := [.sc (.int .u64 0)], ik := some .u64}),
(13, {size := 2, bytes := 24, isAgg := true, zero := [.sc (.string ⟨#[]⟩), .sc (.int .u64 0)], fields := [(0, 9, 1), (1, 12, 1)], fok := true}),
(14, {size := 2, bytes := 24, isAgg := true, zero := [.sc (.string ⟨#[]⟩), .sc (.int .u64 0)], fields := [(0, 9, 1), (1, 12, 1)], fok := true}),
(15, {zero := [.sc (.pointer none)], elem := 230, ptr := true}),
(16, {zero := [.sc (.pointer none)], elem := 233, ptr := true}),
(17, {zero := [.sc (.pointer none)], elem := 242, ptr := true}),
(18, {isAgg := true, zero := [.sc (.pointer none)], fields := [(0, 17, 1)], fok := true}),
(19, {isAgg := true, zero := [.sc (.pointer none)], fields := [(0, 17, 1)], fok := true}),
(20, {bytes := 16, zero := [.sc .nilIface], conc := false, ife := true}),
(21, {bytes := 4, zero := [.sc (.int .i32 0)], ik := some .i32}),
(22, {bytes := 24, zero := [.nil], elem := 5, sl := true}),
(23, {bytes := 24, zero := [.nil], elem := 79, sl := true}),
(24, {bytes := 24, zero := [.nil], elem := 32, sl := true}),
(25, {size := 4, bytes := 64, isAgg := true, zero := [.nil, .nil, .sc (.int .i64 0), .sc (.int .i64 0)], fields := [(0, 23, 1), (1, 24, 1), (2, 3, 1), (3, 3, 1)], fok := true}),
(26, {size := 4, bytes := 64, isAgg := true, zero := [.nil, .nil, .sc (.int .i64 0), .sc (.int .i64 0)], fields := [(0, 23, 1), (1, 24, 1), (2, 3, 1), (3, 3, 1)], fok := true}),
(27, {bytes := 0, hz := false, zero := [.sc (.tuple {toList := [.agg {toList := [.slice none 0 0, .slice none 0 0, .int .i64 0, .int .i64 0]}, .int .i64 0, .int .i64 0, .string ⟨#[]⟩]})]}),
(28, {zero := [.sc .nilFunc]}),
(29, {zero := [.sc .nilFunc]}),
(30, {bytes := 24, zero := [.nil], elem := 115, sl := true}),
(31, {size := 5, bytes := 64, isAgg := true, zero := [.sc (.int .i64 0), .sc (.string ⟨#[]⟩), .sc (.int .i64 0), .sc (.int .i64 0), .nil], fields := [(0, 3, 1), (1, 9, 1), (2, 3, 1), (3, 3, 1), (4, 30, 1)], fok := true}),
(32, {size := 5, bytes := 64, isAgg := true, zero := [.sc (.int .i64 0), .sc (.string ⟨#[]⟩), .sc (.int .i64 0), .sc (.int .i64 0), .nil], fields := [(0, 3, 1), (1, 9, 1), (2, 3, 1), (3, 3, 1), (4, 30, 1)], fok := true}),
(33, {bytes := 24, zero := [.nil], elem := 51, sl := true}),
(34, {bytes := 0, hz := false, zero := [.sc (.tuple {toList := [.slice none 0 0, .int .i64 0]})]}),
(35, {zero := [.sc .nilFunc]}),
(36, {bytes := 24, zero := [.nil], elem := 66, sl := true}),
(37, {size := 3, bytes := 56, isAgg := true, zero := [.sc (.string ⟨#[]⟩), .sc (.string ⟨#[]⟩), .nil], fields := [(0, 9, 1), (1, 9, 1), (2, 36, 1)], fok := true}),
(38, {size := 3, bytes := 56, isAgg := true, zero := [.sc (.string ⟨#[]⟩), .sc (.string ⟨#[]⟩), .nil], fields := [(0, 9, 1), (1, 9, 1), (2, 36, 1)], fok := true}),
(39, {size := 6, bytes := 96, isAgg := true, zero := [.sc (.string ⟨#[]⟩), .sc (.string ⟨#[]⟩), .sc (.int .i64 0), .sc (.string ⟨#[]⟩), .sc (.string ⟨#[]⟩), .nil], fields := [(0, 9, 1), (1, 9, 1), (2, 3, 1), (3, 38, 3)], fok := true}),
(40, {size := 6, bytes := 96, isAgg := true, zero := [.sc (.string ⟨#[]⟩), .sc (.string ⟨#[]⟩), .sc (.int .i64 0), .sc (.string ⟨#[]⟩), .sc (.string ⟨#[]⟩), .nil], fields := [(0, 9, 1), (1, 9, 1), (2, 3, 1), (3, 38, 3)], fok := true}),
(41, {bytes := 24, zero := [.nil], elem := 40, sl := true}),
(42, {size := 4, bytes := 80, isAgg := true, zero := [.sc (.string ⟨#[]⟩), .sc (.string ⟨#[]⟩), .nil, .nil], fields := [(0, 38, 3), (3, 41, 1)], fok := true}),
(43, {size := 4, bytes := 80, isAgg := true, zero := [.sc (.string ⟨#[]⟩), .sc (.string ⟨#[]⟩), .nil, .nil], fields := [(0, 38, 3), (3, 41, 1)], fok := true}),
(44, {bytes := 24, zero := [.nil], elem := 43, sl := true}),
(45, {zero := [.sc .nilFunc]}),
(46, {bytes := 0, hz := false, zero := [.sc (.tuple {toList := [.agg {toList := [.slice none 0 0, .slice none 0 0, .int .i64 0, .int .i64 0]}, .string ⟨#[]⟩]})]}),
(47, {zero := [.sc .nilFunc]}),
(48, {bytes := 24, zero := [.nil], elem := 3, sl := true}),
(49, {zero := [.sc .nilFunc]}),
(50, {zero := [.sc .nilFunc]}),
(51, {bytes := 24, zero := [.nil], elem := 57, sl := true}),
(52, {zero := [.sc .nilFunc]}),
(53, {bytes := 24, zero := [.nil], elem := 55, sl := true}),
(54, {size := 4, bytes := 56, isAgg := true, zero := [.sc (.int .i64 0), .sc (.int .i64 0), .sc (.string ⟨#[]⟩), .nil], fields := [(0, 3, 1), (1, 3, 1), (2, 9, 1), (3, 53, 1)], fok := true}),
(55, {size := 4, bytes := 56, isAgg := true, zero := [.sc (.int .i64 0), .sc (.int .i64 0), .sc (.string ⟨#[]⟩), .nil], fields := [(0, 3, 1), (1, 3, 1), (2, 9, 1), (3, 53, 1)], fok := true}),
(56, {size := 5, bytes := 72, isAgg := true, zero := [.sc (.string ⟨#[]⟩), .sc (.int .i64 0), .sc (.int .i64 0), .sc (.string ⟨#[]⟩), .nil], fields := [(0, 9, 1), (1, 55, 4)], fok := true}),
(57, {size := 5, bytes := 72, isAgg := true, zero := [.sc (.string ⟨#[]⟩), .sc (.int .i64 0), .sc (.int .i64 0), .sc (.string ⟨#[]⟩), .nil], fields := [(0, 9, 1), (1, 55, 4)], fok := true}),
(58, {bytes := 0, hz := false, zero := [.sc (.tuple {toList := [.agg {toList := [.slice none 0 0, .slice none 0 0, .int .i64 0, .int .i64 0]}, .string ⟨#[]⟩, .string ⟨#[]⟩, .agg {toList := [.int .i64 0, .int .i64 0, .string ⟨#[]⟩, .slice none 0 0]}]})]}),
(59, {zero := [.sc .nilFunc]}),
(60, {zero := [.sc .nilFunc]}),
(61, {bytes := 24, zero := [.nil], elem := 63, sl := true}),
(62, {size := 8, bytes := 120, isAgg := true, zero := [.sc (.int .i64 0), .sc (.int .i64 0), .sc (.int .i64 0), .sc (.string ⟨#[]⟩), .nil, .sc (.string ⟨#[]⟩), .sc (.string ⟨#[]⟩), .nil], fields := [(0, 3, 1), (1, 55, 4), (5, 9, 1), (6, 9, 1), (7, 61, 1)], fok := true}),
(63, {size := 8, bytes := 120, isAgg := true, zero := [.sc (.int .i64 0), .sc (.int .i64 0), .sc (.int .i64 0), .sc (.string ⟨#[]⟩), .nil, .sc (.string ⟨#[]⟩), .sc (.string ⟨#[]⟩), .nil], fields := [(0, 3, 1), (1, 55, 4), (5, 9, 1), (6, 9, 1), (7, 61, 1)], fok := true}),
(64, {zero := [.sc .nilFunc]}),
(65, {size := 9, bytes := 136, isAgg := true, zero := [.sc (.string ⟨#[]⟩), .sc (.int .i64 0), .sc (.int .i64 0), .sc (.int .i64 0), .sc (.string ⟨#[]⟩), .nil, .sc (.string ⟨#[]⟩), .sc (.string ⟨#[]⟩), .nil], fields := [(0, 9, 1), (1, 63, 8)], fok := true}),
(66, {size := 9, bytes := 136, isAgg := true, zero := [.sc (.string ⟨#[]⟩), .sc (.int .i64 0), .sc (.int .i64 0), .sc (.int .i64 0), .sc (.string ⟨#[]⟩), .nil, .sc (.string ⟨#[]⟩), .sc (.string ⟨#[]⟩), .nil], fields := [(0, 9, 1), (1, 63, 8)], fok := true}),
(67, {zero := [.sc (.pointer none)], elem := 110, ptr := true}),
(68, {zero := [.sc .nilFunc]}),
(69, {zero := [.sc .nilFunc]}),
(70, {zero := [.sc .nilFunc]}),
(71, {zero := [.sc .nilFunc]}),
(72, {bytes := 24, zero := [.nil], elem := 9, sl := true}),
(73, {zero := [.sc .nilFunc]}),
(74, {size := 2, bytes := 32, isAgg := true, zero := [.nil, .sc .nilFunc], fields := [(0, 23, 1), (1, 73, 1)], fok := true}),
(75, {size := 2, bytes := 32, isAgg := true, zero := [.nil, .sc .nilFunc], fields := [(0, 23, 1), (1, 73, 1)], fok := true}),
(76, {zero := [.sc .nilFunc]}),
(77, {zero := [.sc .nilFunc]}),
(78, {size := 3, bytes := 56, isAgg := true, zero := [.sc (.int .i64 0), .nil, .nil], fields := [(0, 3, 1), (1, 72, 1), (2, 30, 1)], fok := true}),
(79, {size := 3, bytes := 56, isAgg := true, zero := [.sc (.int .i64 0), .nil, .nil], fields := [(0, 3, 1), (1, 72, 1), (2, 30, 1)], fok := true}),
(80, {zero := [.sc .nilFunc]}),
(81, {size := 2, bytes := 32, isAgg := true, zero := [.nil, .sc .nilFunc], fields := [(0, 24, 1), (1, 80, 1)], fok := true}),
(82, {size := 2, bytes := 32, isAgg := true, zero := [.nil, .sc .nilFunc], fields := [(0, 24, 1), (1, 80, 1)], fok := true}),
(83, {zero := [.sc .nilFunc]}),
(84, {zero := [.sc .nilFunc]}),
(85, {zero := [.sc .nilFunc]}),
(86, {zero := [.sc .nilFunc]}),
(87, {zero := [.sc .nilFunc]}),
(88, {zero := [.sc .nilFunc]}),
(89, {zero := [.sc .nilFunc]}),
(90, {zero := [.sc .nilFunc]}),
(91, {zero := [.sc (.map none)], mkv := some (9, 3)}),
(92, {zero := [.sc (.map none)], mkv := some (9, 3)}),
(93, {zero := [.sc .nilFunc]}),
(94, {zero := [.sc .nilFunc]}),
(95, {zero := [.sc .nilFunc]}),
(96, {zero := [.sc .nilFunc]}),
(97, {zero := [.sc .nilFunc]}),
(98, {zero := [.sc .nilFunc]}),
(99, {zero := [.sc (.pointer none)], elem := 129, ptr := true}),
(100, {zero := [.sc .nilFunc]}),
(101, {zero := [.sc .nilFunc]}),
(102, {zero := [.sc .nilFunc]}),
(103, {zero := [.sc .nilFunc]}),
(104, {zero := [.sc .nilFunc]}),
(105, {zero := [.sc .nilFunc]}),
(106, {zero := [.sc .nilFunc]}),
(107, {zero := [.sc .nilFunc]}),
(108, {zero := [.sc .nilFunc]}),
(109, {size := 2, bytes := 32, isAgg := true, zero := [.nil, .sc (.int .i64 0)], fields := [(0, 22, 1), (1, 3, 1)], fok := true}),
(110, {size := 2, bytes := 32, isAgg := true, zero := [.nil, .sc (.int .i64 0)], fields := [(0, 22, 1), (1, 3, 1)], fok := true}),
(111, {zero := [.sc .nilFunc]}),
(112, {zero := [.sc .nilFunc]}),
(113, {zero := [.sc .nilFunc]}),
(114, {zero := [.sc .nilFunc]}),
(115, {size := 5, bytes := 72, isAgg := true, zero := [.sc (.string ⟨#[]⟩), .sc (.int .i64 0), .sc (.int .i64 0), .sc (.string ⟨#[]⟩), .nil], fields := [(0, 9, 1), (1, 55, 4)], fok := true}),
(116, {zero := [.sc .nilFunc]}),
(117, {zero := [.sc .nilFunc]}),
(118, {zero := [.sc .nilFunc]}),
(119, {zero := [.sc .nilFunc]}),
(120, {zero := [.sc (.int .i64 0)], ik := some .i64}),
(121, {bytes := 0, hz := false, zero := [.sc (.tuple {toList := [.int .i64 0, .bool false]})]}),
(122, {zero := [.sc (.map none)], mkv := some (3, 48)}),
(123, {zero := [.sc (.map none)], mkv := some (3, 48)}),
(124, {zero := [.sc .nilFunc]}),
(125, {bytes := 24, zero := [.nil], elem := 146, sl := true}),
(126, {zero := [.sc .nilFunc]}),
(127, {zero := [.sc (.map none)], mkv := some (3, 3)}),
(128, {size := 8, bytes := 128, isAgg := true, zero := [.nil, .nil, .sc (.int .i64 0), .sc (.int .i64 0), .sc (.map none), .nil, .nil, .sc (.map none)], fields := [(0, 26, 4), (4, 123, 1), (5, 51, 1), (6, 125, 1), (7, 127, 1)], fok := true}),
(129, {size := 8, bytes := 128, isAgg := true, zero := [.nil, .nil, .sc (.int .i64 0), .sc (.int .i64 0), .sc (.map none), .nil, .nil, .sc (.map none)], fields := [(0, 26, 4), (4, 123, 1), (5, 51, 1), (6, 125, 1), (7, 127, 1)], fok := true}),
(130, {zero := [.sc .nilFunc]}),
(131, {zero := [.sc .nilFunc]}),
(132, {zero := [.sc .nilFunc]}),
(133, {zero := [.sc .nilFunc]}),
(134, {zero := [.sc .nilFunc]}),
(135, {bytes := 0, hz := false, zero := [.sc (.tuple {toList := [.slice none 0 0, .bool false]})]}),
(136, {zero := [.sc .nilFunc]}),
(137, {zero := [.sc .nilFunc]}),
(138, {zero := [.sc .nilFunc]}),
(139, {bytes := 0, hz := false, zero := [.sc (.tuple {toList := [.agg {toList := [.slice none 0 0, .slice none 0 0, .int .i64 0, .int .i64 0]}, .bool false]})]}),
(140, {zero := [.sc .nilFunc]}),
(141, {zero := [.sc .nilFunc]}),
(142, {zero := [.sc .nilFunc]}),
(143, {zero := [.sc .nilFunc]}),
(144, {bytes := 24, zero := [.nil], elem := 164, sl := true}),
(145, {size := 8, bytes := 128, isAgg := true, zero := [.sc (.bool false), .sc (.string ⟨#[]⟩), .sc (.string ⟨#[]⟩), .sc (.int .i64 0), .sc (.string ⟨#[]⟩), .sc (.string ⟨#[]⟩), .nil, .nil], fields := [(0, 4, 1), (1, 9, 1), (2, 9, 1), (3, 3, 1), (4, 38, 3), (7, 144, 1)], fok := true}),
(146, {size := 8, bytes := 128, isAgg := true, zero := [.sc (.bool false), .sc (.string ⟨#[]⟩), .sc (.string ⟨#[]⟩), .sc (.int .i64 0), .sc (.string ⟨#[]⟩), .sc (.string ⟨#[]⟩), .nil, .nil], fields := [(0, 4, 1), (1, 9, 1), (2, 9, 1), (3, 3, 1), (4, 38, 3), (7, 144, 1)], fok := true}),
(147, {zero := [.sc .nilFunc]}),
(148, {zero := [.sc .nilFunc]}),
(149, {zero := [.sc .nilFunc]}),
(150, {zero := [.sc .nilFunc]}),
(151, {zero := [.sc .nilFunc]}),
(152, {zero := [.sc .nilFunc]}),
(153, {zero := [.sc (.map none)], mkv := some (172, 53)}),
(154, {zero := [.sc .nilFunc]}),
(155, {zero := [.sc .nilFunc]}),
(156, {zero := [.sc .nilFunc]}),
(157, {zero := [.sc .nilFunc]}),
(158, {zero := [.sc .nilFunc]}),
(159, {zero := [.sc .nilFunc]}),
(160, {zero := [.sc .nilFunc]}),
(161, {zero := [.sc .nilFunc]}),
(162, {zero := [.sc .nilFunc]}),
(163, {size := 2, bytes := 24, isAgg := true, zero := [.sc (.string ⟨#[]⟩), .sc .nilFunc], fields := [(0, 9, 1), (1, 161, 1)], fok := true}),
(164, {size := 2, bytes := 24, isAgg := true, zero := [.sc (.string ⟨#[]⟩), .sc .nilFunc], fields := [(0, 9, 1), (1, 161, 1)], fok := true}),
(165, {bytes := 0, hz := false, zero := [.sc (.tuple {toList := [.agg {toList := [.int .i64 0, .int .i64 0, .string ⟨#[]⟩, .slice none 0 0]}, .bool false]})]}),
(166, {zero := [.sc .nilFunc]}),
(167, {size := 6, bytes := 112, isAgg := true, zero := [.nil, .nil, .sc (.int .i64 0), .sc (.int .i64 0), .nil, .nil], fields := [(0, 26, 4), (4, 51, 1), (5, 51, 1)], fok := true}),
(168, {size := 6, bytes := 112, isAgg := true, zero := [.nil, .nil, .sc (.int .i64 0), .sc (.int .i64 0), .nil, .nil], fields := [(0, 26, 4), (4, 51, 1), (5, 51, 1)], fok := true}),
(169, {zero := [.sc .nilFunc]}),
(170, {zero := [.sc (.pointer none)], elem := 55, ptr := true}),
(171, {size := 2, bytes := 16, isAgg := true, zero := [.sc (.pointer none), .sc (.int .i64 0)], fields := [(0, 170, 1), (1, 3, 1)], fok := true}),
(172, {size := 2, bytes := 16, isAgg := true, zero := [.sc (.pointer none), .sc (.int .i64 0)], fields := [(0, 170, 1), (1, 3, 1)], fok := true}),
(173, {bytes := 0, hz := false, zero := [.sc (.tuple {toList := [.slice none 0 0, .bool false]})]}),
(174, {zero := [.sc .nilFunc]}),
(175, {zero := [.sc .nilFunc]}),
(176, {zero := [.sc .nilFunc]}),
(177, {zero := [.sc .nilFunc]}),
(178, {zero := [.sc .nilFunc]}),
(179, {zero := [.sc .nilFunc]}),
(180, {bytes := 24, zero := [.nil], elem := 161, sl := true}),
(181, {zero := [.sc .nilFunc]}),
(182, {zero := [.sc .nilFunc]}),
(183, {zero := [.sc .nilFunc]}),
(184, {zero := [.sc .nilFunc]}),
(185, {zero := [.sc .nilFunc]}),
(186, {zero := [.sc (.int .u64 0)], ik := some .u64}),
(187, {zero := [.sc .nilFunc]}),
(188, {zero := [.sc (.int .i64 0)], ik := some .i64}),
(189, {bytes := 0, hz := false, zero := [.sc (.tuple {toList := [.int .i64 0, .int .i64 0]})]}),
(190, {zero := [.sc .nilFunc]}),
(191, {zero := [.sc .nilFunc]}),
(192, {zero := [.sc .nilFunc]}),
(193, {zero := [.sc .nilFunc]}),
(194, {bytes := 0, hz := false, zero := [.sc (.tuple {toList := [.int .i64 0, .bool false]})]}),
(195, {zero := [.sc .nilFunc]}),
(196, {zero := [.sc .nilFunc]}),
(197, {bytes := 4, zero := [.sc (.int .u32 0)], ik := some .u32}),
(198, {zero := [.sc .nilFunc]}),
(199, {zero := [.sc (.int .u64 0)], ik := some .u64}),
(200, {zero := [.sc (.pointer none)], elem := 30, ptr := true}),
(201, {zero := [.sc .nilFunc]}),
(202, {zero := [.sc .nilFunc]}),
(203, {zero := [.sc .nilFunc]}),
(204, {zero := [.sc .nilFunc]}),
(205, {zero := [.sc (.int .u64 0)], ik := some .u64}),
(206, {zero := [.sc .nilFunc]}),
(207, {zero := [.sc .nilFunc]}),
(208, {zero := [.sc .nilFunc]}),
(209, {zero := [.sc (.pointer none)], elem := 3, ptr := true}),
(210, {zero := [.sc .nilFunc]}),
(211, {bytes := 16, zero := [.sc .nilIface], conc := false}),
(212, {bytes := 16, zero := [.sc .nilIface], conc := false}),
(213, {zero := [.sc .nilFunc]}),
(214, {zero := [.sc .nilFunc]}),
(215, {bytes := 24, zero := [.nil], elem := 53, sl := true}),
(216, {zero := [.sc .nilFunc]}),
(217, {zero := [.sc (.pointer none)], elem := 205, ptr := true}),
(218, {bytes := 0, hz := false, zero := [.sc (.tuple {toList := [.int .i64 0, .int .i64 0]})]}),
(219, {zero := [.sc .nilFunc]}),
(220, {zero := [.sc (.int .i64 0)], ik := some .i64}),
(221, {zero := [.sc (.int .i64 0)], ik := some .i64}),
(222, {bytes := 24, zero := [.nil], elem := 55, sl := true}),
(223, {bytes := 16, zero := [.sc (.string ⟨#[]⟩)], str := true}),
(224, {zero := [.sc (.int .i64 0)], ik := some .i64}),
(225, {zero := [.sc (.int .i64 0)], ik := some .i64}),
(226, {size := 0, bytes := 0, isAgg := true, zero := [], fok := true}),
(227, {size := 0, bytes := 0, isAgg := true, zero := [], fok := true}),
(228, {zero := [.sc .nilFunc]}),
(229, {size := 4, bytes := 40, isAgg := true, zero := [.sc (.pointer none), .sc (.pointer none), .sc (.pointer none), .sc (.string ⟨#[]⟩)], fields := [(0, 17, 1), (1, 17, 1), (2, 17, 1), (3, 9, 1)], fok := true}),
(230, {size := 4, bytes := 40, isAgg := true, zero := [.sc (.pointer none), .sc (.pointer none), .sc (.pointer none), .sc (.string ⟨#[]⟩)], fields := [(0, 17, 1), (1, 17, 1), (2, 17, 1), (3, 9, 1)], fok := true}),
(231, {size := 0, bytes := 0, isAgg := true, zero := [], elem := 16}),
(232, {size := 0, bytes := 0, isAgg := true, zero := [], fields := [(0, 231, 0)], fok := true}),
(233, {size := 0, bytes := 0, isAgg := true, zero := [], fields := [(0, 231, 0)], fok := true}),
(234, {zero := [.sc .nilFunc]}),
(235, {bytes := 1, zero := [.sc (.int .u8 0)], ik := some .u8}),
(236, {bytes := 1, zero := [.sc (.int .u8 0)], ik := some .u8}),
(237, {zero := [.sc .nilFunc]}),
(238, {zero := [.sc (.pointer none)], elem := 5, ptr := true}),
(239, {bytes := 4, zero := [.sc (.int .i32 0)], ik := some .i32}),
(240, {bytes := 4, zero := [.sc (.int .i32 0)], ik := some .i32}),
(241, {size := 11, bytes := 48, isAgg := true, zero := [.sc (.int .u64 0), .sc (.int .u64 0), .sc (.int .u32 0), .sc (.int .u8 0), .sc (.int .u8 0), .sc (.int .u8 0), .sc (.int .u8 0), .sc .nilFunc, .sc (.pointer none), .sc (.int .i32 0), .sc (.int .i32 0)], fields := [(0, 12, 1), (1, 12, 1), (2, 197, 1), (3, 235, 1), (4, 5, 1), (5, 5, 1), (6, 236, 1), (7, 237, 1), (8, 238, 1), (9, 239, 1), (10, 240, 1)], fok := true}),
(242, {size := 11, bytes := 48, isAgg := true, zero := [.sc (.int .u64 0), .sc (.int .u64 0), .sc (.int .u32 0), .sc (.int .u8 0), .sc (.int .u8 0), .sc (.int .u8 0), .sc (.int .u8 0), .sc .nilFunc, .sc (.pointer none), .sc (.int .i32 0), .sc (.int .i32 0)], fields := [(0, 12, 1), (1, 12, 1), (2, 197, 1), (3, 235, 1), (4, 5, 1), (5, 5, 1), (6, 236, 1), (7, 237, 1), (8, 238, 1), (9, 239, 1), (10, 240, 1)], fok := true}),
(243, {zero := [.sc .nilFunc]}),
(244, {zero := [.sc .nilFunc]}),
(245, {zero := [.sc .nilFunc]}),
(246, {zero := [.sc .nilFunc]}),
(247, {zero := [.sc .nilFunc]}),
(248, {zero := [.sc .nilFunc]}),
(249, {zero := [.sc .nilFunc]}),
(250, {zero := [.sc .nilFunc]}),
(251, {zero := [.sc .nilFunc]}),
(252, {zero := [.sc .nilFunc]}),
(253, {zero := [.sc .nilFunc]}),
(254, {zero := [.sc (.pointer none)]})]
noncomputable def X : Ctx := { P := Tryz.prog, tt := tt, gl := fun _ => false, ord := fun _ => none }
set_option maxRecDepth 100000 in
theorem z79 : (tt.map fun p => zhd Tryz.prog p.1) = tt.map (fun p => some p.2) := by kernel_rfl
theorem zr5 : X.ok := Ctx.ok_of z79
theorem zr6 : X.P.follows .mixedOrders = true := by kernel_rfl
theorem zg9 : ji X := zkt zr5 zr6
noncomputable def G (l : List Nat) : Ctx := { P := Tryz.prog, tt := tt, gl := fun n => l.contains n, ord := fun _ => none }
theorem z0h (l : List Nat) : (G l).ok := zr5
theorem zn8 (l : List Nat) : ji (G l) := zkt (z0h l) zr6
end Go.Proofs.YtlamgfimgadnmaaGreat
namespace Go.Proofs.YtlamgfimgadnmaaGreat
open Go Go.CL Go.Proofs Go.Shelf
set_option maxRecDepth 10000
def ren190 : Ren :=
  {
    f := fun x =>
      match x with
      | 190 => 126
      | 125 => 144
      | 258 => 143
      | 128 => 163
      | 129 => 164
      | 302 => 154
      | 303 => 155
      | 304 => 156
      | 305 => 157
      | 306 => 158
      | 307 => 159
      | 308 => 160
      | 309 => 161
      | 310 => 162
      | 333 => 169
      | 329 => 170
      | 330 => 171
      | 334 => 172
      | 335 => 173
      | 336 => 174
      | 344 => 178
      | n => n,
    t := fun x =>
      match x with
      | 31 => 72
      | 9 => 9
      | 3 => 3
      | 46 => 186
      | 0 => 0
      | 51 => 197
      | 53 => 199
      | 4 => 4
      | 183 => 189
      | 182 => 188
      | 131 => 194
      | 5 => 5
      | 218 => 205
      | 222 => 209
      | 228 => 217
      | 229 => 218
      | n => n,
    g := fun x =>
      have n := x;
      n }
theorem z2n : Lays.n190 Tryz.prog ren190 :=
  { mixed := Eq.refl true, f125 := Eq.trans Tryz.func144 (congrArg some (Eq.refl (Body.n125 ren190))),
    f128 := Eq.trans Tryz.func163 (congrArg some (Eq.refl (Body.n128 ren190))),
    f129 := Eq.trans Tryz.func164 (congrArg some (Eq.refl (Body.n129 ren190))),
    f190 := Eq.trans Tryz.func126 (congrArg some (Eq.refl (Body.n190 ren190))),
    f258 := Eq.trans Tryz.func143 (congrArg some (Eq.refl (Body.n258 ren190))),
    f302 := Eq.trans Tryz.func154 (congrArg some (Eq.refl (Body.n302 ren190))),
    f303 := Eq.trans Tryz.func155 (congrArg some (Eq.refl (Body.n303 ren190))),
    f304 := Eq.trans Tryz.func156 (congrArg some (Eq.refl (Body.n304 ren190))),
    f305 := Eq.trans Tryz.func157 (congrArg some (Eq.refl (Body.n305 ren190))),
    f306 := Eq.trans Tryz.func158 (congrArg some (Eq.refl (Body.n306 ren190))),
    f307 := Eq.trans Tryz.func159 (congrArg some (Eq.refl (Body.n307 ren190))),
    f308 := Eq.trans Tryz.func160 (congrArg some (Eq.refl (Body.n308 ren190))),
    f309 := Eq.trans Tryz.func161 (congrArg some (Eq.refl (Body.n309 ren190))),
    f310 := Eq.trans Tryz.func162 (congrArg some (Eq.refl (Body.n310 ren190))),
    f329 := Eq.trans Tryz.func170 (congrArg some (Eq.refl (Body.n329 ren190))),
    f330 := Eq.trans Tryz.func171 (congrArg some (Eq.refl (Body.n330 ren190))),
    f333 := Eq.trans Tryz.func169 (congrArg some (Eq.refl (Body.n333 ren190))),
    f334 := Eq.trans Tryz.func172 (congrArg some (Eq.refl (Body.n334 ren190))),
    f335 := Eq.trans Tryz.func173 (congrArg some (Eq.refl (Body.n335 ren190))),
    f336 := Eq.trans Tryz.func174 (congrArg some (Eq.refl (Body.n336 ren190))),
    f344 := Eq.trans Tryz.func178 (congrArg some (Eq.refl (Body.n344 ren190))), t0 := Tryz.underlying0,
    a0 := Tryz.isAgg0, z0 := Tryz.sizeOf0, v0 := Tryz.zeroValue0, t3 := Tryz.underlying3, a3 := Tryz.isAgg3,
    z3 := Tryz.sizeOf3, v3 := Tryz.zeroValue3, t4 := Tryz.underlying4, a4 := Tryz.isAgg4, z4 := Tryz.sizeOf4,
    v4 := Tryz.zeroValue4, t5 := Tryz.underlying5, a5 := Tryz.isAgg5, z5 := Tryz.sizeOf5, v5 := Tryz.zeroValue5,
    t9 := Tryz.underlying9, a9 := Tryz.isAgg9, z9 := Tryz.sizeOf9, v9 := Tryz.zeroValue9, t31 := Tryz.underlying72,
    a31 := Tryz.isAgg72, z31 := Tryz.sizeOf72, v31 := Tryz.zeroValue72, t46 := Tryz.underlying186, a46 := Tryz.isAgg186,
    z46 := Tryz.sizeOf186, v46 := Tryz.zeroValue186, t51 := Tryz.underlying197, a51 := Tryz.isAgg197,
    z51 := Tryz.sizeOf197, v51 := Tryz.zeroValue197, t53 := Tryz.underlying199, a53 := Tryz.isAgg199,
    z53 := Tryz.sizeOf199, v53 := Tryz.zeroValue199, t131 := Tryz.underlying194, a131 := Tryz.isAgg194,
    z131 := Tryz.sizeOf194, v131 := Tryz.zeroValue194, t182 := Tryz.underlying188, a182 := Tryz.isAgg188,
    z182 := Tryz.sizeOf188, v182 := Tryz.zeroValue188, t183 := Tryz.underlying189, a183 := Tryz.isAgg189,
    z183 := Tryz.sizeOf189, v183 := Tryz.zeroValue189, t218 := Tryz.underlying205, a218 := Tryz.isAgg205,
    z218 := Tryz.sizeOf205, v218 := Tryz.zeroValue205, t222 := Tryz.underlying209, a222 := Tryz.isAgg209,
    z222 := Tryz.sizeOf209, v222 := Tryz.zeroValue209, t228 := Tryz.underlying217, a228 := Tryz.isAgg217,
    z228 := Tryz.sizeOf217, v228 := Tryz.zeroValue217, t229 := Tryz.underlying218, a229 := Tryz.isAgg218,
    z229 := Tryz.sizeOf218, v229 := Tryz.zeroValue218 }
def ren194 : Ren :=
  {
    f := fun x =>
      match x with
      | 194 => 127
      | n => n,
    t := fun x =>
      match x with
      | 31 => 72
      | 9 => 9
      | 3 => 3
      | 4 => 4
      | 0 => 0
      | n => n,
    g := fun x =>
      have n := x;
      n }
theorem zvs : Lays.n194 Tryz.prog ren194 :=
  { mixed := Eq.refl true, f194 := Eq.trans Tryz.func127 (congrArg some (Eq.refl (Body.n194 ren194))),
    t0 := Tryz.underlying0, a0 := Tryz.isAgg0, z0 := Tryz.sizeOf0, v0 := Tryz.zeroValue0, t3 := Tryz.underlying3,
    a3 := Tryz.isAgg3, z3 := Tryz.sizeOf3, v3 := Tryz.zeroValue3, t4 := Tryz.underlying4, a4 := Tryz.isAgg4,
    z4 := Tryz.sizeOf4, v4 := Tryz.zeroValue4, t9 := Tryz.underlying9, a9 := Tryz.isAgg9, z9 := Tryz.sizeOf9,
    v9 := Tryz.zeroValue9, t31 := Tryz.underlying72, a31 := Tryz.isAgg72, z31 := Tryz.sizeOf72, v31 := Tryz.zeroValue72 }
end Go.Proofs.YtlamgfimgadnmaaGreat
namespace Go.Proofs.YtlamgfimgadnmaaGreat
open Go Go.CL
set_option maxRecDepth 10000
def i64 (n : Int) : CV := .sc (.int .i64 n)
def u8 (n : Int) : CV := .sc (.int .u8 n)
def yz (f : Func) : Code := f.body.getD .skip
theorem ZX {f : FuncId} {fn : Func} {n : Nat} {args : List CV} {σ : Heap} {post : COut → Prop} (hf : Tryz.prog.funcs[f]? = some fn) (hn : fn.ntmps = n) (h : Ex X (yz fn) ⟨n, zdn 0 args, []⟩ σ (zwp X fn post)) (hb : fn.body = some (yz fn) := by rfl)
    (h1 : (fn.name == "runtime.NumGoroutine") = false := by kernel_rfl) (h2 : Nat.ble args.length fn.ntmps = true := by kernel_rfl) : CRun Tryz.prog f args σ post := jh (X := X) zr5 zg9 hf hb h1 h2 (by rw [hn]; exact h)
theorem ZG (l : List Nat) {f : FuncId} {fn : Func} {n : Nat} {args : List CV} {σ : Heap} {post : COut → Prop} (hf : Tryz.prog.funcs[f]? = some fn) (hn : fn.ntmps = n) (h : Ex (G l) (yz fn) ⟨n, zdn 0 args, []⟩ σ (zwp (G l) fn post)) (hb : fn.body = some (yz fn) := by rfl)
    (h1 : (fn.name == "runtime.NumGoroutine") = false := by kernel_rfl) (h2 : Nat.ble args.length fn.ntmps = true := by kernel_rfl) : CRun Tryz.prog f args σ post := jh (X := G l) (z0h l) (zn8 l) hf hb h1 h2 (by rw [hn]; exact h)
def zx1 (bs : List CV) (i : Nat) : Int := match bs[i]? with
  | some (.sc (.int _ b)) => b
  | _ => 0
def BytesOk (bs : List CV) : Prop := ∀ x ∈ bs, ∃ b, x = u8 b ∧ 0 ≤ b ∧ b ≤ 255
theorem BytesOk.get {bs : List CV} (h : BytesOk bs) {i : Nat} (hi : i < bs.length) : bs[i]? = some (u8 (zx1 bs i)) := by
  have h1 : bs[i]? = some bs[i] := List.getElem?_eq_getElem hi
  obtain ⟨b, hb, _⟩ := h bs[i] (List.getElem_mem hi)
  rw [hb] at h1
  simp only [zx1, h1, u8]
theorem BytesOk.range {bs : List CV} (h : BytesOk bs) (i : Nat) : 0 ≤ zx1 bs i ∧ zx1 bs i ≤ 255 := by
  by_cases hi : i < bs.length
  · obtain ⟨b, hb, h2⟩ := h bs[i] (List.getElem_mem hi)
    have h1 : bs[i]? = some bs[i] := List.getElem?_eq_getElem hi
    rw [hb] at h1
    simp only [zx1, h1, u8]; exact h2
  · simp [zx1, List.getElem?_eq_none (show bs.length ≤ i by omega)]
def ztz (bs : List CV) (k : Int) : Int :=
  zx1 bs (k.tmod bs.length).toNat * 131 + zx1 bs ((k * 7 + 3).tmod bs.length).toNat * 1117 + k * 29 + k.tdiv bs.length * 53
def z6j (a b : Int) : Int := IntKind.i64.wrap (BitVec.ofInt IntKind.i64.bits a ^^^ BitVec.ofInt IntKind.i64.bits b).toNat
def zdb (bs : List CV) (p n : Int) : Int :=
  if n < 1 ∨ bs.length = 0 then 0
  else if p < bs.length then (zx1 bs (p + 1 - 1).toNat).tmod n
  else (z6j (ztz bs (p + 1 - 1)) ((ztz bs (p + 1 - 1)).tdiv 64)).tmod n
theorem zoe {a b : Int} (ha : 0 ≤ a) (hb : 0 ≤ b) (ha' : a < 9223372036854775808) (hb' : b < 9223372036854775808) : 0 ≤ z6j a b := by
  obtain ⟨m, rfl⟩ := Int.eq_ofNat_of_zero_le ha
  obtain ⟨n, rfl⟩ := Int.eq_ofNat_of_zero_le hb
  unfold z6j
  have h1 : (BitVec.ofInt IntKind.i64.bits (m : Int) ^^^ BitVec.ofInt IntKind.i64.bits (n : Int)).toNat = m ^^^ n := by
    rw [BitVec.toNat_xor]
    have e1 : (BitVec.ofInt 64 (m : Int)).toNat = m := by rw [BitVec.ofInt_natCast, BitVec.toNat_ofNat]; omega
    have e2 : (BitVec.ofInt 64 (n : Int)).toNat = n := by rw [BitVec.ofInt_natCast, BitVec.toNat_ofNat]; omega
    show (BitVec.ofInt 64 (m : Int)).toNat ^^^ (BitVec.ofInt 64 (n : Int)).toNat = _
    rw [e1, e2]
  rw [h1]
  have h2 : m ^^^ n < 2 ^ 63 := Nat.xor_lt_two_pow (by omega) (by omega)
  have : IntKind.i64.wrap ((m ^^^ n : Nat) : Int) = ((m ^^^ n : Nat) : Int) := zao (by simp only [inR]; omega)
  rw [this]; omega
theorem zou {bs : List CV} (hb : BytesOk bs) {p n : Int} (hp : 0 ≤ p) (hp' : p < 1099511627776) (hl : bs.length ≤ 2000) (hn : 1 ≤ n) : 0 ≤ zdb bs p n ∧ zdb bs p n < n := by
  unfold zdb
  split
  · omega
  · split
    · have := (hb.range (p + 1 - 1).toNat).1
      exact ⟨Int.tmod_nonneg _ this, Int.tmod_lt_of_pos _ (by omega)⟩
    · refine ⟨Int.tmod_nonneg _ ?_, Int.tmod_lt_of_pos _ (by omega)⟩
      have m1 := hb.range (((p + 1 - 1).tmod bs.length).toNat)
      have m2 := hb.range ((((p + 1 - 1) * 7 + 3).tmod bs.length).toNat)
      have m3 : 0 ≤ (p + 1 - 1).tdiv bs.length := Int.tdiv_nonneg (by omega) (by omega)
      have m4 : (p + 1 - 1).tdiv bs.length ≤ p + 1 - 1 := Int.tdiv_le_self _ (by omega)
      have m5 : 0 ≤ ztz bs (p + 1 - 1) ∧ ztz bs (p + 1 - 1) < 1125899906842624 := by unfold ztz; omega
      exact zoe m5.1 (Int.tdiv_nonneg m5.1 (by omega)) (by omega) (by have := Int.tdiv_le_self 64 m5.1; omega)
def rd (σ : Heap) (l : Nat) (bs : List CV) (p : Int) : Heap := upd σ l (.cells [.vec bs, i64 p])
theorem z4s {l : Nat} {σ : Heap} {bs : List CV} {p n : Int} (hb : BytesOk bs) (hp : 0 ≤ p) (hp' : p < 1099511627776) (hl : bs.length ≤ 2000) :
    CRun Tryz.prog 22 [.ptr (.g l) 0, i64 n] (rd σ l bs p) (· = .ret (i64 (zdb bs p n)) (rd σ l bs (p + 1))) := by
  have hs : rd σ l bs p l = some (.cells [.vec bs, i64 p]) := za _ _ _
  rw [show rd σ l bs (p + 1) = upd (rd σ l bs p) l (.cells [.vec bs, i64 (p + 1)]) by simp only [rd, xe]]
  generalize rd σ l bs p = σ at hs
  refine ZG [] Tryz.func22 Tryz.ntmps22 ?_
  by_cases hn : n < 1
  · have e : zdb bs p n = 0 := by unfold zdb; rw [if_pos (.inl hn)]
    rw [e]
    conv => whnf
    repeat' (first | refine Za ?_ | refine Zj ?_ | refine Zm ?_ | refine Zr ?_) <;> try (conv => whnf)
    rfl
  by_cases hz : bs.length = 0
  · have e : zdb bs p n = 0 := by unfold zdb; rw [if_pos (.inr hz)]
    rw [e]
    conv => whnf
    repeat' (first | refine Za ?_ | refine Zb ?_ | refine Zj ?_ | refine Zm ?_ | refine Zr ?_) <;> try (conv => whnf)
    rfl
  by_cases hk : p < bs.length
  · have e : zdb bs p n = (zx1 bs (p + 1 - 1).toNat).tmod n := by unfold zdb; rw [if_neg (by omega), if_pos hk]
    rw [e]
    have m0 := hb.get (i := (p + 1 - 1).toNat) (by omega)
    have m1 := hb.range (p + 1 - 1).toNat
    conv => whnf
    repeat' (first | refine Za ?_ | refine Zb ?_ | refine Zj ?_ | refine Zm ?_ | refine Zo ?_ | refine Zr ?_) <;> try (conv => whnf)
    rfl
  · have e : zdb bs p n = (z6j (ztz bs (p + 1 - 1)) ((ztz bs (p + 1 - 1)).tdiv 64)).tmod n := by unfold zdb; rw [if_neg (by omega), if_neg hk]
    rw [e]
    have d1 : 0 ≤ (p + 1 - 1).tmod bs.length ∧ (p + 1 - 1).tmod bs.length < bs.length := ⟨Int.tmod_nonneg _ (by omega), Int.tmod_lt_of_pos _ (by omega)⟩
    have d2 : 0 ≤ ((p + 1 - 1) * 7 + 3).tmod bs.length ∧ ((p + 1 - 1) * 7 + 3).tmod bs.length < bs.length := ⟨Int.tmod_nonneg _ (by omega), Int.tmod_lt_of_pos _ (by omega)⟩
    have g1 := hb.get (i := ((p + 1 - 1).tmod bs.length).toNat) (by omega)
    have g2 := hb.get (i := (((p + 1 - 1) * 7 + 3).tmod bs.length).toNat) (by omega)
    have m1 := hb.range (((p + 1 - 1).tmod bs.length).toNat)
    have m2 := hb.range ((((p + 1 - 1) * 7 + 3).tmod bs.length).toNat)
    have m3 : 0 ≤ (p + 1 - 1).tdiv bs.length := Int.tdiv_nonneg (by omega) (by omega)
    have m4 : (p + 1 - 1).tdiv bs.length ≤ p + 1 - 1 := Int.tdiv_le_self _ (by omega)
    have m5 : 0 ≤ ztz bs (p + 1 - 1) ∧ ztz bs (p + 1 - 1) < 1125899906842624 := by unfold ztz; omega
    have m6 : 0 ≤ (ztz bs (p + 1 - 1)).tdiv 64 := Int.tdiv_nonneg m5.1 (by omega)
    have m7 := Int.tdiv_le_self 64 m5.1
    simp only [ztz] at m5 m6 m7
    conv => whnf
    repeat' (first | refine Zb ?_ | refine Zj ?_ | refine Zm ?_ | refine Zn ?_ | refine Zo ?_ | refine Zr ?_) <;> try (conv => whnf)
    rfl
theorem yq {l : Nat} {σ : Heap} {bs : List CV} {p n : Int} (hb : BytesOk bs) (hl : bs.length ≤ 2000) (hp : 0 ≤ p) (hp' : p < 1099511627776) :
    CRun Tryz.prog 22 [.ptr (.g l) 0, i64 n] (rd σ l bs p) (fun out => ∃ k, (1 ≤ n → 0 ≤ k ∧ k < n) ∧ (n < 1 → k = 0) ∧ out = .ret (i64 k) (rd σ l bs (p + 1))) :=
  (z4s hb hp hp' hl).mono fun out h => ⟨zdb bs p n, fun hn => zou hb hp hp' hl hn, fun hn => by unfold zdb; rw [if_pos (.inl hn)], h⟩
theorem zsp {l : Nat} {σ : Heap} {bs xs : List CV} {p lo hi : Int} (hb : BytesOk bs) (hl : bs.length ≤ 2000) (hp : 0 ≤ p) (hp' : p < 1099511627776) (hx : Each (fun x => ∃ n, x = i64 n ∧ lo ≤ n ∧ n ≤ hi) xs) (h1 : 1 ≤ xs.length) (h2 : xs.length ≤ 1000) :
    CRun Tryz.prog 59 [.ptr (.g l) 0, .vec xs] (rd σ l bs p) (fun out => ∃ k, lo ≤ k ∧ k ≤ hi ∧ out = .ret (i64 k) (rd σ l bs (p + 1))) := by
  refine ZX Tryz.func59 Tryz.ntmps59 ?_
  conv => whnf
  repeat' (first | (refine CallN.many (yq hb hl hp hp') ?_; rintro _ ⟨k, hk1, hk2, rfl⟩) | (refine ElemN.any hx.all (by omega) ?_; rintro _ ⟨n, rfl, hn1, hn2⟩) | refine Zm ?_ | refine Zq ?_ | refine Zr ?_) <;> try (conv => whnf)
  exact ⟨_, hn1, hn2, rfl⟩
theorem z3z {l : Nat} {σ : Heap} {bs xs : List CV} {p : Int} {m : Nat} (hb : BytesOk bs) (hl : bs.length ≤ 2000) (hp : 0 ≤ p) (hp' : p < 1099511627776) (hx : Each (fun x => ∃ t : ByteArray, x = .sc (.string t) ∧ t.size ≤ m) xs) (h1 : 1 ≤ xs.length) (h2 : xs.length ≤ 1000) :
    CRun Tryz.prog 23 [.ptr (.g l) 0, .vec xs] (rd σ l bs p) (fun out => ∃ t : ByteArray, t.size ≤ m ∧ out = .ret (.sc (.string t)) (rd σ l bs (p + 1))) := by
  refine ZX Tryz.func23 Tryz.ntmps23 ?_
  conv => whnf
  repeat' (first | (refine CallN.many (yq hb hl hp hp') ?_; rintro _ ⟨k, hk1, hk2, rfl⟩) | (refine ElemN.any hx.all (by omega) ?_; rintro _ ⟨t, rfl, ht⟩) | refine Zm ?_ | refine Zq ?_ | refine Zr ?_) <;> try (conv => whnf)
  exact ⟨_, ht, rfl⟩
theorem z4w {σ : Heap} {bs : List CV} (hb : BytesOk bs) (h2 : bs.length ≤ 1048576) :
    CRun Tryz.prog 20 [.vec bs] σ (fun out => ∃ l bs', BytesOk bs' ∧ bs'.length ≤ 2000 ∧ out = .ret (.ptr (.g l) 0) (rd σ l bs' 0)) := by
  refine ZG [10] Tryz.func20 Tryz.ntmps20 ?_
  conv => whnf
  repeat' (first | refine Zv (fun h => ?_) (fun h => ?_) | refine Zm ?_ | refine Zu (fun l hl => ?_) | refine Zr ?_) <;> try (conv => whnf)
  · exact ⟨l, (bs.take 2000).drop 0, fun x hx => hb x (List.mem_of_mem_take (List.mem_of_mem_drop hx)), by simp; omega, rfl⟩
  · exact ⟨l, bs, hb, by omega, rfl⟩
inductive Val where
  | mk (k n : Int) (t : ByteArray) (l : List Val)
mutual
def Val.cv : Val → CV
  | .mk k n t l => .agg [i64 k, i64 n, .sc (.string t), .vec (Val.cvs l)]
def Val.cvs : List Val → List CV
  | [] => []
  | v :: r => v.cv :: Val.cvs r
end
inductive Tame : Val → Prop
  | mk {k n : Int} {t : ByteArray} {l : List Val} (hk : -100 ≤ k ∧ k ≤ 100) (hn : -2000000000 ≤ n ∧ n ≤ 2000000000) (ht : t.size ≤ 100) (hl : l.length ≤ 100) (h : ∀ v ∈ l, Tame v) : Tame (.mk k n t l)
theorem Tame.inv {k n : Int} {t : ByteArray} {l : List Val} (h : Tame (.mk k n t l)) : (-100 ≤ k ∧ k ≤ 100) ∧ (-2000000000 ≤ n ∧ n ≤ 2000000000) ∧ t.size ≤ 100 ∧ l.length ≤ 100 ∧ ∀ v ∈ l, Tame v := by
  cases h with
  | mk h1 h2 h3 h4 h5 => exact ⟨h1, h2, h3, h4, h5⟩
theorem zku (l : List Val) : Val.cvs l = l.map Val.cv := by
  induction l with
  | nil => rfl
  | cons v r ih => simp [Val.cvs, ih]
theorem ko (l m : List Val) : Val.cvs (l ++ m) = Val.cvs l ++ Val.cvs m := by simp [zku]
theorem zj (l : List Val) : (Val.cvs l).length = l.length := by simp [zku]
theorem zvi {σ : Heap} {s : ByteArray} {n : Nat} (hs : s.size ≤ 1) (hn' : n ≤ 40) :
    CRun Tryz.prog 82 [.sc (.string s), i64 n] σ (fun out => ∃ t : ByteArray, t.size ≤ n ∧ out = .ret (.sc (.string t)) σ) := by
  refine ZX Tryz.func82 Tryz.ntmps82 ?_
  conv => whnf
  have hN : s.size * n ≤ n := by have := Nat.mul_le_mul_right n hs; omega
  refine LoopN.rule (α := ByteArray × Nat × ByteArray) (fun a => ⟨20, [(0, .sc (.string a.1)), (1, i64 a.2.1), (4, .sc (.string ⟨#[]⟩)), (5, .sc (.string a.2.2))], []⟩) (fun _ => σ) (fun a => a.2.1)
    (fun a => a.2.2.size + a.1.size * a.2.1 ≤ n ∧ a.2.1 ≤ 40) ?_ (s, n, ⟨#[]⟩) ⟨by show 0 + s.size * n ≤ n; omega, hn'⟩ ?_
  · rintro ⟨s, m, out⟩ K ⟨h1, h2⟩ hK
    dsimp only at h1 h2 ⊢
    by_cases hm : m = 0
    · subst hm
      conv => whnf
      repeat' (first | refine Zb ?_ | refine Zr ?_) <;> try (conv => whnf)
      exact ⟨out, by omega, rfl⟩
    · have e1 : s.size ≤ s.size * m := Nat.le_mul_of_pos_right _ (by omega)
      have e2 : s.size * m = (s.size + s.size) * (m / 2) + s.size * (m % 2) := by
        rw [← Nat.two_mul, Nat.mul_comm 2, Nat.mul_assoc, ← Nat.mul_add, Nat.div_add_mod]
      have e3 : (m : Int).tmod 2 = ((m % 2 : Nat) : Int) := rfl
      have e4 : (m : Int).tdiv 2 = ((m / 2 : Nat) : Int) := rfl
      conv => whnf
      repeat' (first | refine Za ?_ | refine Zv (fun h => ?_) (fun h => ?_) | refine Zm ?_) <;> try (conv => whnf)
      · have e5 : m % 2 = 1 := by omega
        rw [e5] at e2
        refine hK (s ++ s, m / 2, out ++ s) _ _ ⟨?_, ?_⟩ (by simp only; omega) ?_
        · simp only [ByteArray.size_append]; omega
        · simp only; omega
        · exact ZW
      · have e5 : m % 2 = 0 := by omega
        rw [e5] at e2
        refine hK (s ++ s, m / 2, out) _ _ ⟨?_, ?_⟩ (by simp only; omega) ?_
        · simp only [ByteArray.size_append]; omega
        · simp only; omega
        · exact ZW
  · exact ZW
def zxd : Bool → Val
  | true => .mk 1 1 ⟨#[]⟩ []
  | false => .mk 1 0 ⟨#[]⟩ []
theorem z1b {σ : Heap} {b : Bool} : CRun Tryz.prog 110 [.sc (.bool b)] σ (· = .ret (zxd b).cv σ) := by
  refine ZX Tryz.func110 Tryz.ntmps110 ?_
  cases b
  · conv => whnf
    repeat' (first | refine Zr ?_) <;> try (conv => whnf)
    rfl
  · conv => whnf
    repeat' (first | refine Zr ?_) <;> try (conv => whnf)
    rfl
def z3s (σ : Heap) (l : Nat) (bs : List CV) (p : Int) (N : Nat) (out : COut) : Prop := ∃ v p', Tame v ∧ p ≤ p' ∧ p' ≤ p + N ∧ out = .ret (Val.cv v) (rd σ l bs p')
def cost : Nat → Nat
  | 0 => 4
  | d + 1 => 4 + 4 * cost d
theorem zd1 {l : Nat} {σ : Heap} {bs : List CV} (hb : BytesOk bs) (hl : bs.length ≤ 2000) : ∀ (d : Nat) {deep p : Int}, deep ≤ d + 1 → -10 ≤ deep → deep ≤ 1000 → 0 ≤ p → p + cost d < 1099511627776 →
    CRun Tryz.prog 83 [.ptr (.g l) 0, i64 deep] (rd σ l bs p) (z3s σ l bs p (cost d)) := by
  intro d
  induction d with
  | zero =>
    intro deep p hd hd' hd'' hp hp'
    simp only [cost] at hp' ⊢
    refine ZX Tryz.func83 Tryz.ntmps83 ?_
    conv => whnf
    repeat' (first | (refine CallN.many (yq hb hl (by omega) (by omega)) ?_; rintro _ ⟨k, hk1, hk2, rfl⟩) | (refine CallN.one z1b ?_) | (refine CallN.many (zvi (n := 16) (by decide) (by omega)) ?_; rintro _ ⟨t, ht, rfl⟩) | (refine CallN.many (z3z (m := 16) hb hl (by omega) (by omega) ?_ (Nat.le_of_ble_eq_true rfl) (Nat.le_of_ble_eq_true rfl)) ?_; (repeat' (first | exact (trivial : True) | refine And.intro ?_ ?_ | refine ⟨_, rfl, ?_⟩ | omega | decide)); rintro _ ⟨t, ht, rfl⟩) | (refine CallN.many (zsp (lo := -1) (hi := 1000000000) hb hl (by omega) (by omega) ?_ (Nat.le_of_ble_eq_true rfl) (Nat.le_of_ble_eq_true rfl)) ?_; (repeat' (first | exact (trivial : True) | refine And.intro ?_ ?_ | refine ⟨_, rfl, ?_⟩ | omega | decide)); rintro _ ⟨n, hn1, hn2, rfl⟩) | refine Zb ?_ | refine Zv (fun h => ?_) (fun h => ?_) | refine Zp ?_ | refine Zq ?_ | refine Zr ?_) <;> try (conv => whnf)
    all_goals exact ⟨.mk _ _ _ [], _, .mk (by omega) (by omega) (by first | omega | decide) (by decide) (by simp), by omega, by omega, rfl⟩
  | succ d ih =>
    intro deep p hd hd' hd'' hp hp'
    simp only [cost] at hp' ⊢
    refine ZX Tryz.func83 Tryz.ntmps83 ?_
    conv => whnf
    repeat' (first | (refine CallN.many (yq hb hl (by omega) (by omega)) ?_; rintro _ ⟨k, hk1, hk2, rfl⟩) | (refine CallN.one z1b ?_) | (refine CallN.many (zvi (n := 16) (by decide) (by omega)) ?_; rintro _ ⟨t, ht, rfl⟩) | (refine CallN.many (z3z (m := 16) hb hl (by omega) (by omega) ?_ (Nat.le_of_ble_eq_true rfl) (Nat.le_of_ble_eq_true rfl)) ?_; (repeat' (first | exact (trivial : True) | refine And.intro ?_ ?_ | refine ⟨_, rfl, ?_⟩ | omega | decide)); rintro _ ⟨t, ht, rfl⟩) | (refine CallN.many (zsp (lo := -1) (hi := 1000000000) hb hl (by omega) (by omega) ?_ (Nat.le_of_ble_eq_true rfl) (Nat.le_of_ble_eq_true rfl)) ?_; (repeat' (first | exact (trivial : True) | refine And.intro ?_ ?_ | refine ⟨_, rfl, ?_⟩ | omega | decide)); rintro _ ⟨n, hn1, hn2, rfl⟩) | refine Zv (fun h => ?_) (fun h => ?_) | refine Zp ?_ | refine Zq ?_ | refine Zr ?_) <;> try (conv => whnf)
    all_goals try exact ⟨.mk _ _ _ [], _, .mk (by omega) (by omega) (by first | omega | decide) (by decide) (by simp), by omega, by omega, rfl⟩
    refine LoopN.rule (α := Int × List Val × Int) (fun a => ⟨48, [(0, .ptr (.g l) 0), (1, i64 deep), (4, .ptr (.f 4) 0), (5, .ptr (.f 5) 0), (6, i64 a.1)],
        [(4, .cells [i64 0, i64 0, .sc (.string ⟨#[]⟩), .nil]), (5, .cells [i64 4, i64 0, .sc (.string ⟨#[]⟩), .avec 41 (Val.cvs a.2.1)]), (41, .tok 55 4 (Val.cvs a.2.1).length)]⟩)
      (fun a => rd σ l bs a.2.2) (fun a => a.1.toNat) (fun a => 0 ≤ a.1 ∧ a.2.1.length + a.1 ≤ 3 ∧ (∀ v ∈ a.2.1, Tame v) ∧ p ≤ a.2.2 ∧ a.2.2 + a.1 * cost d ≤ p + 2 + 3 * cost d) ?_ (k, [], p + 1 + 1) ⟨by omega, by simp; omega, by simp, by simp only; omega, ?_⟩ ?_
    · rintro ⟨n, vs, q⟩ K ⟨h1, h2, h3, h4, h5⟩ hK
      dsimp only at h1 h2 h3 h4 h5 ⊢
      have e1 : (n - 1) * (cost d : Int) = n * cost d - cost d := by rw [Int.sub_mul, Int.one_mul]
      have e2 : 0 ≤ n * (cost d : Int) := Int.mul_nonneg h1 (by omega)
      have e3 := zj vs
      conv => whnf
      repeat' (first | (refine CallN.many (ih (by omega) (by omega) (by omega) (by omega) (by omega)) ?_; rintro _ ⟨⟨vk, vn, vt, vl⟩, p', hv, hp1, hp2, rfl⟩) | refine Zi ?_ | refine Zg ?_ | refine Zv (fun h => ?_) (fun h => ?_) | refine Zk ?_ | refine Zm ?_ | refine Zn ?_ | refine Zq ?_ | refine Zr ?_) <;> try (conv => whnf)
      · refine hK (n - 1, vs ++ [.mk vk vn vt vl], p') _ _ ⟨by simp only; omega, by simp only [List.length_append, List.length_cons, List.length_nil]; omega, ?_, by simp only; omega, by simp only; omega⟩ (by simp only; omega) ?_
        · intro v h
          rcases List.mem_append.1 h with h | h
          · exact h3 v h
          · rcases List.mem_singleton.1 h with rfl; exact hv
        · dsimp only
          rw [ko, List.length_append]
          exact ZW
      · refine ⟨.mk 4 0 _ vs, q, .mk (by omega) (by omega) (by decide) (by omega) h3, by omega, by omega, rfl⟩
    · have e0 : k * (cost d : Int) ≤ 3 * cost d := Int.mul_le_mul_of_nonneg_right (by omega) (by omega)
      simp only; omega
    · exact ZW
def costV : Nat → Nat
  | 0 => 8 + cost 0
  | d + 1 => 8 + cost (d + 1) + 4 * costV d
theorem z1o {l : Nat} {σ : Heap} {bs : List CV} (hb : BytesOk bs) (hl : bs.length ≤ 2000) : ∀ (d : Nat) {deep p : Int}, deep ≤ d + 1 → -10 ≤ deep → deep ≤ 1000 → 0 ≤ p → p + costV d < 1099511627776 →
    CRun Tryz.prog 81 [.ptr (.g l) 0, i64 deep] (rd σ l bs p) (z3s σ l bs p (costV d)) := by
  intro d
  induction d with
  | zero =>
    intro deep p hd hd' hd'' hp hp'
    simp only [costV] at hp' ⊢
    refine ZX Tryz.func81 Tryz.ntmps81 ?_
    conv => whnf
    repeat' (first | (refine CallN.many (yq hb hl (by omega) (by omega)) ?_; rintro _ ⟨k, hk1, hk2, rfl⟩) | (refine CallN.many (zd1 hb hl 0 (by omega) (by omega) (by omega) (by omega) (by omega)) ?_; rintro _ ⟨⟨vk, vn, vt, vl⟩, p', hv, hp1, hp2, rfl⟩) | refine Zb ?_ | refine Zv (fun h => ?_) (fun h => ?_) | refine Zq ?_ | refine Zr ?_) <;> try (conv => whnf)
    all_goals first
      | exact ⟨.mk _ _ _ [], _, .mk (by omega) (by omega) (by first | omega | decide) (by decide) (by simp), by omega, by omega, rfl⟩
      | exact ⟨.mk vk vn vt vl, p', hv, by omega, by omega, rfl⟩
  | succ d ih =>
    intro deep p hd hd' hd'' hp hp'
    simp only [costV] at hp' ⊢
    refine ZX Tryz.func81 Tryz.ntmps81 ?_
    conv => whnf
    repeat' (first | (refine CallN.many (yq hb hl (by omega) (by omega)) ?_; rintro _ ⟨k, hk1, hk2, rfl⟩) | (refine CallN.many (zd1 hb hl (d + 1) (by omega) (by omega) (by omega) (by omega) (by omega)) ?_; rintro _ ⟨⟨vk, vn, vt, vl⟩, p', hv, hp1, hp2, rfl⟩) | refine Zv (fun h => ?_) (fun h => ?_) | refine Zq ?_ | refine Zr ?_) <;> try (conv => whnf)
    all_goals try first
      | exact ⟨.mk _ _ _ [], _, .mk (by omega) (by omega) (by first | omega | decide) (by decide) (by simp), by omega, by omega, rfl⟩
      | exact ⟨.mk vk vn vt vl, p', hv, by omega, by omega, rfl⟩
    refine LoopN.rule (α := Int × List Val × Int) (fun a => ⟨46, [(0, .ptr (.g l) 0), (1, i64 deep), (4, .ptr (.f 4) 0), (5, .ptr (.f 5) 0), (6, i64 a.1)],
        [(4, .cells [i64 0, i64 0, .sc (.string ⟨#[]⟩), .nil]), (5, .cells [i64 4, i64 0, .sc (.string ⟨#[]⟩), .avec 40 (Val.cvs a.2.1)]), (40, .tok 55 4 (Val.cvs a.2.1).length)]⟩)
      (fun a => rd σ l bs a.2.2) (fun a => a.1.toNat) (fun a => 0 ≤ a.1 ∧ a.2.1.length + a.1 ≤ 3 ∧ (∀ v ∈ a.2.1, Tame v) ∧ p ≤ a.2.2 ∧ a.2.2 + a.1 * costV d ≤ p + 2 + 3 * costV d) ?_ (k, [], p + 1 + 1) ⟨by omega, by simp; omega, by simp, by simp only; omega, ?_⟩ ?_
    · rintro ⟨n, vs, q⟩ K ⟨h1, h2, h3, h4, h5⟩ hK
      dsimp only at h1 h2 h3 h4 h5 ⊢
      have e1 : (n - 1) * (costV d : Int) = n * costV d - costV d := by rw [Int.sub_mul, Int.one_mul]
      have e2 : 0 ≤ n * (costV d : Int) := Int.mul_nonneg h1 (by omega)
      have e3 := zj vs
      conv => whnf
      repeat' (first | (refine CallN.many (ih (by omega) (by omega) (by omega) (by omega) (by omega)) ?_; rintro _ ⟨⟨vk, vn, vt, vl⟩, p', hv, hp1, hp2, rfl⟩) | refine Zi ?_ | refine Zg ?_ | refine Zv (fun h => ?_) (fun h => ?_) | refine Zk ?_ | refine Zm ?_ | refine Zn ?_ | refine Zq ?_ | refine Zr ?_) <;> try (conv => whnf)
      · refine hK (n - 1, vs ++ [.mk vk vn vt vl], p') _ _ ⟨by simp only; omega, by simp only [List.length_append, List.length_cons, List.length_nil]; omega, ?_, by simp only; omega, by simp only; omega⟩ (by simp only; omega) ?_
        · intro v h
          rcases List.mem_append.1 h with h | h
          · exact h3 v h
          · rcases List.mem_singleton.1 h with rfl; exact hv
        · dsimp only
          rw [ko, List.length_append]
          exact ZW
      · refine ⟨.mk 4 0 _ vs, q, .mk (by omega) (by omega) (by decide) (by omega) h3, by omega, by omega, rfl⟩
    · have e0 : k * (costV d : Int) ≤ 3 * costV d := Int.mul_le_mul_of_nonneg_right (by omega) (by omega)
      simp only; omega
    · exact ZW
theorem z59 {l : Nat} {σ : Heap} {bs : List CV} (hb : BytesOk bs) (hl : bs.length ≤ 2000) {p : Int} (hp : 0 ≤ p) (hp' : p < 549755813888) :
    CRun Tryz.prog 49 [.ptr (.g l) 0] (rd σ l bs p) (z3s σ l bs p 500) := by
  have c2 : costV 2 = 396 := rfl
  have c0 : cost 0 = 4 := rfl
  refine ZX Tryz.func49 Tryz.ntmps49 ?_
  conv => whnf
  repeat' (first | (refine CallN.many (z1o hb hl 2 (by omega) (by omega) (by omega) (by omega) (by omega)) ?_; rintro _ ⟨⟨vk, vn, vt, vl⟩, p', hv, hp1, hp2, rfl⟩; have ⟨a1, a2, a3, a4, a5⟩ := hv.inv) | (refine CallN.many (yq hb hl (by omega) (by omega)) ?_; rintro _ ⟨k, hk1, hk2, rfl⟩) | (refine CallN.many (zvi (n := 17) (by decide) (by omega)) ?_; rintro _ ⟨t, ht, rfl⟩) | (refine CallN.many (z3z (m := 17) hb hl (by omega) (by omega) ?_ (Nat.le_of_ble_eq_true rfl) (Nat.le_of_ble_eq_true rfl)) ?_; (repeat' (first | exact (trivial : True) | refine And.intro ?_ ?_ | refine ⟨_, rfl, ?_⟩ | omega | decide)); rintro _ ⟨t, ht, rfl⟩) | (refine CallN.many (zsp (lo := -1000000001) (hi := 1000000001) hb hl (by omega) (by omega) ?_ (Nat.le_of_ble_eq_true rfl) (Nat.le_of_ble_eq_true rfl)) ?_; (repeat' (first | exact (trivial : True) | refine And.intro ?_ ?_ | refine ⟨_, rfl, ?_⟩ | omega | decide)); rintro _ ⟨n, hn1, hn2, rfl⟩) | refine Zv (fun h => ?_) (fun h => ?_) | refine Zm ?_ | refine Zp ?_ | refine Zq ?_ | refine Zr ?_) <;> try (conv => whnf)
  · exact ⟨.mk _ _ _ vl, _, .mk (by omega) (by omega) (by omega) a4 a5, by omega, by omega, rfl⟩
  · exact ⟨.mk _ _ _ vl, _, .mk (by omega) (by omega) (by omega) a4 a5, by omega, by omega, rfl⟩
  · exact ⟨.mk _ _ _ vl, _, .mk (by omega) (by omega) (by omega) a4 a5, by omega, by omega, rfl⟩
  · exact ⟨.mk 4 0 ⟨#[]⟩ [.mk vk vn vt vl], _, .mk (by omega) (by omega) (by decide) (by simp) (by simpa using hv), by omega, by omega, rfl⟩
  · refine LoopN.rule (α := Int × List Val × Int) (fun a => ⟨51, [(0, .ptr (.g l) 0), (2, .ptr (.f 2) 0), (3, .ptr (.f 3) 0), (4, i64 a.1)],
        [(2, .cells [i64 0, i64 0, .sc (.string ⟨#[]⟩), .nil]), (3, .cells [i64 4, i64 0, .sc (.string ⟨#[]⟩), .avec 48 (Val.cvs a.2.1)]), (48, .tok 55 4 (Val.cvs a.2.1).length)]⟩)
      (fun a => rd σ l bs a.2.2) (fun a => a.1.toNat) (fun a => 0 ≤ a.1 ∧ a.2.1.length + a.1 ≤ 8 ∧ (∀ v ∈ a.2.1, Tame v) ∧ p ≤ a.2.2 ∧ a.2.2 + a.1 * 4 ≤ p' + 2 + 32) ?_ (6 + k, [], p' + 1 + 1) ⟨by simp only; omega, by simp; omega, by simp, by simp only; omega, by simp only; omega⟩ ?_
    · rintro ⟨n, vs, q⟩ K ⟨h1, h2, h3, h4, h5⟩ hK
      dsimp only at h1 h2 h3 h4 h5 ⊢
      have e3 := zj vs
      conv => whnf
      repeat' (first | (refine CallN.many (zd1 hb hl 0 (by omega) (by omega) (by omega) (by omega) (by omega)) ?_; rintro _ ⟨⟨vk, vn, vt, vl⟩, p', hv, hp1, hp2, rfl⟩) | refine Zi ?_ | refine Zg ?_ | refine Zv (fun h => ?_) (fun h => ?_) | refine Zk ?_ | refine Zm ?_ | refine Zn ?_ | refine Zq ?_ | refine Zr ?_) <;> try (conv => whnf)
      · refine hK (n - 1, vs ++ [.mk vk vn vt vl], p') _ _ ⟨by simp only; omega, by simp only [List.length_append, List.length_cons, List.length_nil]; omega, ?_, by simp only; omega, by simp only; omega⟩ (by simp only; omega) ?_
        · intro v h
          rcases List.mem_append.1 h with h | h
          · exact h3 v h
          · rcases List.mem_singleton.1 h with rfl; exact hv
        · dsimp only
          rw [ko, List.length_append]
          exact ZW
      · refine ⟨.mk 4 0 _ vs, q, .mk (by omega) (by omega) (by decide) (by omega) h3, by omega, by omega, rfl⟩
    · exact ZW
  · exact ⟨.mk _ _ _ vl, _, .mk (by omega) (by omega) (by omega) a4 a5, by omega, by omega, rfl⟩
theorem zkv {l : List Val} {i : Nat} (hi : i < l.length) : ∃ v, v ∈ l ∧ (Val.cvs l)[i]? = some (Val.cv v) ∧ l.take (i + 1) = l.take i ++ [v] := by
  refine ⟨l[i], List.getElem_mem hi, ?_, by rw [List.take_add_one, List.getElem?_eq_getElem hi]; rfl⟩
  rw [zku, List.getElem?_map, List.getElem?_eq_getElem hi]; rfl
theorem z07 {σ : Heap} {v : Val} (hv : Tame v) : CRun Tryz.prog 85 [v.cv] σ (· = .ret v.cv σ) := by
  induction hv with
  | @mk vk vn vt vl hk hn ht hl h ih =>
    refine ZX Tryz.func85 Tryz.ntmps85 ?_
    conv => whnf
    refine LoopN.rule (α := Nat) (fun i => ⟨31, [(1, .ptr (.f 1) 0), (2, .ptr (.f 2) 0), (3, .ptr (.f 3) 0), (4, i64 i)],
        [(1, .cells [i64 vk, i64 vn, .sc (.string vt), .vec (Val.cvs vl)]), (2, .cells [i64 0, i64 0, .sc (.string ⟨#[]⟩), .nil]), (3, .cells [i64 vk, i64 vn, .sc (.string vt), .avec 28 (Val.cvs (vl.take i))]), (28, .tok 55 4 (Val.cvs (vl.take i)).length)]⟩)
      (fun _ => σ) (fun i => vl.length - i) (fun i => i ≤ vl.length) ?_ 0 (Nat.zero_le _) ?_
    · intro i K h1 hK
      dsimp only at h1 ⊢
      have e3 := zj vl
      have e4 : (Val.cvs (vl.take i)).length = i := by rw [zj, List.length_take]; omega
      by_cases hi : i < vl.length
      · obtain ⟨⟨wk, wn, wt, wl⟩, hm, hg, htk⟩ := zkv hi
        have hK := hK (i + 1)
        rw [htk, ko, List.length_append] at hK
        conv => whnf
        repeat' (first | (refine CallN.one (ih _ hm) ?_) | refine Zi ?_ | refine Za ?_ | refine Zg ?_ | refine Zk ?_ | refine Zm ?_ | refine Zn ?_ | refine Zo ?_ | refine Zp ?_) <;> try (conv => whnf)
        refine hK _ _ (by omega) (by omega) ?_
        exact ZW
      · conv => whnf
        repeat' (first | refine Zb ?_ | refine Zr ?_) <;> try (conv => whnf)
        have : vl.take i = vl := List.take_of_length_le (by omega)
        rw [this]
        rfl
    · exact ZW
def zgq (c : UInt8) : Bool := !(decide ((c.toNat : Int) < 32) || decide (126 < (c.toNat : Int)) || decide ((c.toNat : Int) = 39))
def vr (t : ByteArray) : Bool := decide (t.size ≤ 16) && (List.range t.size).all fun i => zgq (t.data.getD i 0)
theorem zk8 {t : ByteArray} {i : Nat} (hi : i < t.size) (h : zgq (t.data.getD i 0) = false) : vr t = false := by
  unfold vr
  rw [Bool.and_eq_false_iff]
  right
  rw [List.all_eq_false]
  exact ⟨i, List.mem_range.2 hi, by rw [h]; simp⟩
theorem zhe {t : ByteArray} (hs : t.size ≤ 16) (h : ∀ i, i < t.size → zgq (t.data.getD i 0) = true) : vr t = true := by
  unfold vr
  rw [Bool.and_eq_true, List.all_eq_true]
  exact ⟨decide_eq_true hs, fun i hi => h i (List.mem_range.1 hi)⟩
theorem z7 {b b' : Bool} {σ : Heap} (h : b' = b) : COut.ret (.sc (.bool b)) σ = .ret (.sc (.bool b')) σ := by rw [h]
theorem zsa {σ : Heap} {t : ByteArray} (ht : t.size ≤ 1000000000) : CRun Tryz.prog 112 [.sc (.string t)] σ (· = .ret (.sc (.bool (vr t))) σ) := by
  refine ZX Tryz.func112 Tryz.ntmps112 ?_
  by_cases hs : t.size ≤ 16
  · conv => whnf
    repeat' (first | refine Zb ?_) <;> try (conv => whnf)
    refine LoopN.rule (α := Nat) (fun i => ⟨29, [(0, .sc (.string t)), (2, .sc (.bool false)), (3, i64 i)], []⟩)
      (fun _ => σ) (fun i => t.size - i) (fun i => i ≤ t.size ∧ ∀ j, j < i → zgq (t.data.getD j 0) = true) ?_ 0 ⟨Nat.zero_le _, by omega⟩ ?_
    · rintro i K ⟨h1, h2⟩ hK
      dsimp only at h1 h2 ⊢
      by_cases hi : i < t.size
      · have hb : zgq (t.data.getD i 0) = !(decide (((t.data.getD (i : Int).toNat 0).toNat : Int) < 32) || decide (126 < ((t.data.getD (i : Int).toNat 0).toNat : Int)) || decide (((t.data.getD (i : Int).toNat 0).toNat : Int) = 39)) := rfl
        conv => whnf
        repeat' (first | refine Za ?_ | refine Zv (fun h => ?_) (fun h => ?_) | refine Zm ?_ | refine Zr ?_) <;> try (conv => whnf)
        all_goals first
          | (refine hK (i + 1) _ _ ⟨by omega, fun j hj => ?_⟩ (by omega) ?_)
          | (exact z7 (zk8 hi (by rw [hb]; simp only [Bool.not_eq_false', Bool.or_eq_true, decide_eq_true_eq]; omega)))
        · by_cases hj' : j < i
          · exact h2 j hj'
          · have : j = i := by omega
            rw [this, hb]; simp only [Bool.not_eq_true', Bool.or_eq_false_iff, decide_eq_false_iff_not]; omega
        · exact ZW
      · conv => whnf
        repeat' (first | refine Zb ?_ | refine Zr ?_) <;> try (conv => whnf)
        exact z7 (zhe hs (fun j hj => h2 j (by omega)))
    · exact ZW
  · conv => whnf
    repeat' (first | refine Za ?_ | refine Zr ?_) <;> try (conv => whnf)
    have : vr t = false := by unfold vr; rw [decide_eq_false hs]; rfl
    exact z7 this
theorem zhf {σ : Heap} {t : ByteArray} {b : Bool} (hb : vr t = b) (ht : t.size ≤ 1000000000) : CRun Tryz.prog 112 [.sc (.string t)] σ (· = .ret (.sc (.bool b)) σ) := hb ▸ zsa ht
theorem zy5 {σ : Heap} {t : ByteArray} (ht : t.size ≤ 1000000000) : CRun Tryz.prog 113 [.sc (.string t)] σ (· = .ret (.sc (.bool (vr t))) σ) := by
  refine ZX Tryz.func113 Tryz.ntmps113 ?_
  conv => whnf
  refine LoopN.rule (α := Nat) (fun i => ⟨29, [(0, .sc (.string t)), (2, .sc (.bool false)), (3, i64 i)], []⟩)
    (fun _ => σ) (fun i => t.size - i) (fun i => i ≤ t.size ∧ ∀ j, j < i → zgq (t.data.getD j 0) = true) ?_ 0 ⟨Nat.zero_le _, by omega⟩ ?_
  · rintro i K ⟨h1, h2⟩ hK
    dsimp only at h1 h2 ⊢
    by_cases hi : i < t.size
    · have hb : zgq (t.data.getD i 0) = !(decide (((t.data.getD (i : Int).toNat 0).toNat : Int) < 32) || decide (126 < ((t.data.getD (i : Int).toNat 0).toNat : Int)) || decide (((t.data.getD (i : Int).toNat 0).toNat : Int) = 39)) := rfl
      conv => whnf
      repeat' (first | refine Za ?_ | refine Zv (fun h => ?_) (fun h => ?_) | refine Zm ?_ | refine Zr ?_) <;> try (conv => whnf)
      all_goals first
        | (refine hK (i + 1) _ _ ⟨by omega, fun j hj => ?_⟩ (by omega) ?_)
        | (exact z7 (zk8 hi (by rw [hb]; simp only [Bool.not_eq_false', Bool.or_eq_true, decide_eq_true_eq]; omega)))
      · by_cases hj' : j < i
        · exact h2 j hj'
        · have : j = i := by omega
          rw [this, hb]; simp only [Bool.not_eq_true', Bool.or_eq_false_iff, decide_eq_false_iff_not]; omega
      · exact ZW
    · conv => whnf
      repeat' (first | refine Zb ?_ | refine Zv (fun h => ?_) (fun h => ?_) | refine Zr ?_) <;> try (conv => whnf)
      · exact z7 (zhe (by omega) (fun j hj => h2 j (by omega)))
      · have : vr t = false := by unfold vr; rw [decide_eq_false (by omega)]; rfl
        exact z7 this
  · exact ZW
theorem zq7 {σ : Heap} {t : ByteArray} {b : Bool} (hb : vr t = b) (ht : t.size ≤ 1000000000) : CRun Tryz.prog 113 [.sc (.string t)] σ (· = .ret (.sc (.bool b)) σ) := hb ▸ zy5 ht
theorem in_c {σ : Heap} {n lo hi : Int} : CRun Tryz.prog 32 [i64 n, i64 lo, i64 hi] σ (· = .ret (.sc (.bool (decide (lo ≤ n ∧ n ≤ hi)))) σ) := by
  refine ZX Tryz.func32 Tryz.ntmps32 ?_
  conv => whnf
  repeat' (first | refine Zv (fun h => ?_) (fun h => ?_) | refine Zr ?_) <;> try (conv => whnf)
  · rw [decide_eq_true (by omega)]
  · rw [decide_eq_false (by omega)]
  · rw [decide_eq_false (by omega)]
mutual
def okV : Int → Val → Bool
  | d, .mk k n t l => decide (1 ≤ d) && (
    if k = 0 then decide (n = 0) && decide (t = ⟨#[]⟩) && decide (l.length = 0)
    else if k = 1 then decide (0 ≤ n ∧ n ≤ 1) && decide (t = ⟨#[]⟩) && decide (l.length = 0)
    else if k = 2 then decide (-1000000000 ≤ n ∧ n ≤ 1000000000) && decide (t = ⟨#[]⟩) && decide (l.length = 0)
    else if k = 3 then decide (n = 0) && vr t && decide (l.length = 0)
    else if k = 5 ∨ k = 6 then decide (0 ≤ n ∧ n ≤ 1000000000) && decide (t = ⟨#[]⟩) && decide (l.length = 0)
    else if k = 4 then decide (n = 0) && decide (t = ⟨#[]⟩) && decide (l.length ≤ 6) && okL (d - 1) l
    else false)
def okL : Int → List Val → Bool
  | _, [] => true
  | d, v :: r => okV d v && okL d r
end
theorem zjx {d : Int} {l : List Val} : okL d l = l.all (okV d) := by
  induction l with
  | nil => rfl
  | cons v r ih => simp [okL, ih]
theorem z5q {σ : Heap} {v : Val} (hv : Tame v) : ∀ {d : Int}, -10 ≤ d → d ≤ 1000 → CRun Tryz.prog 86 [v.cv, i64 d] σ (· = .ret (.sc (.bool (okV d v))) σ) := by
  induction hv with
  | @mk k n t l hk hn ht hl h ih =>
    intro d hd hd'
    have e3 := zj l
    refine ZX Tryz.func86 Tryz.ntmps86 ?_
    have key : ∀ b, okV d (.mk k n t l) = b → COut.ret (.sc (.bool b)) σ = .ret (.sc (.bool (okV d (.mk k n t l)))) σ := fun b h => z7 h
    by_cases d1 : d < 1
    · conv => whnf
      repeat' (first | refine Za ?_ | refine Zr ?_) <;> try (conv => whnf)
      exact key _ (by simp only [okV]; rw [decide_eq_false (by omega)]; rfl)
    have d2 : decide (1 ≤ d) = true := decide_eq_true (by omega)
    by_cases k0 : k = 0
    · subst k0
      have okk : okV d (.mk 0 n t l) = (decide (n = 0) && decide (t = ⟨#[]⟩) && decide (l.length = 0)) := by simp only [okV, d2]; rfl
      conv => whnf
      repeat' (first | refine Za ?_ | refine Zb ?_ | refine Zv (fun h => ?_) (fun h => ?_) | refine Zr ?_) <;> try (conv => whnf)
      all_goals first
        | exact key _ (by rw [okk]; simp only [Bool.and_eq_true, decide_eq_true_eq]; exact ⟨⟨by omega, by assumption⟩, by omega⟩)
        | exact key _ (by rw [okk]; simp only [Bool.and_eq_false_iff, decide_eq_false_iff_not]; first | exact .inl (.inl (by omega)) | exact .inl (.inr (by assumption)) | exact .inr (by omega))
    by_cases k1 : k = 1
    · subst k1
      have okk : okV d (.mk 1 n t l) = (decide (0 ≤ n ∧ n ≤ 1) && decide (t = ⟨#[]⟩) && decide (l.length = 0)) := by simp only [okV, d2]; rfl
      conv => whnf
      repeat' (first | refine Za ?_ | refine Zb ?_ | refine Zv (fun h => ?_) (fun h => ?_) | refine Zr ?_) <;> try (conv => whnf)
      all_goals first
        | exact key _ (by rw [okk]; simp only [Bool.and_eq_true, decide_eq_true_eq]; exact ⟨⟨by omega, by assumption⟩, by omega⟩)
        | exact key _ (by rw [okk]; simp only [Bool.and_eq_false_iff, decide_eq_false_iff_not]; first | exact .inl (.inl (by omega)) | exact .inl (.inr (by assumption)) | exact .inr (by omega))
    by_cases k2 : k = 2
    · subst k2
      have okk : okV d (.mk 2 n t l) = (decide (-1000000000 ≤ n ∧ n ≤ 1000000000) && decide (t = ⟨#[]⟩) && decide (l.length = 0)) := by simp only [okV, d2]; rfl
      conv => whnf
      repeat' (first | refine Za ?_ | refine Zb ?_ | refine Zv (fun h => ?_) (fun h => ?_) | refine Zr ?_) <;> try (conv => whnf)
      all_goals first
        | exact key _ (by rw [okk]; simp only [Bool.and_eq_true, decide_eq_true_eq]; exact ⟨⟨by omega, by assumption⟩, by omega⟩)
        | exact key _ (by rw [okk]; simp only [Bool.and_eq_false_iff, decide_eq_false_iff_not]; first | exact .inl (.inl (by omega)) | exact .inl (.inr (by assumption)) | exact .inr (by omega))
    by_cases k3 : k = 3
    · subst k3
      have okk : okV d (.mk 3 n t l) = (decide (n = 0) && vr t && decide (l.length = 0)) := by simp only [okV, d2]; rfl
      cases htx : vr t
      · conv => whnf
        repeat' (first | (refine CallN.one (zhf htx (by omega)) ?_) | refine Za ?_ | refine Zb ?_ | refine Zv (fun h => ?_) (fun h => ?_) | refine Zp ?_ | refine Zr ?_) <;> try (conv => whnf)
        all_goals first
          | exact key _ (by rw [okk]; simp only [Bool.and_eq_true, decide_eq_true_eq]; exact ⟨⟨by omega, by assumption⟩, by omega⟩)
          | exact key _ (by rw [okk]; simp only [Bool.and_eq_false_iff, decide_eq_false_iff_not]; first | exact .inl (.inl (by omega)) | exact .inl (.inr (by assumption)) | exact .inr (by omega))
      · conv => whnf
        repeat' (first | (refine CallN.one (zhf htx (by omega)) ?_) | refine Za ?_ | refine Zb ?_ | refine Zv (fun h => ?_) (fun h => ?_) | refine Zp ?_ | refine Zr ?_) <;> try (conv => whnf)
        all_goals first
          | exact key _ (by rw [okk]; simp only [Bool.and_eq_true, decide_eq_true_eq]; exact ⟨⟨by omega, by assumption⟩, by omega⟩)
          | exact key _ (by rw [okk]; simp only [Bool.and_eq_false_iff, decide_eq_false_iff_not]; first | exact .inl (.inl (by omega)) | exact .inl (.inr (by assumption)) | exact .inr (by omega))
    by_cases k5 : k = 5
    · subst k5
      have okk : okV d (.mk 5 n t l) = (decide (0 ≤ n ∧ n ≤ 1000000000) && decide (t = ⟨#[]⟩) && decide (l.length = 0)) := by simp only [okV, d2]; rfl
      conv => whnf
      repeat' (first | refine Za ?_ | refine Zb ?_ | refine Zv (fun h => ?_) (fun h => ?_) | refine Zr ?_) <;> try (conv => whnf)
      all_goals first
        | exact key _ (by rw [okk]; simp only [Bool.and_eq_true, decide_eq_true_eq]; exact ⟨⟨by omega, by assumption⟩, by omega⟩)
        | exact key _ (by rw [okk]; simp only [Bool.and_eq_false_iff, decide_eq_false_iff_not]; first | exact .inl (.inl (by omega)) | exact .inl (.inr (by assumption)) | exact .inr (by omega))
    by_cases k6 : k = 6
    · subst k6
      have okk : okV d (.mk 6 n t l) = (decide (0 ≤ n ∧ n ≤ 1000000000) && decide (t = ⟨#[]⟩) && decide (l.length = 0)) := by simp only [okV, d2]; rfl
      conv => whnf
      repeat' (first | refine Za ?_ | refine Zb ?_ | refine Zv (fun h => ?_) (fun h => ?_) | refine Zr ?_) <;> try (conv => whnf)
      all_goals first
        | exact key _ (by rw [okk]; simp only [Bool.and_eq_true, decide_eq_true_eq]; exact ⟨⟨by omega, by assumption⟩, by omega⟩)
        | exact key _ (by rw [okk]; simp only [Bool.and_eq_false_iff, decide_eq_false_iff_not]; first | exact .inl (.inl (by omega)) | exact .inl (.inr (by assumption)) | exact .inr (by omega))
    by_cases k4 : k = 4
    · subst k4
      have okk : okV d (.mk 4 n t l) = (decide (n = 0) && decide (t = ⟨#[]⟩) && decide (l.length ≤ 6) && okL (d - 1) l) := by simp only [okV, d2]; rfl
      by_cases hn0 : n = 0
      case neg =>
        conv => whnf
        repeat' (first | refine Za ?_ | refine Zb ?_ | refine Zc ?_ | refine Zr ?_) <;> try (conv => whnf)
        exact key _ (by rw [okk, decide_eq_false hn0]; rfl)
      by_cases ht0 : t = ⟨#[]⟩
      case neg =>
        conv => whnf
        repeat' (first | refine Za ?_ | refine Zb ?_ | refine Zc ?_ | refine Zd ?_ | refine Zr ?_) <;> try (conv => whnf)
        exact key _ (by rw [okk, decide_eq_false ht0, Bool.and_false]; rfl)
      by_cases hl0 : l.length ≤ 6
      case neg =>
        conv => whnf
        repeat' (first | refine Za ?_ | refine Zb ?_ | refine Zd ?_ | refine Zr ?_) <;> try (conv => whnf)
        exact key _ (by rw [okk, decide_eq_false hl0, Bool.and_false]; rfl)
      rw [decide_eq_true hn0, decide_eq_true ht0, decide_eq_true hl0, Bool.true_and, Bool.true_and, Bool.true_and, zjx] at okk
      conv => whnf
      repeat' (first | refine Za ?_ | refine Zb ?_ | refine Zd ?_) <;> try (conv => whnf)
      refine LoopN.rule (α := Nat) (fun i => ⟨136, [(1, i64 d), (2, .ptr (.f 2) 0), (4, .sc (.bool false)), (124, .vec (Val.cvs l)), (125, i64 (Val.cvs l).length), (126, i64 i)], [(2, .cells [i64 4, i64 n, .sc (.string t), .vec (Val.cvs l)])]⟩)
        (fun _ => σ) (fun i => l.length - i) (fun i => i ≤ l.length ∧ (l.take i).all (okV (d - 1)) = true) ?_ 0 ⟨Nat.zero_le _, rfl⟩ ?_
      · rintro i K ⟨h1, h2⟩ hK
        dsimp only at h1 h2 ⊢
        by_cases hi : i < l.length
        · obtain ⟨w, hm, hg, htk⟩ := zkv hi
          have hc := ih w hm (d := d - 1) (by omega) (by omega)
          have hK := hK (i + 1)
          cases hw : okV (d - 1) w with
          | true =>
            rw [hw] at hc
            obtain ⟨wk, wn, wt, wl⟩ := w
            conv => whnf
            repeat' (first | (refine CallN.one hc ?_) | refine Za ?_ | refine Zm ?_ | refine Zo ?_ | refine Zp ?_) <;> try (conv => whnf)
            refine hK _ _ ⟨by omega, by rw [htk, List.all_append, h2]; simp [hw]⟩ (by omega) ?_
            exact ZW
          | false =>
            rw [hw] at hc
            have hno : okV d (.mk 4 n t l) = false := by rw [okk, List.all_eq_false]; exact ⟨w, hm, by simp [hw]⟩
            obtain ⟨wk, wn, wt, wl⟩ := w
            conv => whnf
            repeat' (first | (refine CallN.one hc ?_) | refine Za ?_ | refine Zm ?_ | refine Zo ?_ | refine Zp ?_ | refine Zr ?_) <;> try (conv => whnf)
            exact key _ hno
        · conv => whnf
          repeat' (first | refine Zb ?_ | refine Zr ?_) <;> try (conv => whnf)
          have : l.take i = l := List.take_of_length_le (by omega)
          rw [this] at h2
          exact key _ (by rw [okk, h2])
      · exact ZW
    · conv => whnf
      repeat' (first | refine Zb ?_ | refine Zr ?_) <;> try (conv => whnf)
      all_goals exact key _ (by simp only [okV, d2]; rw [if_neg k0, if_neg k1, if_neg k2, if_neg k3, if_neg (by omega), if_neg k4]; rfl)
theorem z19 {d : Int} {v : Val} (h : d < 1) : okV d v = false := by
  cases v
  simp only [okV]; rw [decide_eq_false (by omega)]; rfl
theorem z2r {σ : Heap} {n lo hi : Int} : CRun Tryz.prog 32 [i64 n, i64 lo, i64 hi] σ (fun out => ((lo ≤ n ∧ n ≤ hi) ∧ out = .ret (.sc (.bool true)) σ) ∨ (¬ (lo ≤ n ∧ n ≤ hi) ∧ out = .ret (.sc (.bool false)) σ)) :=
  in_c.mono fun out h => by
    by_cases hr : lo ≤ n ∧ n ≤ hi
    · rw [decide_eq_true hr] at h; exact .inl ⟨hr, h⟩
    · rw [decide_eq_false hr] at h; exact .inr ⟨hr, h⟩
theorem z5e {σ : Heap} {v : Val} (hv : Tame v) : ∀ {d : Int}, 1 ≤ d → d ≤ 1000 → CRun Tryz.prog 87 [v.cv, i64 d] σ (· = .ret (.sc (.bool (okV d v))) σ) := by
  induction hv with
  | @mk k n t l hk hn ht hl h ih =>
    intro d hd hd'
    have e3 := zj l
    refine ZX Tryz.func87 Tryz.ntmps87 ?_
    have key : ∀ b, okV d (.mk k n t l) = b → COut.ret (.sc (.bool b)) σ = .ret (.sc (.bool (okV d (.mk k n t l)))) σ := fun b h => z7 h
    have d2 : decide (1 ≤ d) = true := decide_eq_true (by omega)
    by_cases k0 : k = 0
    · subst k0
      have okk : okV d (.mk 0 n t l) = (decide (n = 0) && decide (t = ⟨#[]⟩) && decide (l.length = 0)) := by simp only [okV, d2]; rfl
      conv => whnf
      repeat' (first | refine Za ?_ | refine Zv (fun h => ?_) (fun h => ?_) | refine Zr ?_) <;> try (conv => whnf)
      all_goals first
        | exact key _ (by rw [okk]; simp only [Bool.and_eq_true, decide_eq_true_eq]; exact ⟨⟨by omega, by assumption⟩, by omega⟩)
        | exact key _ (by rw [okk]; simp only [Bool.and_eq_false_iff, decide_eq_false_iff_not]; first | exact .inl (.inl (by omega)) | exact .inl (.inr (by assumption)) | exact .inr (by omega))
    by_cases k1 : k = 1
    · subst k1
      have okk : okV d (.mk 1 n t l) = (decide (0 ≤ n ∧ n ≤ 1) && decide (t = ⟨#[]⟩) && decide (l.length = 0)) := by simp only [okV, d2]; rfl
      conv => whnf
      repeat' (first | (refine CallN.many z2r ?_; rintro _ (⟨hr, rfl⟩ | ⟨hr, rfl⟩)) | refine Za ?_ | refine Zb ?_ | refine Zv (fun h => ?_) (fun h => ?_) | refine Zp ?_ | refine Zr ?_) <;> try (conv => whnf)
      all_goals first
        | exact key _ (by rw [okk]; simp only [Bool.and_eq_true, decide_eq_true_eq]; exact ⟨⟨by omega, by assumption⟩, by omega⟩)
        | exact key _ (by rw [okk]; simp only [Bool.and_eq_false_iff, decide_eq_false_iff_not]; first | exact .inl (.inl (by omega)) | exact .inl (.inr (by assumption)) | exact .inr (by omega))
    by_cases k2 : k = 2
    · subst k2
      have okk : okV d (.mk 2 n t l) = (decide (-1000000000 ≤ n ∧ n ≤ 1000000000) && decide (t = ⟨#[]⟩) && decide (l.length = 0)) := by simp only [okV, d2]; rfl
      conv => whnf
      repeat' (first | (refine CallN.many z2r ?_; rintro _ (⟨hr, rfl⟩ | ⟨hr, rfl⟩)) | refine Za ?_ | refine Zb ?_ | refine Zv (fun h => ?_) (fun h => ?_) | refine Zp ?_ | refine Zr ?_) <;> try (conv => whnf)
      all_goals first
        | exact key _ (by rw [okk]; simp only [Bool.and_eq_true, decide_eq_true_eq]; exact ⟨⟨by omega, by assumption⟩, by omega⟩)
        | exact key _ (by rw [okk]; simp only [Bool.and_eq_false_iff, decide_eq_false_iff_not]; first | exact .inl (.inl (by omega)) | exact .inl (.inr (by assumption)) | exact .inr (by omega))
    by_cases k3 : k = 3
    · subst k3
      have okk : okV d (.mk 3 n t l) = (decide (n = 0) && vr t && decide (l.length = 0)) := by simp only [okV, d2]; rfl
      cases htx : vr t
      · conv => whnf
        repeat' (first | (refine CallN.one (zq7 htx (by omega)) ?_) | refine Za ?_ | refine Zb ?_ | refine Zv (fun h => ?_) (fun h => ?_) | refine Zp ?_ | refine Zr ?_) <;> try (conv => whnf)
        all_goals first
          | exact key _ (by rw [okk]; simp only [Bool.and_eq_true, decide_eq_true_eq]; exact ⟨⟨by omega, by assumption⟩, by omega⟩)
          | exact key _ (by rw [okk]; simp only [Bool.and_eq_false_iff, decide_eq_false_iff_not]; first | exact .inl (.inl (by omega)) | exact .inl (.inr (by assumption)) | exact .inr (by omega))
      · conv => whnf
        repeat' (first | (refine CallN.one (zq7 htx (by omega)) ?_) | refine Za ?_ | refine Zb ?_ | refine Zv (fun h => ?_) (fun h => ?_) | refine Zp ?_ | refine Zr ?_) <;> try (conv => whnf)
        all_goals first
          | exact key _ (by rw [okk]; simp only [Bool.and_eq_true, decide_eq_true_eq]; exact ⟨⟨by omega, by assumption⟩, by omega⟩)
          | exact key _ (by rw [okk]; simp only [Bool.and_eq_false_iff, decide_eq_false_iff_not]; first | exact .inl (.inl (by omega)) | exact .inl (.inr (by assumption)) | exact .inr (by omega))
    by_cases k5 : k = 5
    · subst k5
      have okk : okV d (.mk 5 n t l) = (decide (0 ≤ n ∧ n ≤ 1000000000) && decide (t = ⟨#[]⟩) && decide (l.length = 0)) := by simp only [okV, d2]; rfl
      conv => whnf
      repeat' (first | (refine CallN.many z2r ?_; rintro _ (⟨hr, rfl⟩ | ⟨hr, rfl⟩)) | refine Za ?_ | refine Zb ?_ | refine Zv (fun h => ?_) (fun h => ?_) | refine Zp ?_ | refine Zr ?_) <;> try (conv => whnf)
      all_goals first
        | exact key _ (by rw [okk]; simp only [Bool.and_eq_true, decide_eq_true_eq]; exact ⟨⟨by omega, by assumption⟩, by omega⟩)
        | exact key _ (by rw [okk]; simp only [Bool.and_eq_false_iff, decide_eq_false_iff_not]; first | exact .inl (.inl (by omega)) | exact .inl (.inr (by assumption)) | exact .inr (by omega))
    by_cases k6 : k = 6
    · subst k6
      have okk : okV d (.mk 6 n t l) = (decide (0 ≤ n ∧ n ≤ 1000000000) && decide (t = ⟨#[]⟩) && decide (l.length = 0)) := by simp only [okV, d2]; rfl
      conv => whnf
      repeat' (first | (refine CallN.many z2r ?_; rintro _ (⟨hr, rfl⟩ | ⟨hr, rfl⟩)) | refine Za ?_ | refine Zb ?_ | refine Zv (fun h => ?_) (fun h => ?_) | refine Zp ?_ | refine Zr ?_) <;> try (conv => whnf)
      all_goals first
        | exact key _ (by rw [okk]; simp only [Bool.and_eq_true, decide_eq_true_eq]; exact ⟨⟨by omega, by assumption⟩, by omega⟩)
        | exact key _ (by rw [okk]; simp only [Bool.and_eq_false_iff, decide_eq_false_iff_not]; first | exact .inl (.inl (by omega)) | exact .inl (.inr (by assumption)) | exact .inr (by omega))
    by_cases k4 : k = 4
    · subst k4
      have okk : okV d (.mk 4 n t l) = (decide (n = 0) && decide (t = ⟨#[]⟩) && decide (l.length ≤ 6) && okL (d - 1) l) := by simp only [okV, d2]; rfl
      rw [zjx] at okk
      conv => whnf
      repeat' (first | refine Za ?_ | refine Zb ?_ | refine Zv (fun h => ?_) (fun h => ?_)) <;> try (conv => whnf)
      all_goals
        refine LoopN.rule (α := Nat) (fun i => ⟨103, [(1, i64 d), (2, .ptr (.f 2) 0), (4, .sc (.bool false)), (6, i64 i)], [(2, .cells [i64 4, i64 n, .sc (.string t), .vec (Val.cvs l)])]⟩)
          (fun _ => σ) (fun i => l.length - i) (fun i => i ≤ l.length ∧ (l.take i).all (okV (d - 1)) = true) ?_ 0 ⟨Nat.zero_le _, rfl⟩ ?_
        rotate_left
        exact ZW
      all_goals
        rintro i K ⟨h1, h2⟩ hK
        dsimp only at h1 h2 ⊢
        by_cases hi : i < l.length
        · obtain ⟨w, hm, hg, htk⟩ := zkv hi
          by_cases hd1 : d < 2
          · have hno : okV d (.mk 4 n t l) = false := by rw [okk, Bool.and_eq_false_iff, List.all_eq_false]; exact .inr ⟨w, hm, by rw [z19 (by omega)]; simp⟩
            conv => whnf
            repeat' (first | refine Za ?_ | refine Zr ?_) <;> try (conv => whnf)
            all_goals exact key _ hno
          have hc := ih w hm (d := d - 1) (by omega) (by omega)
          have hK := hK (i + 1)
          cases hw : okV (d - 1) w with
          | true =>
            rw [hw] at hc
            obtain ⟨wk, wn, wt, wl⟩ := w
            conv => whnf
            repeat' (first | (refine CallN.one hc ?_) | refine Za ?_ | refine Zb ?_ | refine Zm ?_ | refine Zo ?_ | refine Zp ?_ | refine Zr ?_) <;> try (conv => whnf)
            all_goals first
              | (exfalso; omega)
              | (refine hK _ _ ⟨by omega, by rw [htk, List.all_append, h2]; simp [hw]⟩ (by omega) ?_)
            all_goals
              exact ZW
          | false =>
            rw [hw] at hc
            have hno : okV d (.mk 4 n t l) = false := by rw [okk, Bool.and_eq_false_iff, List.all_eq_false]; exact .inr ⟨w, hm, by simp [hw]⟩
            obtain ⟨wk, wn, wt, wl⟩ := w
            conv => whnf
            repeat' (first | (refine CallN.one hc ?_) | refine Za ?_ | refine Zb ?_ | refine Zm ?_ | refine Zo ?_ | refine Zp ?_ | refine Zr ?_) <;> try (conv => whnf)
            all_goals first
              | (exfalso; omega)
              | exact key _ hno
        · have : l.take i = l := List.take_of_length_le (by omega)
          rw [this] at h2
          rw [h2, Bool.and_true] at okk
          conv => whnf
          repeat' (first | refine Za ?_ | refine Zb ?_ | refine Zv (fun h => ?_) (fun h => ?_) | refine Zr ?_) <;> try (conv => whnf)
          all_goals first
            | exact key _ (by rw [okk]; simp only [Bool.and_eq_true, decide_eq_true_eq]; exact ⟨⟨by omega, by assumption⟩, by omega⟩)
            | exact key _ (by rw [okk]; simp only [Bool.and_eq_false_iff, decide_eq_false_iff_not]; first | exact .inl (.inl (by omega)) | exact .inl (.inr (by assumption)) | exact .inr (by omega))
    · conv => whnf
      repeat' (first | refine Zb ?_ | refine Zv (fun h => ?_) (fun h => ?_) | refine Zr ?_) <;> try (conv => whnf)
      all_goals exact key _ (by simp only [okV, d2]; rw [if_neg k0, if_neg k1, if_neg k2, if_neg k3, if_neg (by omega), if_neg k4]; rfl)
theorem qj {σ : Heap} {v : Val} (hv : Tame v) : CRun Tryz.prog 51 [v.cv] σ (· = .ret (.sc (.bool (okV 3 v))) σ) := by
  refine ZX Tryz.func51 Tryz.ntmps51 ?_
  have hc := z5q (σ := σ) hv (d := 3) (by omega) (by omega)
  obtain ⟨k, n, t, l⟩ := v
  conv => whnf
  repeat' (first | (refine CallN.one hc ?_) | refine Zp ?_ | refine Zr ?_) <;> try (conv => whnf)
theorem zij {σ : Heap} {v : Val} (hv : Tame v) : CRun Tryz.prog 54 [v.cv] σ (· = .ret (.sc (.bool (okV 3 v))) σ) := by
  refine ZX Tryz.func54 Tryz.ntmps54 ?_
  have hc := z5e (σ := σ) hv (d := 3) (by omega) (by omega)
  obtain ⟨k, n, t, l⟩ := v
  conv => whnf
  repeat' (first | (refine CallN.one hc ?_) | refine Zp ?_ | refine Zr ?_) <;> try (conv => whnf)
def zg (a b : Int) : Int := if a < b then -1 else if b < a then 1 else 0
def zor (k : Int) : Int := if k = 0 then 6 else if k = 1 then 4 else if k = 2 then 5 else if k = 3 then 3 else if k = 4 then 2 else if k = 5 then 0 else if k = 6 then 1 else 7
def zk7 (s t : ByteArray) : Int := if Op.bytesLess s.toList t.toList = true then -1 else if (!(Op.bytesLess s.toList t.toList || decide (s = t))) = true then 1 else 0
theorem zcs {a b : Int} {σ : Heap} (h : b = a) : COut.ret (i64 a) σ = .ret (i64 b) σ := by rw [h]
mutual
def z0q : Val → Val → Int
  | .mk k n t l, .mk k' n' t' l' =>
    if k ≠ k' then zg (zor k) (zor k')
    else if k = 3 then zk7 t t'
    else if k = 4 then z6l l l'
    else zg n n'
def z6l : List Val → List Val → Int
  | [], m => zg 0 m.length
  | v :: r, [] => zg (r.length + 1) 0
  | v :: r, w :: s => if z0q v w ≠ 0 then z0q v w else z6l r s
end
theorem ki {l : List Val} {i : Nat} {v : Val} (h : l[i]? = some v) : l.drop i = v :: l.drop (i + 1) := by
  obtain ⟨hi, rfl⟩ := List.getElem?_eq_some_iff.1 h
  exact List.drop_eq_getElem_cons hi
theorem za6 {l : List Val} {i : Nat} (hi : i < l.length) : ∃ v, v ∈ l ∧ l[i]? = some v ∧ (Val.cvs l)[i]? = some (Val.cv v) := by
  refine ⟨l[i], List.getElem_mem hi, List.getElem?_eq_getElem hi, ?_⟩
  rw [zku, List.getElem?_map, List.getElem?_eq_getElem hi]; rfl
theorem zvw (a b c : Int) : zg (a + c) (b + c) = zg a b := by
  unfold zg
  by_cases h1 : a < b
  · rw [if_pos h1, if_pos (by omega)]
  · rw [if_neg h1, if_neg (by omega)]
    by_cases h2 : b < a
    · rw [if_pos h2, if_pos (by omega)]
    · rw [if_neg h2, if_neg (by omega)]
def nullV : Val := .mk 0 0 ⟨#[]⟩ []
def zna (a b : Val) : Val := match a, b with
  | .mk k n t l, .mk k' n' t' l' => if k = k' ∧ (k = 2 ∨ k = 3 ∨ k = 1) then zxd (decide (z0q (.mk k n t l) (.mk k' n' t' l') < 0)) else nullV
theorem zyu {σ : Heap} {a : Int} : CRun Tryz.prog 199 [i64 a] σ (· = .ret (.sc (.bool false)) σ) := by
  refine ZX Tryz.func199 Tryz.ntmps199 ?_
  conv => whnf
  repeat' (first | refine Zd ?_ | refine Zr ?_) <;> try (conv => whnf)
theorem zzy {σ : Heap} {a b : Int} : CRun Tryz.prog 197 [i64 a, i64 b] σ (· = .ret (i64 (zg a b)) σ) := by
  refine ZX Tryz.func197 Tryz.ntmps197 ?_
  conv => whnf
  repeat' (first | (refine CallN.one zyu ?_) | refine Zv (fun h => ?_) (fun h => ?_) | refine Zp ?_ | refine Zr ?_) <;> try (conv => whnf)
  all_goals first
    | exact zcs (if_pos (by assumption))
    | exact zcs ((if_neg (by assumption)).trans (if_pos (by assumption)))
    | exact zcs ((if_neg (by assumption)).trans (if_neg (by assumption)))
theorem z2i {σ : Heap} {a : Int} : CRun Tryz.prog 200 [i64 a] σ (· = .ret (.sc (.bool false)) σ) := by
  refine ZX Tryz.func200 Tryz.ntmps200 ?_
  conv => whnf
  repeat' (first | refine Zd ?_ | refine Zr ?_) <;> try (conv => whnf)
theorem zr {σ : Heap} {a b : Int} : CRun Tryz.prog 198 [i64 a, i64 b] σ (· = .ret (i64 (zg a b)) σ) := by
  refine ZX Tryz.func198 Tryz.ntmps198 ?_
  conv => whnf
  repeat' (first | (refine CallN.one z2i ?_) | refine Zv (fun h => ?_) (fun h => ?_) | refine Zp ?_ | refine Zr ?_) <;> try (conv => whnf)
  all_goals first
    | exact zcs (if_pos (by assumption))
    | exact zcs ((if_neg (by assumption)).trans (if_pos (by assumption)))
    | exact zcs ((if_neg (by assumption)).trans (if_neg (by assumption)))
theorem zyv {σ : Heap} {a : Int} : CRun Tryz.prog 204 [i64 a] σ (· = .ret (.sc (.bool false)) σ) := by
  refine ZX Tryz.func204 Tryz.ntmps204 ?_
  conv => whnf
  repeat' (first | refine Zd ?_ | refine Zr ?_) <;> try (conv => whnf)
theorem zzz {σ : Heap} {a b : Int} : CRun Tryz.prog 203 [i64 a, i64 b] σ (· = .ret (i64 (zg a b)) σ) := by
  refine ZX Tryz.func203 Tryz.ntmps203 ?_
  conv => whnf
  repeat' (first | (refine CallN.one zyv ?_) | refine Zv (fun h => ?_) (fun h => ?_) | refine Zp ?_ | refine Zr ?_) <;> try (conv => whnf)
  all_goals first
    | exact zcs (if_pos (by assumption))
    | exact zcs ((if_neg (by assumption)).trans (if_pos (by assumption)))
    | exact zcs ((if_neg (by assumption)).trans (if_neg (by assumption)))
theorem zyw {σ : Heap} {a : Int} : CRun Tryz.prog 214 [i64 a] σ (· = .ret (.sc (.bool false)) σ) := by
  refine ZX Tryz.func214 Tryz.ntmps214 ?_
  conv => whnf
  repeat' (first | refine Zd ?_ | refine Zr ?_) <;> try (conv => whnf)
theorem zz0 {σ : Heap} {a b : Int} : CRun Tryz.prog 213 [i64 a, i64 b] σ (· = .ret (i64 (zg a b)) σ) := by
  refine ZX Tryz.func213 Tryz.ntmps213 ?_
  conv => whnf
  repeat' (first | (refine CallN.one zyw ?_) | refine Zv (fun h => ?_) (fun h => ?_) | refine Zp ?_ | refine Zr ?_) <;> try (conv => whnf)
  all_goals first
    | exact zcs (if_pos (by assumption))
    | exact zcs ((if_neg (by assumption)).trans (if_pos (by assumption)))
    | exact zcs ((if_neg (by assumption)).trans (if_neg (by assumption)))
theorem z2h {σ : Heap} {a : Int} : CRun Tryz.prog 218 [i64 a] σ (· = .ret (.sc (.bool false)) σ) := by
  refine ZX Tryz.func218 Tryz.ntmps218 ?_
  conv => whnf
  repeat' (first | refine Zd ?_ | refine Zr ?_) <;> try (conv => whnf)
theorem z3d {σ : Heap} {a b : Int} : CRun Tryz.prog 217 [i64 a, i64 b] σ (· = .ret (i64 (zg a b)) σ) := by
  refine ZX Tryz.func217 Tryz.ntmps217 ?_
  conv => whnf
  repeat' (first | (refine CallN.one z2h ?_) | refine Zv (fun h => ?_) (fun h => ?_) | refine Zp ?_ | refine Zr ?_) <;> try (conv => whnf)
  all_goals first
    | exact zcs (if_pos (by assumption))
    | exact zcs ((if_neg (by assumption)).trans (if_pos (by assumption)))
    | exact zcs ((if_neg (by assumption)).trans (if_neg (by assumption)))
theorem zj1 {σ : Heap} {a : ByteArray} : CRun Tryz.prog 210 [.sc (.string a)] σ (· = .ret (.sc (.bool false)) σ) := by
  refine ZX Tryz.func210 Tryz.ntmps210 ?_
  have h : (!decide (a = a)) = false := by simp
  conv => whnf
  repeat' (first | refine Zg ?_ | refine Zr ?_) <;> try (conv => whnf)
theorem zzx {σ : Heap} {t t' : ByteArray} : CRun Tryz.prog 209 [.sc (.string t), .sc (.string t')] σ (· = .ret (i64 (zk7 t t')) σ) := by
  refine ZX Tryz.func209 Tryz.ntmps209 ?_
  by_cases t1 : Op.bytesLess t.toList t'.toList = true
  · conv => whnf
    repeat' (first | (refine CallN.one zj1 ?_) | refine Ze ?_ | refine Zp ?_ | refine Zr ?_) <;> try (conv => whnf)
    exact zcs (if_pos t1)
  have t1' : Op.bytesLess t.toList t'.toList = false := by simpa using t1
  by_cases t2 : (!(Op.bytesLess t.toList t'.toList || decide (t = t'))) = true
  · conv => whnf
    repeat' (first | (refine CallN.one zj1 ?_) | refine Ze ?_ | refine Zg ?_ | refine Zp ?_ | refine Zr ?_) <;> try (conv => whnf)
    exact zcs ((if_neg t1).trans (if_pos t2))
  · have t2' : (!(Op.bytesLess t.toList t'.toList || decide (t = t'))) = false := Bool.eq_false_iff.mpr t2
    conv => whnf
    repeat' (first | (refine CallN.one zj1 ?_) | refine Zg ?_ | refine Zp ?_ | refine Zr ?_) <;> try (conv => whnf)
    exact zcs ((if_neg t1).trans (if_neg t2))
theorem y6 {σ : Heap} {x : CV} : CRun Tryz.prog 196 [x] σ (· = .ret (i64 0) σ) := by
  refine ZX Tryz.func196 Tryz.ntmps196 ?_
  conv => whnf
  repeat' (first | refine Zr ?_) <;> try (conv => whnf)
  rfl
theorem y8 {σ : Heap} {x : CV} : CRun Tryz.prog 202 [x] σ (· = .ret (i64 1) σ) := by
  refine ZX Tryz.func202 Tryz.ntmps202 ?_
  conv => whnf
  repeat' (first | refine Zr ?_) <;> try (conv => whnf)
  rfl
theorem y7 {σ : Heap} {x : CV} : CRun Tryz.prog 206 [x] σ (· = .ret (i64 2) σ) := by
  refine ZX Tryz.func206 Tryz.ntmps206 ?_
  conv => whnf
  repeat' (first | refine Zr ?_) <;> try (conv => whnf)
  rfl
theorem y5 {σ : Heap} {x : CV} : CRun Tryz.prog 208 [x] σ (· = .ret (i64 3) σ) := by
  refine ZX Tryz.func208 Tryz.ntmps208 ?_
  conv => whnf
  repeat' (first | refine Zr ?_) <;> try (conv => whnf)
  rfl
theorem y9 {σ : Heap} {x : CV} : CRun Tryz.prog 212 [x] σ (· = .ret (i64 4) σ) := by
  refine ZX Tryz.func212 Tryz.ntmps212 ?_
  conv => whnf
  repeat' (first | refine Zr ?_) <;> try (conv => whnf)
  rfl
theorem wy {σ : Heap} {x : CV} : CRun Tryz.prog 216 [x] σ (· = .ret (i64 5) σ) := by
  refine ZX Tryz.func216 Tryz.ntmps216 ?_
  conv => whnf
  repeat' (first | refine Zr ?_) <;> try (conv => whnf)
  rfl
theorem yu {σ : Heap} : CRun Tryz.prog 220 [.agg []] σ (· = .ret (i64 6) σ) := by
  refine ZX Tryz.func220 Tryz.ntmps220 ?_
  conv => whnf
  repeat' (first | refine Zr ?_) <;> try (conv => whnf)
  rfl
def zi : Val → CV
  | .mk k n t l => if k = 5 then .iface 220 (i64 n) else if k = 6 then .iface 221 (i64 n) else if k = 4 then .iface 222 (.vec (Val.cvs l)) else if k = 3 then .iface 223 (.sc (.string t))
    else if k = 1 then .iface 224 (i64 n) else if k = 2 then .iface 225 (i64 n) else .iface 227 (.agg [])
theorem z1d {a b : CV} {σ : Heap} (h : b = a) : COut.ret a σ = .ret b σ := by rw [h]
theorem zc {σ : Heap} {v : Val} : CRun Tryz.prog 176 [v.cv] σ (· = .ret (zi v) σ) := by
  obtain ⟨k, n, t, l⟩ := v
  refine ZX Tryz.func176 Tryz.ntmps176 ?_
  by_cases h5 : k = 5
  · conv => whnf
    repeat' (first | refine Za ?_ | refine Zr ?_) <;> try (conv => whnf)
    exact z1d (if_pos h5)
  by_cases h6 : k = 6
  · conv => whnf
    repeat' (first | refine Za ?_ | refine Zb ?_ | refine Zr ?_) <;> try (conv => whnf)
    exact z1d ((if_neg h5).trans (if_pos h6))
  by_cases h4 : k = 4
  · conv => whnf
    repeat' (first | refine Za ?_ | refine Zb ?_ | refine Zr ?_) <;> try (conv => whnf)
    exact z1d ((if_neg h5).trans ((if_neg h6).trans (if_pos h4)))
  by_cases h3 : k = 3
  · conv => whnf
    repeat' (first | refine Za ?_ | refine Zb ?_ | refine Zr ?_) <;> try (conv => whnf)
    exact z1d ((if_neg h5).trans ((if_neg h6).trans ((if_neg h4).trans (if_pos h3))))
  by_cases h1 : k = 1
  · conv => whnf
    repeat' (first | refine Za ?_ | refine Zb ?_ | refine Zr ?_) <;> try (conv => whnf)
    exact z1d ((if_neg h5).trans ((if_neg h6).trans ((if_neg h4).trans ((if_neg h3).trans (if_pos h1)))))
  by_cases h2 : k = 2
  · conv => whnf
    repeat' (first | refine Za ?_ | refine Zb ?_ | refine Zr ?_) <;> try (conv => whnf)
    exact z1d ((if_neg h5).trans ((if_neg h6).trans ((if_neg h4).trans ((if_neg h3).trans ((if_neg h1).trans (if_pos h2))))))
  · conv => whnf
    repeat' (first | refine Zb ?_ | refine Zr ?_) <;> try (conv => whnf)
    exact z1d ((if_neg h5).trans ((if_neg h6).trans ((if_neg h4).trans ((if_neg h3).trans ((if_neg h1).trans (if_neg h2))))))
end Go.Proofs.YtlamgfimgadnmaaGreat
namespace Go.Proofs.YtlamgfimgadnmaaGreat
open Go Go.CL
set_option maxRecDepth 100000
theorem MethN.of {P : Program} {t : TypeId} {name : String} {k : FuncId → Prop} {f : FuncId} (h : yt P t name f) (hk : k f) : MethN P t name k := ⟨⟨f, h, hk⟩⟩
def zc5 (k : Int) : Int := if k = 5 then 0 else if k = 6 then 1 else if k = 4 then 2 else if k = 3 then 3 else if k = 1 then 4 else if k = 2 then 5 else 6
theorem x0 : yt Tryz.prog 220 "loop.example/ashlar/impl.order" 195 := fun v w => by
  show (method (Tryz.prog.types.size + Made.depth) 220 v "loop.example/ashlar/impl.order").run Tryz.prog w = _
  kernel_rfl
theorem jd : yt Tryz.prog 220 "loop.example/ashlar/impl.rank" 196 := fun v w => by
  show (method (Tryz.prog.types.size + Made.depth) 220 v "loop.example/ashlar/impl.rank").run Tryz.prog w = _
  kernel_rfl
theorem xq : zk3 Tryz.prog 220 "loop.example/ashlar/impl.order" := fun v w => by
  show (nilAhead (Tryz.prog.types.size + Made.depth) 220 v "loop.example/ashlar/impl.order").run Tryz.prog w = _
  kernel_rfl
theorem x6 : yt Tryz.prog 221 "loop.example/ashlar/impl.order" 201 := fun v w => by
  show (method (Tryz.prog.types.size + Made.depth) 221 v "loop.example/ashlar/impl.order").run Tryz.prog w = _
  kernel_rfl
theorem jf : yt Tryz.prog 221 "loop.example/ashlar/impl.rank" 202 := fun v w => by
  show (method (Tryz.prog.types.size + Made.depth) 221 v "loop.example/ashlar/impl.rank").run Tryz.prog w = _
  kernel_rfl
theorem xv : zk3 Tryz.prog 221 "loop.example/ashlar/impl.order" := fun v w => by
  show (nilAhead (Tryz.prog.types.size + Made.depth) 221 v "loop.example/ashlar/impl.order").run Tryz.prog w = _
  kernel_rfl
theorem x5 : yt Tryz.prog 222 "loop.example/ashlar/impl.order" 205 := fun v w => by
  show (method (Tryz.prog.types.size + Made.depth) 222 v "loop.example/ashlar/impl.order").run Tryz.prog w = _
  kernel_rfl
theorem je : yt Tryz.prog 222 "loop.example/ashlar/impl.rank" 206 := fun v w => by
  show (method (Tryz.prog.types.size + Made.depth) 222 v "loop.example/ashlar/impl.rank").run Tryz.prog w = _
  kernel_rfl
theorem xr : zk3 Tryz.prog 222 "loop.example/ashlar/impl.order" := fun v w => by
  show (nilAhead (Tryz.prog.types.size + Made.depth) 222 v "loop.example/ashlar/impl.order").run Tryz.prog w = _
  kernel_rfl
theorem xy : yt Tryz.prog 223 "loop.example/ashlar/impl.order" 207 := fun v w => by
  show (method (Tryz.prog.types.size + Made.depth) 223 v "loop.example/ashlar/impl.order").run Tryz.prog w = _
  kernel_rfl
theorem jc : yt Tryz.prog 223 "loop.example/ashlar/impl.rank" 208 := fun v w => by
  show (method (Tryz.prog.types.size + Made.depth) 223 v "loop.example/ashlar/impl.rank").run Tryz.prog w = _
  kernel_rfl
theorem xm : zk3 Tryz.prog 223 "loop.example/ashlar/impl.order" := fun v w => by
  show (nilAhead (Tryz.prog.types.size + Made.depth) 223 v "loop.example/ashlar/impl.order").run Tryz.prog w = _
  kernel_rfl
theorem x7 : yt Tryz.prog 224 "loop.example/ashlar/impl.order" 211 := fun v w => by
  show (method (Tryz.prog.types.size + Made.depth) 224 v "loop.example/ashlar/impl.order").run Tryz.prog w = _
  kernel_rfl
theorem jg : yt Tryz.prog 224 "loop.example/ashlar/impl.rank" 212 := fun v w => by
  show (method (Tryz.prog.types.size + Made.depth) 224 v "loop.example/ashlar/impl.rank").run Tryz.prog w = _
  kernel_rfl
theorem xx : zk3 Tryz.prog 224 "loop.example/ashlar/impl.order" := fun v w => by
  show (nilAhead (Tryz.prog.types.size + Made.depth) 224 v "loop.example/ashlar/impl.order").run Tryz.prog w = _
  kernel_rfl
theorem w8 : yt Tryz.prog 225 "loop.example/ashlar/impl.order" 215 := fun v w => by
  show (method (Tryz.prog.types.size + Made.depth) 225 v "loop.example/ashlar/impl.order").run Tryz.prog w = _
  kernel_rfl
theorem kl : yt Tryz.prog 225 "loop.example/ashlar/impl.rank" 216 := fun v w => by
  show (method (Tryz.prog.types.size + Made.depth) 225 v "loop.example/ashlar/impl.rank").run Tryz.prog w = _
  kernel_rfl
theorem w7 : zk3 Tryz.prog 225 "loop.example/ashlar/impl.order" := fun v w => by
  show (nilAhead (Tryz.prog.types.size + Made.depth) 225 v "loop.example/ashlar/impl.order").run Tryz.prog w = _
  kernel_rfl
theorem xz : yt Tryz.prog 227 "loop.example/ashlar/impl.order" 219 := fun v w => by
  show (method (Tryz.prog.types.size + Made.depth) 227 v "loop.example/ashlar/impl.order").run Tryz.prog w = _
  kernel_rfl
theorem w9 : yt Tryz.prog 227 "loop.example/ashlar/impl.rank" 220 := fun v w => by
  show (method (Tryz.prog.types.size + Made.depth) 227 v "loop.example/ashlar/impl.rank").run Tryz.prog w = _
  kernel_rfl
theorem xo : zk3 Tryz.prog 227 "loop.example/ashlar/impl.order" := fun v w => by
  show (nilAhead (Tryz.prog.types.size + Made.depth) 227 v "loop.example/ashlar/impl.order").run Tryz.prog w = _
  kernel_rfl
theorem zi8 {σ : Heap} {a b : Int} {s0 s : ByteArray} {m : List CV} : CRun Tryz.prog 195 [i64 a, .iface 220 (i64 b)] σ (· = .ret (i64 (zg a b)) σ) := by
  refine ZX Tryz.func195 Tryz.ntmps195 ?_
  conv => whnf
  repeat' (first | (refine CallN.one zzy ?_) | refine Zp ?_ | refine Zr ?_) <;> try (conv => whnf)
  rfl
theorem zja {σ : Heap} {a b : Int} {s0 s : ByteArray} {m : List CV} : CRun Tryz.prog 195 [i64 a, .iface 221 (i64 b)] σ (· = .ret (i64 (zg 0 1)) σ) := by
  refine ZX Tryz.func195 Tryz.ntmps195 ?_
  conv => whnf
  repeat' (first | (refine MethN.of jf ?_) | (refine CallN.one y6 ?_) | (refine CallN.one y8 ?_) | (refine CallN.one zr ?_) | refine Zp ?_ | refine Zr ?_) <;> try (conv => whnf)
  rfl
theorem zi9 {σ : Heap} {a b : Int} {s0 s : ByteArray} {m : List CV} : CRun Tryz.prog 195 [i64 a, .iface 222 (.vec m)] σ (· = .ret (i64 (zg 0 2)) σ) := by
  refine ZX Tryz.func195 Tryz.ntmps195 ?_
  conv => whnf
  repeat' (first | (refine MethN.of je ?_) | (refine CallN.one y6 ?_) | (refine CallN.one y7 ?_) | (refine CallN.one zr ?_) | refine Zp ?_ | refine Zr ?_) <;> try (conv => whnf)
  rfl
theorem zi6 {σ : Heap} {a b : Int} {s0 s : ByteArray} {m : List CV} : CRun Tryz.prog 195 [i64 a, .iface 223 (.sc (.string s))] σ (· = .ret (i64 (zg 0 3)) σ) := by
  refine ZX Tryz.func195 Tryz.ntmps195 ?_
  conv => whnf
  repeat' (first | (refine MethN.of jc ?_) | (refine CallN.one y6 ?_) | (refine CallN.one y5 ?_) | (refine CallN.one zr ?_) | refine Zp ?_ | refine Zr ?_) <;> try (conv => whnf)
  rfl
theorem zjb {σ : Heap} {a b : Int} {s0 s : ByteArray} {m : List CV} : CRun Tryz.prog 195 [i64 a, .iface 224 (i64 b)] σ (· = .ret (i64 (zg 0 4)) σ) := by
  refine ZX Tryz.func195 Tryz.ntmps195 ?_
  conv => whnf
  repeat' (first | (refine MethN.of jg ?_) | (refine CallN.one y6 ?_) | (refine CallN.one y9 ?_) | (refine CallN.one zr ?_) | refine Zp ?_ | refine Zr ?_) <;> try (conv => whnf)
  rfl
theorem zlz {σ : Heap} {a b : Int} {s0 s : ByteArray} {m : List CV} : CRun Tryz.prog 195 [i64 a, .iface 225 (i64 b)] σ (· = .ret (i64 (zg 0 5)) σ) := by
  refine ZX Tryz.func195 Tryz.ntmps195 ?_
  conv => whnf
  repeat' (first | (refine MethN.of kl ?_) | (refine CallN.one y6 ?_) | (refine CallN.one wy ?_) | (refine CallN.one zr ?_) | refine Zp ?_ | refine Zr ?_) <;> try (conv => whnf)
  rfl
theorem zi7 {σ : Heap} {a b : Int} {s0 s : ByteArray} {m : List CV} : CRun Tryz.prog 195 [i64 a, .iface 227 (.agg [])] σ (· = .ret (i64 (zg 0 6)) σ) := by
  refine ZX Tryz.func195 Tryz.ntmps195 ?_
  conv => whnf
  repeat' (first | (refine MethN.of w9 ?_) | (refine CallN.one y6 ?_) | (refine CallN.one yu ?_) | (refine CallN.one zr ?_) | refine Zp ?_ | refine Zr ?_) <;> try (conv => whnf)
  rfl
theorem zjk {σ : Heap} {a b : Int} {s0 s : ByteArray} {m : List CV} : CRun Tryz.prog 201 [i64 a, .iface 220 (i64 b)] σ (· = .ret (i64 (zg 1 0)) σ) := by
  refine ZX Tryz.func201 Tryz.ntmps201 ?_
  conv => whnf
  repeat' (first | (refine MethN.of jd ?_) | (refine CallN.one y8 ?_) | (refine CallN.one y6 ?_) | (refine CallN.one zr ?_) | refine Zp ?_ | refine Zr ?_) <;> try (conv => whnf)
  rfl
theorem zjm {σ : Heap} {a b : Int} {s0 s : ByteArray} {m : List CV} : CRun Tryz.prog 201 [i64 a, .iface 221 (i64 b)] σ (· = .ret (i64 (zg a b)) σ) := by
  refine ZX Tryz.func201 Tryz.ntmps201 ?_
  conv => whnf
  repeat' (first | (refine CallN.one zzz ?_) | refine Zp ?_ | refine Zr ?_) <;> try (conv => whnf)
  rfl
theorem zjl {σ : Heap} {a b : Int} {s0 s : ByteArray} {m : List CV} : CRun Tryz.prog 201 [i64 a, .iface 222 (.vec m)] σ (· = .ret (i64 (zg 1 2)) σ) := by
  refine ZX Tryz.func201 Tryz.ntmps201 ?_
  conv => whnf
  repeat' (first | (refine MethN.of je ?_) | (refine CallN.one y8 ?_) | (refine CallN.one y7 ?_) | (refine CallN.one zr ?_) | refine Zp ?_ | refine Zr ?_) <;> try (conv => whnf)
  rfl
theorem zji {σ : Heap} {a b : Int} {s0 s : ByteArray} {m : List CV} : CRun Tryz.prog 201 [i64 a, .iface 223 (.sc (.string s))] σ (· = .ret (i64 (zg 1 3)) σ) := by
  refine ZX Tryz.func201 Tryz.ntmps201 ?_
  conv => whnf
  repeat' (first | (refine MethN.of jc ?_) | (refine CallN.one y8 ?_) | (refine CallN.one y5 ?_) | (refine CallN.one zr ?_) | refine Zp ?_ | refine Zr ?_) <;> try (conv => whnf)
  rfl
theorem zjn {σ : Heap} {a b : Int} {s0 s : ByteArray} {m : List CV} : CRun Tryz.prog 201 [i64 a, .iface 224 (i64 b)] σ (· = .ret (i64 (zg 1 4)) σ) := by
  refine ZX Tryz.func201 Tryz.ntmps201 ?_
  conv => whnf
  repeat' (first | (refine MethN.of jg ?_) | (refine CallN.one y8 ?_) | (refine CallN.one y9 ?_) | (refine CallN.one zr ?_) | refine Zp ?_ | refine Zr ?_) <;> try (conv => whnf)
  rfl
theorem zl1 {σ : Heap} {a b : Int} {s0 s : ByteArray} {m : List CV} : CRun Tryz.prog 201 [i64 a, .iface 225 (i64 b)] σ (· = .ret (i64 (zg 1 5)) σ) := by
  refine ZX Tryz.func201 Tryz.ntmps201 ?_
  conv => whnf
  repeat' (first | (refine MethN.of kl ?_) | (refine CallN.one y8 ?_) | (refine CallN.one wy ?_) | (refine CallN.one zr ?_) | refine Zp ?_ | refine Zr ?_) <;> try (conv => whnf)
  rfl
theorem zjj {σ : Heap} {a b : Int} {s0 s : ByteArray} {m : List CV} : CRun Tryz.prog 201 [i64 a, .iface 227 (.agg [])] σ (· = .ret (i64 (zg 1 6)) σ) := by
  refine ZX Tryz.func201 Tryz.ntmps201 ?_
  conv => whnf
  repeat' (first | (refine MethN.of w9 ?_) | (refine CallN.one y8 ?_) | (refine CallN.one yu ?_) | (refine CallN.one zr ?_) | refine Zp ?_ | refine Zr ?_) <;> try (conv => whnf)
  rfl
theorem ziw {σ : Heap} {a b : Int} {s0 s : ByteArray} {m : List CV} : CRun Tryz.prog 207 [.sc (.string s0), .iface 220 (i64 b)] σ (· = .ret (i64 (zg 3 0)) σ) := by
  refine ZX Tryz.func207 Tryz.ntmps207 ?_
  conv => whnf
  repeat' (first | (refine MethN.of jd ?_) | (refine CallN.one y5 ?_) | (refine CallN.one y6 ?_) | (refine CallN.one zr ?_) | refine Zp ?_ | refine Zr ?_) <;> try (conv => whnf)
  rfl
theorem ziy {σ : Heap} {a b : Int} {s0 s : ByteArray} {m : List CV} : CRun Tryz.prog 207 [.sc (.string s0), .iface 221 (i64 b)] σ (· = .ret (i64 (zg 3 1)) σ) := by
  refine ZX Tryz.func207 Tryz.ntmps207 ?_
  conv => whnf
  repeat' (first | (refine MethN.of jf ?_) | (refine CallN.one y5 ?_) | (refine CallN.one y8 ?_) | (refine CallN.one zr ?_) | refine Zp ?_ | refine Zr ?_) <;> try (conv => whnf)
  rfl
theorem zix {σ : Heap} {a b : Int} {s0 s : ByteArray} {m : List CV} : CRun Tryz.prog 207 [.sc (.string s0), .iface 222 (.vec m)] σ (· = .ret (i64 (zg 3 2)) σ) := by
  refine ZX Tryz.func207 Tryz.ntmps207 ?_
  conv => whnf
  repeat' (first | (refine MethN.of je ?_) | (refine CallN.one y5 ?_) | (refine CallN.one y7 ?_) | (refine CallN.one zr ?_) | refine Zp ?_ | refine Zr ?_) <;> try (conv => whnf)
  rfl
theorem ziu {σ : Heap} {a b : Int} {s0 s : ByteArray} {m : List CV} : CRun Tryz.prog 207 [.sc (.string s0), .iface 223 (.sc (.string s))] σ (· = .ret (i64 (zk7 s0 s)) σ) := by
  refine ZX Tryz.func207 Tryz.ntmps207 ?_
  conv => whnf
  repeat' (first | (refine CallN.one zzx ?_) | refine Zp ?_ | refine Zr ?_) <;> try (conv => whnf)
  rfl
theorem ziz {σ : Heap} {a b : Int} {s0 s : ByteArray} {m : List CV} : CRun Tryz.prog 207 [.sc (.string s0), .iface 224 (i64 b)] σ (· = .ret (i64 (zg 3 4)) σ) := by
  refine ZX Tryz.func207 Tryz.ntmps207 ?_
  conv => whnf
  repeat' (first | (refine MethN.of jg ?_) | (refine CallN.one y5 ?_) | (refine CallN.one y9 ?_) | (refine CallN.one zr ?_) | refine Zp ?_ | refine Zr ?_) <;> try (conv => whnf)
  rfl
theorem zlr {σ : Heap} {a b : Int} {s0 s : ByteArray} {m : List CV} : CRun Tryz.prog 207 [.sc (.string s0), .iface 225 (i64 b)] σ (· = .ret (i64 (zg 3 5)) σ) := by
  refine ZX Tryz.func207 Tryz.ntmps207 ?_
  conv => whnf
  repeat' (first | (refine MethN.of kl ?_) | (refine CallN.one y5 ?_) | (refine CallN.one wy ?_) | (refine CallN.one zr ?_) | refine Zp ?_ | refine Zr ?_) <;> try (conv => whnf)
  rfl
theorem ziv {σ : Heap} {a b : Int} {s0 s : ByteArray} {m : List CV} : CRun Tryz.prog 207 [.sc (.string s0), .iface 227 (.agg [])] σ (· = .ret (i64 (zg 3 6)) σ) := by
  refine ZX Tryz.func207 Tryz.ntmps207 ?_
  conv => whnf
  repeat' (first | (refine MethN.of w9 ?_) | (refine CallN.one y5 ?_) | (refine CallN.one yu ?_) | (refine CallN.one zr ?_) | refine Zp ?_ | refine Zr ?_) <;> try (conv => whnf)
  rfl
theorem zjq {σ : Heap} {a b : Int} {s0 s : ByteArray} {m : List CV} : CRun Tryz.prog 211 [i64 a, .iface 220 (i64 b)] σ (· = .ret (i64 (zg 4 0)) σ) := by
  refine ZX Tryz.func211 Tryz.ntmps211 ?_
  conv => whnf
  repeat' (first | (refine MethN.of jd ?_) | (refine CallN.one y9 ?_) | (refine CallN.one y6 ?_) | (refine CallN.one zr ?_) | refine Zp ?_ | refine Zr ?_) <;> try (conv => whnf)
  rfl
theorem zjs {σ : Heap} {a b : Int} {s0 s : ByteArray} {m : List CV} : CRun Tryz.prog 211 [i64 a, .iface 221 (i64 b)] σ (· = .ret (i64 (zg 4 1)) σ) := by
  refine ZX Tryz.func211 Tryz.ntmps211 ?_
  conv => whnf
  repeat' (first | (refine MethN.of jf ?_) | (refine CallN.one y9 ?_) | (refine CallN.one y8 ?_) | (refine CallN.one zr ?_) | refine Zp ?_ | refine Zr ?_) <;> try (conv => whnf)
  rfl
theorem zjr {σ : Heap} {a b : Int} {s0 s : ByteArray} {m : List CV} : CRun Tryz.prog 211 [i64 a, .iface 222 (.vec m)] σ (· = .ret (i64 (zg 4 2)) σ) := by
  refine ZX Tryz.func211 Tryz.ntmps211 ?_
  conv => whnf
  repeat' (first | (refine MethN.of je ?_) | (refine CallN.one y9 ?_) | (refine CallN.one y7 ?_) | (refine CallN.one zr ?_) | refine Zp ?_ | refine Zr ?_) <;> try (conv => whnf)
  rfl
theorem zjo {σ : Heap} {a b : Int} {s0 s : ByteArray} {m : List CV} : CRun Tryz.prog 211 [i64 a, .iface 223 (.sc (.string s))] σ (· = .ret (i64 (zg 4 3)) σ) := by
  refine ZX Tryz.func211 Tryz.ntmps211 ?_
  conv => whnf
  repeat' (first | (refine MethN.of jc ?_) | (refine CallN.one y9 ?_) | (refine CallN.one y5 ?_) | (refine CallN.one zr ?_) | refine Zp ?_ | refine Zr ?_) <;> try (conv => whnf)
  rfl
theorem zjt {σ : Heap} {a b : Int} {s0 s : ByteArray} {m : List CV} : CRun Tryz.prog 211 [i64 a, .iface 224 (i64 b)] σ (· = .ret (i64 (zg a b)) σ) := by
  refine ZX Tryz.func211 Tryz.ntmps211 ?_
  conv => whnf
  repeat' (first | (refine CallN.one zz0 ?_) | refine Zp ?_ | refine Zr ?_) <;> try (conv => whnf)
  rfl
theorem zl2 {σ : Heap} {a b : Int} {s0 s : ByteArray} {m : List CV} : CRun Tryz.prog 211 [i64 a, .iface 225 (i64 b)] σ (· = .ret (i64 (zg 4 5)) σ) := by
  refine ZX Tryz.func211 Tryz.ntmps211 ?_
  conv => whnf
  repeat' (first | (refine MethN.of kl ?_) | (refine CallN.one y9 ?_) | (refine CallN.one wy ?_) | (refine CallN.one zr ?_) | refine Zp ?_ | refine Zr ?_) <;> try (conv => whnf)
  rfl
theorem zjp {σ : Heap} {a b : Int} {s0 s : ByteArray} {m : List CV} : CRun Tryz.prog 211 [i64 a, .iface 227 (.agg [])] σ (· = .ret (i64 (zg 4 6)) σ) := by
  refine ZX Tryz.func211 Tryz.ntmps211 ?_
  conv => whnf
  repeat' (first | (refine MethN.of w9 ?_) | (refine CallN.one y9 ?_) | (refine CallN.one yu ?_) | (refine CallN.one zr ?_) | refine Zp ?_ | refine Zr ?_) <;> try (conv => whnf)
  rfl
theorem zlu {σ : Heap} {a b : Int} {s0 s : ByteArray} {m : List CV} : CRun Tryz.prog 215 [i64 a, .iface 220 (i64 b)] σ (· = .ret (i64 (zg 5 0)) σ) := by
  refine ZX Tryz.func215 Tryz.ntmps215 ?_
  conv => whnf
  repeat' (first | (refine MethN.of jd ?_) | (refine CallN.one wy ?_) | (refine CallN.one y6 ?_) | (refine CallN.one zr ?_) | refine Zp ?_ | refine Zr ?_) <;> try (conv => whnf)
  rfl
theorem zlw {σ : Heap} {a b : Int} {s0 s : ByteArray} {m : List CV} : CRun Tryz.prog 215 [i64 a, .iface 221 (i64 b)] σ (· = .ret (i64 (zg 5 1)) σ) := by
  refine ZX Tryz.func215 Tryz.ntmps215 ?_
  conv => whnf
  repeat' (first | (refine MethN.of jf ?_) | (refine CallN.one wy ?_) | (refine CallN.one y8 ?_) | (refine CallN.one zr ?_) | refine Zp ?_ | refine Zr ?_) <;> try (conv => whnf)
  rfl
theorem zlv {σ : Heap} {a b : Int} {s0 s : ByteArray} {m : List CV} : CRun Tryz.prog 215 [i64 a, .iface 222 (.vec m)] σ (· = .ret (i64 (zg 5 2)) σ) := by
  refine ZX Tryz.func215 Tryz.ntmps215 ?_
  conv => whnf
  repeat' (first | (refine MethN.of je ?_) | (refine CallN.one wy ?_) | (refine CallN.one y7 ?_) | (refine CallN.one zr ?_) | refine Zp ?_ | refine Zr ?_) <;> try (conv => whnf)
  rfl
theorem zls {σ : Heap} {a b : Int} {s0 s : ByteArray} {m : List CV} : CRun Tryz.prog 215 [i64 a, .iface 223 (.sc (.string s))] σ (· = .ret (i64 (zg 5 3)) σ) := by
  refine ZX Tryz.func215 Tryz.ntmps215 ?_
  conv => whnf
  repeat' (first | (refine MethN.of jc ?_) | (refine CallN.one wy ?_) | (refine CallN.one y5 ?_) | (refine CallN.one zr ?_) | refine Zp ?_ | refine Zr ?_) <;> try (conv => whnf)
  rfl
theorem zlx {σ : Heap} {a b : Int} {s0 s : ByteArray} {m : List CV} : CRun Tryz.prog 215 [i64 a, .iface 224 (i64 b)] σ (· = .ret (i64 (zg 5 4)) σ) := by
  refine ZX Tryz.func215 Tryz.ntmps215 ?_
  conv => whnf
  repeat' (first | (refine MethN.of jg ?_) | (refine CallN.one wy ?_) | (refine CallN.one y9 ?_) | (refine CallN.one zr ?_) | refine Zp ?_ | refine Zr ?_) <;> try (conv => whnf)
  rfl
theorem zoy {σ : Heap} {a b : Int} {s0 s : ByteArray} {m : List CV} : CRun Tryz.prog 215 [i64 a, .iface 225 (i64 b)] σ (· = .ret (i64 (zg a b)) σ) := by
  refine ZX Tryz.func215 Tryz.ntmps215 ?_
  conv => whnf
  repeat' (first | (refine CallN.one z3d ?_) | refine Zp ?_ | refine Zr ?_) <;> try (conv => whnf)
  rfl
theorem zlt {σ : Heap} {a b : Int} {s0 s : ByteArray} {m : List CV} : CRun Tryz.prog 215 [i64 a, .iface 227 (.agg [])] σ (· = .ret (i64 (zg 5 6)) σ) := by
  refine ZX Tryz.func215 Tryz.ntmps215 ?_
  conv => whnf
  repeat' (first | (refine MethN.of w9 ?_) | (refine CallN.one wy ?_) | (refine CallN.one yu ?_) | (refine CallN.one zr ?_) | refine Zp ?_ | refine Zr ?_) <;> try (conv => whnf)
  rfl
theorem zi2 {σ : Heap} {a b : Int} {s0 s : ByteArray} {m : List CV} : CRun Tryz.prog 219 [.agg [], .iface 220 (i64 b)] σ (· = .ret (i64 (zg 6 0)) σ) := by
  refine ZX Tryz.func219 Tryz.ntmps219 ?_
  conv => whnf
  repeat' (first | (refine MethN.of jd ?_) | (refine CallN.one yu ?_) | (refine CallN.one y6 ?_) | (refine CallN.one zr ?_) | refine Zp ?_ | refine Zr ?_) <;> try (conv => whnf)
  rfl
theorem zi4 {σ : Heap} {a b : Int} {s0 s : ByteArray} {m : List CV} : CRun Tryz.prog 219 [.agg [], .iface 221 (i64 b)] σ (· = .ret (i64 (zg 6 1)) σ) := by
  refine ZX Tryz.func219 Tryz.ntmps219 ?_
  conv => whnf
  repeat' (first | (refine MethN.of jf ?_) | (refine CallN.one yu ?_) | (refine CallN.one y8 ?_) | (refine CallN.one zr ?_) | refine Zp ?_ | refine Zr ?_) <;> try (conv => whnf)
  rfl
theorem zi3 {σ : Heap} {a b : Int} {s0 s : ByteArray} {m : List CV} : CRun Tryz.prog 219 [.agg [], .iface 222 (.vec m)] σ (· = .ret (i64 (zg 6 2)) σ) := by
  refine ZX Tryz.func219 Tryz.ntmps219 ?_
  conv => whnf
  repeat' (first | (refine MethN.of je ?_) | (refine CallN.one yu ?_) | (refine CallN.one y7 ?_) | (refine CallN.one zr ?_) | refine Zp ?_ | refine Zr ?_) <;> try (conv => whnf)
  rfl
theorem zi0 {σ : Heap} {a b : Int} {s0 s : ByteArray} {m : List CV} : CRun Tryz.prog 219 [.agg [], .iface 223 (.sc (.string s))] σ (· = .ret (i64 (zg 6 3)) σ) := by
  refine ZX Tryz.func219 Tryz.ntmps219 ?_
  conv => whnf
  repeat' (first | (refine MethN.of jc ?_) | (refine CallN.one yu ?_) | (refine CallN.one y5 ?_) | (refine CallN.one zr ?_) | refine Zp ?_ | refine Zr ?_) <;> try (conv => whnf)
  rfl
theorem zi5 {σ : Heap} {a b : Int} {s0 s : ByteArray} {m : List CV} : CRun Tryz.prog 219 [.agg [], .iface 224 (i64 b)] σ (· = .ret (i64 (zg 6 4)) σ) := by
  refine ZX Tryz.func219 Tryz.ntmps219 ?_
  conv => whnf
  repeat' (first | (refine MethN.of jg ?_) | (refine CallN.one yu ?_) | (refine CallN.one y9 ?_) | (refine CallN.one zr ?_) | refine Zp ?_ | refine Zr ?_) <;> try (conv => whnf)
  rfl
theorem zly {σ : Heap} {a b : Int} {s0 s : ByteArray} {m : List CV} : CRun Tryz.prog 219 [.agg [], .iface 225 (i64 b)] σ (· = .ret (i64 (zg 6 5)) σ) := by
  refine ZX Tryz.func219 Tryz.ntmps219 ?_
  conv => whnf
  repeat' (first | (refine MethN.of kl ?_) | (refine CallN.one yu ?_) | (refine CallN.one wy ?_) | (refine CallN.one zr ?_) | refine Zp ?_ | refine Zr ?_) <;> try (conv => whnf)
  rfl
theorem zi1 {σ : Heap} {a b : Int} {s0 s : ByteArray} {m : List CV} : CRun Tryz.prog 219 [.agg [], .iface 227 (.agg [])] σ (· = .ret (i64 (zg 6 6)) σ) := by
  refine ZX Tryz.func219 Tryz.ntmps219 ?_
  conv => whnf
  repeat' (first | (refine MethN.of w9 ?_) | (refine CallN.one yu ?_) | (refine CallN.one zr ?_) | refine Zp ?_ | refine Zr ?_) <;> try (conv => whnf)
  rfl
end Go.Proofs.YtlamgfimgadnmaaGreat
namespace Go.Proofs.YtlamgfimgadnmaaGreat
open Go Go.CL
set_option maxRecDepth 10000
mutual
def v7 : Val → Val → Int
  | .mk k n t l, .mk k' n' t' l' =>
    if zc5 k ≠ zc5 k' then zg (zc5 k) (zc5 k')
    else if k = 4 then z8 l l'
    else if k = 3 then zk7 t t'
    else if zc5 k = 6 then 0
    else zg n n'
def z8 : List Val → List Val → Int
  | [], m => zg 0 m.length
  | v :: r, [] => zg (r.length + 1) 0
  | v :: r, w :: s => if v7 v w ≠ 0 then v7 v w else z8 r s
end
theorem zsn {l m : List Val} (h : l = [] ∨ m = []) : z8 l m = zg l.length m.length := by
  rcases h with rfl | rfl
  · cases m <;> simp [z8]
  · cases l <;> simp [z8]
theorem zjf {σ : Heap} {l l' : List Val} (hl : l.length ≤ 100) (hl' : l'.length ≤ 100) (ht : ∀ w ∈ l', Tame w) (ih : ∀ w ∈ l, ∀ {w' : Val}, Tame w' → CRun Tryz.prog 167 [w.cv, w'.cv] σ (· = .ret (i64 (v7 w w')) σ)) :
    CRun Tryz.prog 205 [.vec (Val.cvs l), .iface 222 (.vec (Val.cvs l'))] σ (· = .ret (i64 (z8 l l')) σ) := by
  have e3 := zj l
  have e4 := zj l'
  refine ZX Tryz.func205 Tryz.ntmps205 ?_
  conv => whnf
  repeat' (first | refine Zh ?_ | refine Za ?_ | refine Zb ?_ | refine Zc ?_ | refine Zd ?_ | refine Ze ?_ | refine Zg ?_ | refine Zv (fun h => ?_) (fun h => ?_) | refine Zj ?_ | refine Zk ?_ | refine Zl ?_ | refine Zm ?_ | refine Zn ?_ | refine Zo ?_ | refine Zp ?_ | refine Zq ?_ | refine Zu (fun l hl => ?_) | refine Zr ?_) <;> try (conv => whnf)
  refine LoopN.rule (α := Nat) (fun i => ⟨46, [(0, .vec (Val.cvs l)), (4, i64 0), (5, .vec (Val.cvs l')), (6, i64 i)], []⟩)
    (fun _ => σ) (fun i => l.length - i) (fun i => i ≤ l.length ∧ i ≤ l'.length ∧ z8 l l' = z8 (l.drop i) (l'.drop i)) ?_ 0 ⟨Nat.zero_le _, Nat.zero_le _, rfl⟩ ?_
  · rintro i K ⟨h1, h2, h3⟩ hK
    dsimp only at h1 h2 h3 ⊢
    by_cases hi : i < l.length ∧ i < l'.length
    · obtain ⟨w, hm, hw, hg⟩ := za6 hi.1
      obtain ⟨w', hm', hw', hg'⟩ := za6 hi.2
      have hc := ih w hm (ht w' hm')
      have hK := hK (i + 1)
      rw [ki hw, ki hw'] at h3
      simp only [z8] at h3
      by_cases hz : v7 w w' = 0
      · rw [hz] at hc
        rw [if_neg (by simp [hz])] at h3
        obtain ⟨wk, wn, wt, wl⟩ := w
        obtain ⟨wk', wn', wt', wl'⟩ := w'
        conv => whnf
        repeat' (first | (refine CallN.one hc ?_) | refine Zh ?_ | refine Za ?_ | refine Zd ?_ | refine Zm ?_ | refine Zn ?_ | refine Zo ?_ | refine Zp ?_) <;> try (conv => whnf)
        refine hK _ _ ⟨by omega, by omega, h3⟩ (by omega) ?_
        exact ZW
      · rw [if_pos hz] at h3
        generalize v7 w w' = z at *
        obtain ⟨wk, wn, wt, wl⟩ := w
        obtain ⟨wk', wn', wt', wl'⟩ := w'
        conv => whnf
        repeat' (first | (refine CallN.one hc ?_) | refine Zh ?_ | refine Za ?_ | refine Zc ?_ | refine Zm ?_ | refine Zn ?_ | refine Zo ?_ | refine Zp ?_ | refine Zr ?_) <;> try (conv => whnf)
        exact zcs h3
    · have h4 : l.drop i = [] ∨ l'.drop i = [] := by
        rcases Nat.lt_or_ge i l.length with h5 | h5
        · right; exact List.drop_eq_nil_of_le (by omega)
        · left; exact List.drop_eq_nil_of_le h5
      rw [zsn h4, List.length_drop, List.length_drop] at h3
      have h5 : zg ((l.length - i : Nat) : Int) ((l'.length - i : Nat) : Int) = zg (Val.cvs l).length (Val.cvs l').length := by
        rw [e3, e4, ← zvw _ _ i]
        congr 1 <;> omega
      conv => whnf
      repeat' (first | (refine CallN.one zr ?_) | refine Zb ?_ | refine Zv (fun h => ?_) (fun h => ?_) | refine Zp ?_ | refine Zr ?_) <;> try (conv => whnf)
      all_goals exact zcs (h3.trans h5)
  · exact ZW
theorem zje {σ : Heap} {b : Int} {s : ByteArray} {m : List CV} : CRun Tryz.prog 205 [.vec m, .iface 220 (i64 b)] σ (· = .ret (i64 (zg 2 0)) σ) := by
  refine ZX Tryz.func205 Tryz.ntmps205 ?_
  conv => whnf
  repeat' (first | (refine MethN.of jd ?_) | (refine CallN.one y7 ?_) | (refine CallN.one y6 ?_) | (refine CallN.one zr ?_) | refine Zp ?_ | refine Zr ?_) <;> try (conv => whnf)
  rfl
theorem zjg {σ : Heap} {b : Int} {s : ByteArray} {m : List CV} : CRun Tryz.prog 205 [.vec m, .iface 221 (i64 b)] σ (· = .ret (i64 (zg 2 1)) σ) := by
  refine ZX Tryz.func205 Tryz.ntmps205 ?_
  conv => whnf
  repeat' (first | (refine MethN.of jf ?_) | (refine CallN.one y7 ?_) | (refine CallN.one y8 ?_) | (refine CallN.one zr ?_) | refine Zp ?_ | refine Zr ?_) <;> try (conv => whnf)
  rfl
theorem zjc {σ : Heap} {b : Int} {s : ByteArray} {m : List CV} : CRun Tryz.prog 205 [.vec m, .iface 223 (.sc (.string s))] σ (· = .ret (i64 (zg 2 3)) σ) := by
  refine ZX Tryz.func205 Tryz.ntmps205 ?_
  conv => whnf
  repeat' (first | (refine MethN.of jc ?_) | (refine CallN.one y7 ?_) | (refine CallN.one y5 ?_) | (refine CallN.one zr ?_) | refine Zp ?_ | refine Zr ?_) <;> try (conv => whnf)
  rfl
theorem zjh {σ : Heap} {b : Int} {s : ByteArray} {m : List CV} : CRun Tryz.prog 205 [.vec m, .iface 224 (i64 b)] σ (· = .ret (i64 (zg 2 4)) σ) := by
  refine ZX Tryz.func205 Tryz.ntmps205 ?_
  conv => whnf
  repeat' (first | (refine MethN.of jg ?_) | (refine CallN.one y7 ?_) | (refine CallN.one y9 ?_) | (refine CallN.one zr ?_) | refine Zp ?_ | refine Zr ?_) <;> try (conv => whnf)
  rfl
theorem zl0 {σ : Heap} {b : Int} {s : ByteArray} {m : List CV} : CRun Tryz.prog 205 [.vec m, .iface 225 (i64 b)] σ (· = .ret (i64 (zg 2 5)) σ) := by
  refine ZX Tryz.func205 Tryz.ntmps205 ?_
  conv => whnf
  repeat' (first | (refine MethN.of kl ?_) | (refine CallN.one y7 ?_) | (refine CallN.one wy ?_) | (refine CallN.one zr ?_) | refine Zp ?_ | refine Zr ?_) <;> try (conv => whnf)
  rfl
theorem zjd {σ : Heap} {b : Int} {s : ByteArray} {m : List CV} : CRun Tryz.prog 205 [.vec m, .iface 227 (.agg [])] σ (· = .ret (i64 (zg 2 6)) σ) := by
  refine ZX Tryz.func205 Tryz.ntmps205 ?_
  conv => whnf
  repeat' (first | (refine MethN.of w9 ?_) | (refine CallN.one y7 ?_) | (refine CallN.one yu ?_) | (refine CallN.one zr ?_) | refine Zp ?_ | refine Zr ?_) <;> try (conv => whnf)
  rfl
theorem zmh {σ : Heap} {v v' : Val} {n n' r : Int} {s s' : ByteArray} {m m' : List CV} (hv : zi v = .iface 220 (i64 n)) (hv' : zi v' = .iface 220 (i64 n')) : CRun Tryz.prog 167 [v.cv, v'.cv] σ (· = .ret (i64 (zg n n')) σ) := by
  refine ZX Tryz.func167 Tryz.ntmps167 ?_
  have t1 : CRun Tryz.prog 176 [v.cv] σ (· = .ret (.iface 220 (i64 n)) σ) := hv ▸ zc
  have t2 : CRun Tryz.prog 176 [v'.cv] σ (· = .ret (.iface 220 (i64 n')) σ) := hv' ▸ zc
  clear hv hv'
  obtain ⟨vk, vn, vt, vl⟩ := v
  obtain ⟨vk', vn', vt', vl'⟩ := v'
  conv => whnf
  repeat' (first | (refine CallN.one t1 ?_) | (refine CallN.one t2 ?_) | (refine Need.mk xq ?_) | (refine MethN.of x0 ?_) | (refine CallN.one (zi8 (a := n) (b := n') (s0 := s) (s := s') (m := m')) ?_) | refine Zh ?_ | refine Zn ?_ | refine Zp ?_ | refine Zr ?_) <;> try (conv => whnf)
  rfl
theorem zmj {σ : Heap} {v v' : Val} {n n' r : Int} {s s' : ByteArray} {m m' : List CV} (hv : zi v = .iface 220 (i64 n)) (hv' : zi v' = .iface 221 (i64 n')) : CRun Tryz.prog 167 [v.cv, v'.cv] σ (· = .ret (i64 (zg 0 1)) σ) := by
  refine ZX Tryz.func167 Tryz.ntmps167 ?_
  have t1 : CRun Tryz.prog 176 [v.cv] σ (· = .ret (.iface 220 (i64 n)) σ) := hv ▸ zc
  have t2 : CRun Tryz.prog 176 [v'.cv] σ (· = .ret (.iface 221 (i64 n')) σ) := hv' ▸ zc
  clear hv hv'
  obtain ⟨vk, vn, vt, vl⟩ := v
  obtain ⟨vk', vn', vt', vl'⟩ := v'
  conv => whnf
  repeat' (first | (refine CallN.one t1 ?_) | (refine CallN.one t2 ?_) | (refine Need.mk xq ?_) | (refine MethN.of x0 ?_) | (refine CallN.one (zja (a := n) (b := n') (s0 := s) (s := s') (m := m')) ?_) | refine Zh ?_ | refine Zn ?_ | refine Zp ?_ | refine Zr ?_) <;> try (conv => whnf)
  rfl
theorem zmi {σ : Heap} {v v' : Val} {n n' r : Int} {s s' : ByteArray} {m m' : List CV} (hv : zi v = .iface 220 (i64 n)) (hv' : zi v' = .iface 222 (.vec m')) : CRun Tryz.prog 167 [v.cv, v'.cv] σ (· = .ret (i64 (zg 0 2)) σ) := by
  refine ZX Tryz.func167 Tryz.ntmps167 ?_
  have t1 : CRun Tryz.prog 176 [v.cv] σ (· = .ret (.iface 220 (i64 n)) σ) := hv ▸ zc
  have t2 : CRun Tryz.prog 176 [v'.cv] σ (· = .ret (.iface 222 (.vec m')) σ) := hv' ▸ zc
  clear hv hv'
  obtain ⟨vk, vn, vt, vl⟩ := v
  obtain ⟨vk', vn', vt', vl'⟩ := v'
  conv => whnf
  repeat' (first | (refine CallN.one t1 ?_) | (refine CallN.one t2 ?_) | (refine Need.mk xq ?_) | (refine MethN.of x0 ?_) | (refine CallN.one (zi9 (a := n) (b := n') (s0 := s) (s := s') (m := m')) ?_) | refine Zh ?_ | refine Zn ?_ | refine Zp ?_ | refine Zr ?_) <;> try (conv => whnf)
  rfl
theorem zmf {σ : Heap} {v v' : Val} {n n' r : Int} {s s' : ByteArray} {m m' : List CV} (hv : zi v = .iface 220 (i64 n)) (hv' : zi v' = .iface 223 (.sc (.string s'))) : CRun Tryz.prog 167 [v.cv, v'.cv] σ (· = .ret (i64 (zg 0 3)) σ) := by
  refine ZX Tryz.func167 Tryz.ntmps167 ?_
  have t1 : CRun Tryz.prog 176 [v.cv] σ (· = .ret (.iface 220 (i64 n)) σ) := hv ▸ zc
  have t2 : CRun Tryz.prog 176 [v'.cv] σ (· = .ret (.iface 223 (.sc (.string s'))) σ) := hv' ▸ zc
  clear hv hv'
  obtain ⟨vk, vn, vt, vl⟩ := v
  obtain ⟨vk', vn', vt', vl'⟩ := v'
  conv => whnf
  repeat' (first | (refine CallN.one t1 ?_) | (refine CallN.one t2 ?_) | (refine Need.mk xq ?_) | (refine MethN.of x0 ?_) | (refine CallN.one (zi6 (a := n) (b := n') (s0 := s) (s := s') (m := m')) ?_) | refine Zh ?_ | refine Zn ?_ | refine Zp ?_ | refine Zr ?_) <;> try (conv => whnf)
  rfl
theorem zmk {σ : Heap} {v v' : Val} {n n' r : Int} {s s' : ByteArray} {m m' : List CV} (hv : zi v = .iface 220 (i64 n)) (hv' : zi v' = .iface 224 (i64 n')) : CRun Tryz.prog 167 [v.cv, v'.cv] σ (· = .ret (i64 (zg 0 4)) σ) := by
  refine ZX Tryz.func167 Tryz.ntmps167 ?_
  have t1 : CRun Tryz.prog 176 [v.cv] σ (· = .ret (.iface 220 (i64 n)) σ) := hv ▸ zc
  have t2 : CRun Tryz.prog 176 [v'.cv] σ (· = .ret (.iface 224 (i64 n')) σ) := hv' ▸ zc
  clear hv hv'
  obtain ⟨vk, vn, vt, vl⟩ := v
  obtain ⟨vk', vn', vt', vl'⟩ := v'
  conv => whnf
  repeat' (first | (refine CallN.one t1 ?_) | (refine CallN.one t2 ?_) | (refine Need.mk xq ?_) | (refine MethN.of x0 ?_) | (refine CallN.one (zjb (a := n) (b := n') (s0 := s) (s := s') (m := m')) ?_) | refine Zh ?_ | refine Zn ?_ | refine Zp ?_ | refine Zr ?_) <;> try (conv => whnf)
  rfl
theorem zo8 {σ : Heap} {v v' : Val} {n n' r : Int} {s s' : ByteArray} {m m' : List CV} (hv : zi v = .iface 220 (i64 n)) (hv' : zi v' = .iface 225 (i64 n')) : CRun Tryz.prog 167 [v.cv, v'.cv] σ (· = .ret (i64 (zg 0 5)) σ) := by
  refine ZX Tryz.func167 Tryz.ntmps167 ?_
  have t1 : CRun Tryz.prog 176 [v.cv] σ (· = .ret (.iface 220 (i64 n)) σ) := hv ▸ zc
  have t2 : CRun Tryz.prog 176 [v'.cv] σ (· = .ret (.iface 225 (i64 n')) σ) := hv' ▸ zc
  clear hv hv'
  obtain ⟨vk, vn, vt, vl⟩ := v
  obtain ⟨vk', vn', vt', vl'⟩ := v'
  conv => whnf
  repeat' (first | (refine CallN.one t1 ?_) | (refine CallN.one t2 ?_) | (refine Need.mk xq ?_) | (refine MethN.of x0 ?_) | (refine CallN.one (zlz (a := n) (b := n') (s0 := s) (s := s') (m := m')) ?_) | refine Zh ?_ | refine Zn ?_ | refine Zp ?_ | refine Zr ?_) <;> try (conv => whnf)
  rfl
theorem zmg {σ : Heap} {v v' : Val} {n n' r : Int} {s s' : ByteArray} {m m' : List CV} (hv : zi v = .iface 220 (i64 n)) (hv' : zi v' = .iface 227 (.agg [])) : CRun Tryz.prog 167 [v.cv, v'.cv] σ (· = .ret (i64 (zg 0 6)) σ) := by
  refine ZX Tryz.func167 Tryz.ntmps167 ?_
  have t1 : CRun Tryz.prog 176 [v.cv] σ (· = .ret (.iface 220 (i64 n)) σ) := hv ▸ zc
  have t2 : CRun Tryz.prog 176 [v'.cv] σ (· = .ret (.iface 227 (.agg [])) σ) := hv' ▸ zc
  clear hv hv'
  obtain ⟨vk, vn, vt, vl⟩ := v
  obtain ⟨vk', vn', vt', vl'⟩ := v'
  conv => whnf
  repeat' (first | (refine CallN.one t1 ?_) | (refine CallN.one t2 ?_) | (refine Need.mk xq ?_) | (refine MethN.of x0 ?_) | (refine CallN.one (zi7 (a := n) (b := n') (s0 := s) (s := s') (m := m')) ?_) | refine Zh ?_ | refine Zn ?_ | refine Zp ?_ | refine Zr ?_) <;> try (conv => whnf)
  rfl
theorem zmt {σ : Heap} {v v' : Val} {n n' r : Int} {s s' : ByteArray} {m m' : List CV} (hv : zi v = .iface 221 (i64 n)) (hv' : zi v' = .iface 220 (i64 n')) : CRun Tryz.prog 167 [v.cv, v'.cv] σ (· = .ret (i64 (zg 1 0)) σ) := by
  refine ZX Tryz.func167 Tryz.ntmps167 ?_
  have t1 : CRun Tryz.prog 176 [v.cv] σ (· = .ret (.iface 221 (i64 n)) σ) := hv ▸ zc
  have t2 : CRun Tryz.prog 176 [v'.cv] σ (· = .ret (.iface 220 (i64 n')) σ) := hv' ▸ zc
  clear hv hv'
  obtain ⟨vk, vn, vt, vl⟩ := v
  obtain ⟨vk', vn', vt', vl'⟩ := v'
  conv => whnf
  repeat' (first | (refine CallN.one t1 ?_) | (refine CallN.one t2 ?_) | (refine Need.mk xv ?_) | (refine MethN.of x6 ?_) | (refine CallN.one (zjk (a := n) (b := n') (s0 := s) (s := s') (m := m')) ?_) | refine Zh ?_ | refine Zn ?_ | refine Zp ?_ | refine Zr ?_) <;> try (conv => whnf)
  rfl
theorem zmv {σ : Heap} {v v' : Val} {n n' r : Int} {s s' : ByteArray} {m m' : List CV} (hv : zi v = .iface 221 (i64 n)) (hv' : zi v' = .iface 221 (i64 n')) : CRun Tryz.prog 167 [v.cv, v'.cv] σ (· = .ret (i64 (zg n n')) σ) := by
  refine ZX Tryz.func167 Tryz.ntmps167 ?_
  have t1 : CRun Tryz.prog 176 [v.cv] σ (· = .ret (.iface 221 (i64 n)) σ) := hv ▸ zc
  have t2 : CRun Tryz.prog 176 [v'.cv] σ (· = .ret (.iface 221 (i64 n')) σ) := hv' ▸ zc
  clear hv hv'
  obtain ⟨vk, vn, vt, vl⟩ := v
  obtain ⟨vk', vn', vt', vl'⟩ := v'
  conv => whnf
  repeat' (first | (refine CallN.one t1 ?_) | (refine CallN.one t2 ?_) | (refine Need.mk xv ?_) | (refine MethN.of x6 ?_) | (refine CallN.one (zjm (a := n) (b := n') (s0 := s) (s := s') (m := m')) ?_) | refine Zh ?_ | refine Zn ?_ | refine Zp ?_ | refine Zr ?_) <;> try (conv => whnf)
  rfl
theorem zmu {σ : Heap} {v v' : Val} {n n' r : Int} {s s' : ByteArray} {m m' : List CV} (hv : zi v = .iface 221 (i64 n)) (hv' : zi v' = .iface 222 (.vec m')) : CRun Tryz.prog 167 [v.cv, v'.cv] σ (· = .ret (i64 (zg 1 2)) σ) := by
  refine ZX Tryz.func167 Tryz.ntmps167 ?_
  have t1 : CRun Tryz.prog 176 [v.cv] σ (· = .ret (.iface 221 (i64 n)) σ) := hv ▸ zc
  have t2 : CRun Tryz.prog 176 [v'.cv] σ (· = .ret (.iface 222 (.vec m')) σ) := hv' ▸ zc
  clear hv hv'
  obtain ⟨vk, vn, vt, vl⟩ := v
  obtain ⟨vk', vn', vt', vl'⟩ := v'
  conv => whnf
  repeat' (first | (refine CallN.one t1 ?_) | (refine CallN.one t2 ?_) | (refine Need.mk xv ?_) | (refine MethN.of x6 ?_) | (refine CallN.one (zjl (a := n) (b := n') (s0 := s) (s := s') (m := m')) ?_) | refine Zh ?_ | refine Zn ?_ | refine Zp ?_ | refine Zr ?_) <;> try (conv => whnf)
  rfl
theorem zmr {σ : Heap} {v v' : Val} {n n' r : Int} {s s' : ByteArray} {m m' : List CV} (hv : zi v = .iface 221 (i64 n)) (hv' : zi v' = .iface 223 (.sc (.string s'))) : CRun Tryz.prog 167 [v.cv, v'.cv] σ (· = .ret (i64 (zg 1 3)) σ) := by
  refine ZX Tryz.func167 Tryz.ntmps167 ?_
  have t1 : CRun Tryz.prog 176 [v.cv] σ (· = .ret (.iface 221 (i64 n)) σ) := hv ▸ zc
  have t2 : CRun Tryz.prog 176 [v'.cv] σ (· = .ret (.iface 223 (.sc (.string s'))) σ) := hv' ▸ zc
  clear hv hv'
  obtain ⟨vk, vn, vt, vl⟩ := v
  obtain ⟨vk', vn', vt', vl'⟩ := v'
  conv => whnf
  repeat' (first | (refine CallN.one t1 ?_) | (refine CallN.one t2 ?_) | (refine Need.mk xv ?_) | (refine MethN.of x6 ?_) | (refine CallN.one (zji (a := n) (b := n') (s0 := s) (s := s') (m := m')) ?_) | refine Zh ?_ | refine Zn ?_ | refine Zp ?_ | refine Zr ?_) <;> try (conv => whnf)
  rfl
theorem zmw {σ : Heap} {v v' : Val} {n n' r : Int} {s s' : ByteArray} {m m' : List CV} (hv : zi v = .iface 221 (i64 n)) (hv' : zi v' = .iface 224 (i64 n')) : CRun Tryz.prog 167 [v.cv, v'.cv] σ (· = .ret (i64 (zg 1 4)) σ) := by
  refine ZX Tryz.func167 Tryz.ntmps167 ?_
  have t1 : CRun Tryz.prog 176 [v.cv] σ (· = .ret (.iface 221 (i64 n)) σ) := hv ▸ zc
  have t2 : CRun Tryz.prog 176 [v'.cv] σ (· = .ret (.iface 224 (i64 n')) σ) := hv' ▸ zc
  clear hv hv'
  obtain ⟨vk, vn, vt, vl⟩ := v
  obtain ⟨vk', vn', vt', vl'⟩ := v'
  conv => whnf
  repeat' (first | (refine CallN.one t1 ?_) | (refine CallN.one t2 ?_) | (refine Need.mk xv ?_) | (refine MethN.of x6 ?_) | (refine CallN.one (zjn (a := n) (b := n') (s0 := s) (s := s') (m := m')) ?_) | refine Zh ?_ | refine Zn ?_ | refine Zp ?_ | refine Zr ?_) <;> try (conv => whnf)
  rfl
theorem zpa {σ : Heap} {v v' : Val} {n n' r : Int} {s s' : ByteArray} {m m' : List CV} (hv : zi v = .iface 221 (i64 n)) (hv' : zi v' = .iface 225 (i64 n')) : CRun Tryz.prog 167 [v.cv, v'.cv] σ (· = .ret (i64 (zg 1 5)) σ) := by
  refine ZX Tryz.func167 Tryz.ntmps167 ?_
  have t1 : CRun Tryz.prog 176 [v.cv] σ (· = .ret (.iface 221 (i64 n)) σ) := hv ▸ zc
  have t2 : CRun Tryz.prog 176 [v'.cv] σ (· = .ret (.iface 225 (i64 n')) σ) := hv' ▸ zc
  clear hv hv'
  obtain ⟨vk, vn, vt, vl⟩ := v
  obtain ⟨vk', vn', vt', vl'⟩ := v'
  conv => whnf
  repeat' (first | (refine CallN.one t1 ?_) | (refine CallN.one t2 ?_) | (refine Need.mk xv ?_) | (refine MethN.of x6 ?_) | (refine CallN.one (zl1 (a := n) (b := n') (s0 := s) (s := s') (m := m')) ?_) | refine Zh ?_ | refine Zn ?_ | refine Zp ?_ | refine Zr ?_) <;> try (conv => whnf)
  rfl
theorem zms {σ : Heap} {v v' : Val} {n n' r : Int} {s s' : ByteArray} {m m' : List CV} (hv : zi v = .iface 221 (i64 n)) (hv' : zi v' = .iface 227 (.agg [])) : CRun Tryz.prog 167 [v.cv, v'.cv] σ (· = .ret (i64 (zg 1 6)) σ) := by
  refine ZX Tryz.func167 Tryz.ntmps167 ?_
  have t1 : CRun Tryz.prog 176 [v.cv] σ (· = .ret (.iface 221 (i64 n)) σ) := hv ▸ zc
  have t2 : CRun Tryz.prog 176 [v'.cv] σ (· = .ret (.iface 227 (.agg [])) σ) := hv' ▸ zc
  clear hv hv'
  obtain ⟨vk, vn, vt, vl⟩ := v
  obtain ⟨vk', vn', vt', vl'⟩ := v'
  conv => whnf
  repeat' (first | (refine CallN.one t1 ?_) | (refine CallN.one t2 ?_) | (refine Need.mk xv ?_) | (refine MethN.of x6 ?_) | (refine CallN.one (zjj (a := n) (b := n') (s0 := s) (s := s') (m := m')) ?_) | refine Zh ?_ | refine Zn ?_ | refine Zp ?_ | refine Zr ?_) <;> try (conv => whnf)
  rfl
theorem zmn {σ : Heap} {v v' : Val} {n n' r : Int} {s s' : ByteArray} {m m' : List CV} (hv : zi v = .iface 222 (.vec m)) (hv' : zi v' = .iface 220 (i64 n')) : CRun Tryz.prog 167 [v.cv, v'.cv] σ (· = .ret (i64 (zg 2 0)) σ) := by
  refine ZX Tryz.func167 Tryz.ntmps167 ?_
  have t1 : CRun Tryz.prog 176 [v.cv] σ (· = .ret (.iface 222 (.vec m)) σ) := hv ▸ zc
  have t2 : CRun Tryz.prog 176 [v'.cv] σ (· = .ret (.iface 220 (i64 n')) σ) := hv' ▸ zc
  clear hv hv'
  obtain ⟨vk, vn, vt, vl⟩ := v
  obtain ⟨vk', vn', vt', vl'⟩ := v'
  conv => whnf
  repeat' (first | (refine CallN.one t1 ?_) | (refine CallN.one t2 ?_) | (refine Need.mk xr ?_) | (refine MethN.of x5 ?_) | (refine CallN.one (zje (b := n') (s := s') (m := m)) ?_) | refine Zh ?_ | refine Zn ?_ | refine Zp ?_ | refine Zr ?_) <;> try (conv => whnf)
  rfl
theorem zmp {σ : Heap} {v v' : Val} {n n' r : Int} {s s' : ByteArray} {m m' : List CV} (hv : zi v = .iface 222 (.vec m)) (hv' : zi v' = .iface 221 (i64 n')) : CRun Tryz.prog 167 [v.cv, v'.cv] σ (· = .ret (i64 (zg 2 1)) σ) := by
  refine ZX Tryz.func167 Tryz.ntmps167 ?_
  have t1 : CRun Tryz.prog 176 [v.cv] σ (· = .ret (.iface 222 (.vec m)) σ) := hv ▸ zc
  have t2 : CRun Tryz.prog 176 [v'.cv] σ (· = .ret (.iface 221 (i64 n')) σ) := hv' ▸ zc
  clear hv hv'
  obtain ⟨vk, vn, vt, vl⟩ := v
  obtain ⟨vk', vn', vt', vl'⟩ := v'
  conv => whnf
  repeat' (first | (refine CallN.one t1 ?_) | (refine CallN.one t2 ?_) | (refine Need.mk xr ?_) | (refine MethN.of x5 ?_) | (refine CallN.one (zjg (b := n') (s := s') (m := m)) ?_) | refine Zh ?_ | refine Zn ?_ | refine Zp ?_ | refine Zr ?_) <;> try (conv => whnf)
  rfl
theorem zmo {σ : Heap} {v v' : Val} {n n' r : Int} {s s' : ByteArray} {m m' : List CV} (hv : zi v = .iface 222 (.vec m)) (hv' : zi v' = .iface 222 (.vec m')) (hc : CRun Tryz.prog 205 [.vec m, .iface 222 (.vec m')] σ (· = .ret (i64 r) σ)) : CRun Tryz.prog 167 [v.cv, v'.cv] σ (· = .ret (i64 (r)) σ) := by
  refine ZX Tryz.func167 Tryz.ntmps167 ?_
  have t1 : CRun Tryz.prog 176 [v.cv] σ (· = .ret (.iface 222 (.vec m)) σ) := hv ▸ zc
  have t2 : CRun Tryz.prog 176 [v'.cv] σ (· = .ret (.iface 222 (.vec m')) σ) := hv' ▸ zc
  clear hv hv'
  obtain ⟨vk, vn, vt, vl⟩ := v
  obtain ⟨vk', vn', vt', vl'⟩ := v'
  conv => whnf
  repeat' (first | (refine CallN.one t1 ?_) | (refine CallN.one t2 ?_) | (refine Need.mk xr ?_) | (refine MethN.of x5 ?_) | (refine CallN.one hc ?_) | refine Zh ?_ | refine Zn ?_ | refine Zp ?_ | refine Zr ?_) <;> try (conv => whnf)
  rfl
theorem zml {σ : Heap} {v v' : Val} {n n' r : Int} {s s' : ByteArray} {m m' : List CV} (hv : zi v = .iface 222 (.vec m)) (hv' : zi v' = .iface 223 (.sc (.string s'))) : CRun Tryz.prog 167 [v.cv, v'.cv] σ (· = .ret (i64 (zg 2 3)) σ) := by
  refine ZX Tryz.func167 Tryz.ntmps167 ?_
  have t1 : CRun Tryz.prog 176 [v.cv] σ (· = .ret (.iface 222 (.vec m)) σ) := hv ▸ zc
  have t2 : CRun Tryz.prog 176 [v'.cv] σ (· = .ret (.iface 223 (.sc (.string s'))) σ) := hv' ▸ zc
  clear hv hv'
  obtain ⟨vk, vn, vt, vl⟩ := v
  obtain ⟨vk', vn', vt', vl'⟩ := v'
  conv => whnf
  repeat' (first | (refine CallN.one t1 ?_) | (refine CallN.one t2 ?_) | (refine Need.mk xr ?_) | (refine MethN.of x5 ?_) | (refine CallN.one (zjc (b := n') (s := s') (m := m)) ?_) | refine Zh ?_ | refine Zn ?_ | refine Zp ?_ | refine Zr ?_) <;> try (conv => whnf)
  rfl
theorem zmq {σ : Heap} {v v' : Val} {n n' r : Int} {s s' : ByteArray} {m m' : List CV} (hv : zi v = .iface 222 (.vec m)) (hv' : zi v' = .iface 224 (i64 n')) : CRun Tryz.prog 167 [v.cv, v'.cv] σ (· = .ret (i64 (zg 2 4)) σ) := by
  refine ZX Tryz.func167 Tryz.ntmps167 ?_
  have t1 : CRun Tryz.prog 176 [v.cv] σ (· = .ret (.iface 222 (.vec m)) σ) := hv ▸ zc
  have t2 : CRun Tryz.prog 176 [v'.cv] σ (· = .ret (.iface 224 (i64 n')) σ) := hv' ▸ zc
  clear hv hv'
  obtain ⟨vk, vn, vt, vl⟩ := v
  obtain ⟨vk', vn', vt', vl'⟩ := v'
  conv => whnf
  repeat' (first | (refine CallN.one t1 ?_) | (refine CallN.one t2 ?_) | (refine Need.mk xr ?_) | (refine MethN.of x5 ?_) | (refine CallN.one (zjh (b := n') (s := s') (m := m)) ?_) | refine Zh ?_ | refine Zn ?_ | refine Zp ?_ | refine Zr ?_) <;> try (conv => whnf)
  rfl
theorem zo9 {σ : Heap} {v v' : Val} {n n' r : Int} {s s' : ByteArray} {m m' : List CV} (hv : zi v = .iface 222 (.vec m)) (hv' : zi v' = .iface 225 (i64 n')) : CRun Tryz.prog 167 [v.cv, v'.cv] σ (· = .ret (i64 (zg 2 5)) σ) := by
  refine ZX Tryz.func167 Tryz.ntmps167 ?_
  have t1 : CRun Tryz.prog 176 [v.cv] σ (· = .ret (.iface 222 (.vec m)) σ) := hv ▸ zc
  have t2 : CRun Tryz.prog 176 [v'.cv] σ (· = .ret (.iface 225 (i64 n')) σ) := hv' ▸ zc
  clear hv hv'
  obtain ⟨vk, vn, vt, vl⟩ := v
  obtain ⟨vk', vn', vt', vl'⟩ := v'
  conv => whnf
  repeat' (first | (refine CallN.one t1 ?_) | (refine CallN.one t2 ?_) | (refine Need.mk xr ?_) | (refine MethN.of x5 ?_) | (refine CallN.one (zl0 (b := n') (s := s') (m := m)) ?_) | refine Zh ?_ | refine Zn ?_ | refine Zp ?_ | refine Zr ?_) <;> try (conv => whnf)
  rfl
theorem zmm {σ : Heap} {v v' : Val} {n n' r : Int} {s s' : ByteArray} {m m' : List CV} (hv : zi v = .iface 222 (.vec m)) (hv' : zi v' = .iface 227 (.agg [])) : CRun Tryz.prog 167 [v.cv, v'.cv] σ (· = .ret (i64 (zg 2 6)) σ) := by
  refine ZX Tryz.func167 Tryz.ntmps167 ?_
  have t1 : CRun Tryz.prog 176 [v.cv] σ (· = .ret (.iface 222 (.vec m)) σ) := hv ▸ zc
  have t2 : CRun Tryz.prog 176 [v'.cv] σ (· = .ret (.iface 227 (.agg [])) σ) := hv' ▸ zc
  clear hv hv'
  obtain ⟨vk, vn, vt, vl⟩ := v
  obtain ⟨vk', vn', vt', vl'⟩ := v'
  conv => whnf
  repeat' (first | (refine CallN.one t1 ?_) | (refine CallN.one t2 ?_) | (refine Need.mk xr ?_) | (refine MethN.of x5 ?_) | (refine CallN.one (zjd (b := n') (s := s') (m := m)) ?_) | refine Zh ?_ | refine Zn ?_ | refine Zp ?_ | refine Zr ?_) <;> try (conv => whnf)
  rfl
theorem zl5 {σ : Heap} {v v' : Val} {n n' r : Int} {s s' : ByteArray} {m m' : List CV} (hv : zi v = .iface 223 (.sc (.string s))) (hv' : zi v' = .iface 220 (i64 n')) : CRun Tryz.prog 167 [v.cv, v'.cv] σ (· = .ret (i64 (zg 3 0)) σ) := by
  refine ZX Tryz.func167 Tryz.ntmps167 ?_
  have t1 : CRun Tryz.prog 176 [v.cv] σ (· = .ret (.iface 223 (.sc (.string s))) σ) := hv ▸ zc
  have t2 : CRun Tryz.prog 176 [v'.cv] σ (· = .ret (.iface 220 (i64 n')) σ) := hv' ▸ zc
  clear hv hv'
  obtain ⟨vk, vn, vt, vl⟩ := v
  obtain ⟨vk', vn', vt', vl'⟩ := v'
  conv => whnf
  repeat' (first | (refine CallN.one t1 ?_) | (refine CallN.one t2 ?_) | (refine Need.mk xm ?_) | (refine MethN.of xy ?_) | (refine CallN.one (ziw (a := 0) (b := n') (s0 := s) (s := s) (m := m')) ?_) | refine Zh ?_ | refine Zn ?_ | refine Zp ?_ | refine Zr ?_) <;> try (conv => whnf)
  rfl
theorem zl7 {σ : Heap} {v v' : Val} {n n' r : Int} {s s' : ByteArray} {m m' : List CV} (hv : zi v = .iface 223 (.sc (.string s))) (hv' : zi v' = .iface 221 (i64 n')) : CRun Tryz.prog 167 [v.cv, v'.cv] σ (· = .ret (i64 (zg 3 1)) σ) := by
  refine ZX Tryz.func167 Tryz.ntmps167 ?_
  have t1 : CRun Tryz.prog 176 [v.cv] σ (· = .ret (.iface 223 (.sc (.string s))) σ) := hv ▸ zc
  have t2 : CRun Tryz.prog 176 [v'.cv] σ (· = .ret (.iface 221 (i64 n')) σ) := hv' ▸ zc
  clear hv hv'
  obtain ⟨vk, vn, vt, vl⟩ := v
  obtain ⟨vk', vn', vt', vl'⟩ := v'
  conv => whnf
  repeat' (first | (refine CallN.one t1 ?_) | (refine CallN.one t2 ?_) | (refine Need.mk xm ?_) | (refine MethN.of xy ?_) | (refine CallN.one (ziy (a := 0) (b := n') (s0 := s) (s := s) (m := m')) ?_) | refine Zh ?_ | refine Zn ?_ | refine Zp ?_ | refine Zr ?_) <;> try (conv => whnf)
  rfl
theorem zl6 {σ : Heap} {v v' : Val} {n n' r : Int} {s s' : ByteArray} {m m' : List CV} (hv : zi v = .iface 223 (.sc (.string s))) (hv' : zi v' = .iface 222 (.vec m')) : CRun Tryz.prog 167 [v.cv, v'.cv] σ (· = .ret (i64 (zg 3 2)) σ) := by
  refine ZX Tryz.func167 Tryz.ntmps167 ?_
  have t1 : CRun Tryz.prog 176 [v.cv] σ (· = .ret (.iface 223 (.sc (.string s))) σ) := hv ▸ zc
  have t2 : CRun Tryz.prog 176 [v'.cv] σ (· = .ret (.iface 222 (.vec m')) σ) := hv' ▸ zc
  clear hv hv'
  obtain ⟨vk, vn, vt, vl⟩ := v
  obtain ⟨vk', vn', vt', vl'⟩ := v'
  conv => whnf
  repeat' (first | (refine CallN.one t1 ?_) | (refine CallN.one t2 ?_) | (refine Need.mk xm ?_) | (refine MethN.of xy ?_) | (refine CallN.one (zix (a := 0) (b := 0) (s0 := s) (s := s) (m := m')) ?_) | refine Zh ?_ | refine Zn ?_ | refine Zp ?_ | refine Zr ?_) <;> try (conv => whnf)
  rfl
theorem zl3 {σ : Heap} {v v' : Val} {n n' r : Int} {s s' : ByteArray} {m m' : List CV} (hv : zi v = .iface 223 (.sc (.string s))) (hv' : zi v' = .iface 223 (.sc (.string s'))) : CRun Tryz.prog 167 [v.cv, v'.cv] σ (· = .ret (i64 (zk7 s s')) σ) := by
  refine ZX Tryz.func167 Tryz.ntmps167 ?_
  have t1 : CRun Tryz.prog 176 [v.cv] σ (· = .ret (.iface 223 (.sc (.string s))) σ) := hv ▸ zc
  have t2 : CRun Tryz.prog 176 [v'.cv] σ (· = .ret (.iface 223 (.sc (.string s'))) σ) := hv' ▸ zc
  clear hv hv'
  obtain ⟨vk, vn, vt, vl⟩ := v
  obtain ⟨vk', vn', vt', vl'⟩ := v'
  conv => whnf
  repeat' (first | (refine CallN.one t1 ?_) | (refine CallN.one t2 ?_) | (refine Need.mk xm ?_) | (refine MethN.of xy ?_) | (refine CallN.one (ziu (a := 0) (b := 0) (s0 := s) (s := s') (m := m')) ?_) | refine Zh ?_ | refine Zn ?_ | refine Zp ?_ | refine Zr ?_) <;> try (conv => whnf)
  rfl
theorem zl8 {σ : Heap} {v v' : Val} {n n' r : Int} {s s' : ByteArray} {m m' : List CV} (hv : zi v = .iface 223 (.sc (.string s))) (hv' : zi v' = .iface 224 (i64 n')) : CRun Tryz.prog 167 [v.cv, v'.cv] σ (· = .ret (i64 (zg 3 4)) σ) := by
  refine ZX Tryz.func167 Tryz.ntmps167 ?_
  have t1 : CRun Tryz.prog 176 [v.cv] σ (· = .ret (.iface 223 (.sc (.string s))) σ) := hv ▸ zc
  have t2 : CRun Tryz.prog 176 [v'.cv] σ (· = .ret (.iface 224 (i64 n')) σ) := hv' ▸ zc
  clear hv hv'
  obtain ⟨vk, vn, vt, vl⟩ := v
  obtain ⟨vk', vn', vt', vl'⟩ := v'
  conv => whnf
  repeat' (first | (refine CallN.one t1 ?_) | (refine CallN.one t2 ?_) | (refine Need.mk xm ?_) | (refine MethN.of xy ?_) | (refine CallN.one (ziz (a := 0) (b := n') (s0 := s) (s := s) (m := m')) ?_) | refine Zh ?_ | refine Zn ?_ | refine Zp ?_ | refine Zr ?_) <;> try (conv => whnf)
  rfl
theorem zo0 {σ : Heap} {v v' : Val} {n n' r : Int} {s s' : ByteArray} {m m' : List CV} (hv : zi v = .iface 223 (.sc (.string s))) (hv' : zi v' = .iface 225 (i64 n')) : CRun Tryz.prog 167 [v.cv, v'.cv] σ (· = .ret (i64 (zg 3 5)) σ) := by
  refine ZX Tryz.func167 Tryz.ntmps167 ?_
  have t1 : CRun Tryz.prog 176 [v.cv] σ (· = .ret (.iface 223 (.sc (.string s))) σ) := hv ▸ zc
  have t2 : CRun Tryz.prog 176 [v'.cv] σ (· = .ret (.iface 225 (i64 n')) σ) := hv' ▸ zc
  clear hv hv'
  obtain ⟨vk, vn, vt, vl⟩ := v
  obtain ⟨vk', vn', vt', vl'⟩ := v'
  conv => whnf
  repeat' (first | (refine CallN.one t1 ?_) | (refine CallN.one t2 ?_) | (refine Need.mk xm ?_) | (refine MethN.of xy ?_) | (refine CallN.one (zlr (a := 0) (b := n') (s0 := s) (s := s) (m := m')) ?_) | refine Zh ?_ | refine Zn ?_ | refine Zp ?_ | refine Zr ?_) <;> try (conv => whnf)
  rfl
theorem zl4 {σ : Heap} {v v' : Val} {n n' r : Int} {s s' : ByteArray} {m m' : List CV} (hv : zi v = .iface 223 (.sc (.string s))) (hv' : zi v' = .iface 227 (.agg [])) : CRun Tryz.prog 167 [v.cv, v'.cv] σ (· = .ret (i64 (zg 3 6)) σ) := by
  refine ZX Tryz.func167 Tryz.ntmps167 ?_
  have t1 : CRun Tryz.prog 176 [v.cv] σ (· = .ret (.iface 223 (.sc (.string s))) σ) := hv ▸ zc
  have t2 : CRun Tryz.prog 176 [v'.cv] σ (· = .ret (.iface 227 (.agg [])) σ) := hv' ▸ zc
  clear hv hv'
  obtain ⟨vk, vn, vt, vl⟩ := v
  obtain ⟨vk', vn', vt', vl'⟩ := v'
  conv => whnf
  repeat' (first | (refine CallN.one t1 ?_) | (refine CallN.one t2 ?_) | (refine Need.mk xm ?_) | (refine MethN.of xy ?_) | (refine CallN.one (ziv (a := 0) (b := 0) (s0 := s) (s := s) (m := m')) ?_) | refine Zh ?_ | refine Zn ?_ | refine Zp ?_ | refine Zr ?_) <;> try (conv => whnf)
  rfl
theorem zmz {σ : Heap} {v v' : Val} {n n' r : Int} {s s' : ByteArray} {m m' : List CV} (hv : zi v = .iface 224 (i64 n)) (hv' : zi v' = .iface 220 (i64 n')) : CRun Tryz.prog 167 [v.cv, v'.cv] σ (· = .ret (i64 (zg 4 0)) σ) := by
  refine ZX Tryz.func167 Tryz.ntmps167 ?_
  have t1 : CRun Tryz.prog 176 [v.cv] σ (· = .ret (.iface 224 (i64 n)) σ) := hv ▸ zc
  have t2 : CRun Tryz.prog 176 [v'.cv] σ (· = .ret (.iface 220 (i64 n')) σ) := hv' ▸ zc
  clear hv hv'
  obtain ⟨vk, vn, vt, vl⟩ := v
  obtain ⟨vk', vn', vt', vl'⟩ := v'
  conv => whnf
  repeat' (first | (refine CallN.one t1 ?_) | (refine CallN.one t2 ?_) | (refine Need.mk xx ?_) | (refine MethN.of x7 ?_) | (refine CallN.one (zjq (a := n) (b := n') (s0 := s) (s := s') (m := m')) ?_) | refine Zh ?_ | refine Zn ?_ | refine Zp ?_ | refine Zr ?_) <;> try (conv => whnf)
  rfl
theorem zm1 {σ : Heap} {v v' : Val} {n n' r : Int} {s s' : ByteArray} {m m' : List CV} (hv : zi v = .iface 224 (i64 n)) (hv' : zi v' = .iface 221 (i64 n')) : CRun Tryz.prog 167 [v.cv, v'.cv] σ (· = .ret (i64 (zg 4 1)) σ) := by
  refine ZX Tryz.func167 Tryz.ntmps167 ?_
  have t1 : CRun Tryz.prog 176 [v.cv] σ (· = .ret (.iface 224 (i64 n)) σ) := hv ▸ zc
  have t2 : CRun Tryz.prog 176 [v'.cv] σ (· = .ret (.iface 221 (i64 n')) σ) := hv' ▸ zc
  clear hv hv'
  obtain ⟨vk, vn, vt, vl⟩ := v
  obtain ⟨vk', vn', vt', vl'⟩ := v'
  conv => whnf
  repeat' (first | (refine CallN.one t1 ?_) | (refine CallN.one t2 ?_) | (refine Need.mk xx ?_) | (refine MethN.of x7 ?_) | (refine CallN.one (zjs (a := n) (b := n') (s0 := s) (s := s') (m := m')) ?_) | refine Zh ?_ | refine Zn ?_ | refine Zp ?_ | refine Zr ?_) <;> try (conv => whnf)
  rfl
theorem zm0 {σ : Heap} {v v' : Val} {n n' r : Int} {s s' : ByteArray} {m m' : List CV} (hv : zi v = .iface 224 (i64 n)) (hv' : zi v' = .iface 222 (.vec m')) : CRun Tryz.prog 167 [v.cv, v'.cv] σ (· = .ret (i64 (zg 4 2)) σ) := by
  refine ZX Tryz.func167 Tryz.ntmps167 ?_
  have t1 : CRun Tryz.prog 176 [v.cv] σ (· = .ret (.iface 224 (i64 n)) σ) := hv ▸ zc
  have t2 : CRun Tryz.prog 176 [v'.cv] σ (· = .ret (.iface 222 (.vec m')) σ) := hv' ▸ zc
  clear hv hv'
  obtain ⟨vk, vn, vt, vl⟩ := v
  obtain ⟨vk', vn', vt', vl'⟩ := v'
  conv => whnf
  repeat' (first | (refine CallN.one t1 ?_) | (refine CallN.one t2 ?_) | (refine Need.mk xx ?_) | (refine MethN.of x7 ?_) | (refine CallN.one (zjr (a := n) (b := n') (s0 := s) (s := s') (m := m')) ?_) | refine Zh ?_ | refine Zn ?_ | refine Zp ?_ | refine Zr ?_) <;> try (conv => whnf)
  rfl
theorem zmx {σ : Heap} {v v' : Val} {n n' r : Int} {s s' : ByteArray} {m m' : List CV} (hv : zi v = .iface 224 (i64 n)) (hv' : zi v' = .iface 223 (.sc (.string s'))) : CRun Tryz.prog 167 [v.cv, v'.cv] σ (· = .ret (i64 (zg 4 3)) σ) := by
  refine ZX Tryz.func167 Tryz.ntmps167 ?_
  have t1 : CRun Tryz.prog 176 [v.cv] σ (· = .ret (.iface 224 (i64 n)) σ) := hv ▸ zc
  have t2 : CRun Tryz.prog 176 [v'.cv] σ (· = .ret (.iface 223 (.sc (.string s'))) σ) := hv' ▸ zc
  clear hv hv'
  obtain ⟨vk, vn, vt, vl⟩ := v
  obtain ⟨vk', vn', vt', vl'⟩ := v'
  conv => whnf
  repeat' (first | (refine CallN.one t1 ?_) | (refine CallN.one t2 ?_) | (refine Need.mk xx ?_) | (refine MethN.of x7 ?_) | (refine CallN.one (zjo (a := n) (b := n') (s0 := s) (s := s') (m := m')) ?_) | refine Zh ?_ | refine Zn ?_ | refine Zp ?_ | refine Zr ?_) <;> try (conv => whnf)
  rfl
theorem zm2 {σ : Heap} {v v' : Val} {n n' r : Int} {s s' : ByteArray} {m m' : List CV} (hv : zi v = .iface 224 (i64 n)) (hv' : zi v' = .iface 224 (i64 n')) : CRun Tryz.prog 167 [v.cv, v'.cv] σ (· = .ret (i64 (zg n n')) σ) := by
  refine ZX Tryz.func167 Tryz.ntmps167 ?_
  have t1 : CRun Tryz.prog 176 [v.cv] σ (· = .ret (.iface 224 (i64 n)) σ) := hv ▸ zc
  have t2 : CRun Tryz.prog 176 [v'.cv] σ (· = .ret (.iface 224 (i64 n')) σ) := hv' ▸ zc
  clear hv hv'
  obtain ⟨vk, vn, vt, vl⟩ := v
  obtain ⟨vk', vn', vt', vl'⟩ := v'
  conv => whnf
  repeat' (first | (refine CallN.one t1 ?_) | (refine CallN.one t2 ?_) | (refine Need.mk xx ?_) | (refine MethN.of x7 ?_) | (refine CallN.one (zjt (a := n) (b := n') (s0 := s) (s := s') (m := m')) ?_) | refine Zh ?_ | refine Zn ?_ | refine Zp ?_ | refine Zr ?_) <;> try (conv => whnf)
  rfl
theorem zpb {σ : Heap} {v v' : Val} {n n' r : Int} {s s' : ByteArray} {m m' : List CV} (hv : zi v = .iface 224 (i64 n)) (hv' : zi v' = .iface 225 (i64 n')) : CRun Tryz.prog 167 [v.cv, v'.cv] σ (· = .ret (i64 (zg 4 5)) σ) := by
  refine ZX Tryz.func167 Tryz.ntmps167 ?_
  have t1 : CRun Tryz.prog 176 [v.cv] σ (· = .ret (.iface 224 (i64 n)) σ) := hv ▸ zc
  have t2 : CRun Tryz.prog 176 [v'.cv] σ (· = .ret (.iface 225 (i64 n')) σ) := hv' ▸ zc
  clear hv hv'
  obtain ⟨vk, vn, vt, vl⟩ := v
  obtain ⟨vk', vn', vt', vl'⟩ := v'
  conv => whnf
  repeat' (first | (refine CallN.one t1 ?_) | (refine CallN.one t2 ?_) | (refine Need.mk xx ?_) | (refine MethN.of x7 ?_) | (refine CallN.one (zl2 (a := n) (b := n') (s0 := s) (s := s') (m := m')) ?_) | refine Zh ?_ | refine Zn ?_ | refine Zp ?_ | refine Zr ?_) <;> try (conv => whnf)
  rfl
theorem zmy {σ : Heap} {v v' : Val} {n n' r : Int} {s s' : ByteArray} {m m' : List CV} (hv : zi v = .iface 224 (i64 n)) (hv' : zi v' = .iface 227 (.agg [])) : CRun Tryz.prog 167 [v.cv, v'.cv] σ (· = .ret (i64 (zg 4 6)) σ) := by
  refine ZX Tryz.func167 Tryz.ntmps167 ?_
  have t1 : CRun Tryz.prog 176 [v.cv] σ (· = .ret (.iface 224 (i64 n)) σ) := hv ▸ zc
  have t2 : CRun Tryz.prog 176 [v'.cv] σ (· = .ret (.iface 227 (.agg [])) σ) := hv' ▸ zc
  clear hv hv'
  obtain ⟨vk, vn, vt, vl⟩ := v
  obtain ⟨vk', vn', vt', vl'⟩ := v'
  conv => whnf
  repeat' (first | (refine CallN.one t1 ?_) | (refine CallN.one t2 ?_) | (refine Need.mk xx ?_) | (refine MethN.of x7 ?_) | (refine CallN.one (zjp (a := n) (b := n') (s0 := s) (s := s') (m := m')) ?_) | refine Zh ?_ | refine Zn ?_ | refine Zp ?_ | refine Zr ?_) <;> try (conv => whnf)
  rfl
theorem zo3 {σ : Heap} {v v' : Val} {n n' r : Int} {s s' : ByteArray} {m m' : List CV} (hv : zi v = .iface 225 (i64 n)) (hv' : zi v' = .iface 220 (i64 n')) : CRun Tryz.prog 167 [v.cv, v'.cv] σ (· = .ret (i64 (zg 5 0)) σ) := by
  refine ZX Tryz.func167 Tryz.ntmps167 ?_
  have t1 : CRun Tryz.prog 176 [v.cv] σ (· = .ret (.iface 225 (i64 n)) σ) := hv ▸ zc
  have t2 : CRun Tryz.prog 176 [v'.cv] σ (· = .ret (.iface 220 (i64 n')) σ) := hv' ▸ zc
  clear hv hv'
  obtain ⟨vk, vn, vt, vl⟩ := v
  obtain ⟨vk', vn', vt', vl'⟩ := v'
  conv => whnf
  repeat' (first | (refine CallN.one t1 ?_) | (refine CallN.one t2 ?_) | (refine Need.mk w7 ?_) | (refine MethN.of w8 ?_) | (refine CallN.one (zlu (a := n) (b := n') (s0 := s) (s := s') (m := m')) ?_) | refine Zh ?_ | refine Zn ?_ | refine Zp ?_ | refine Zr ?_) <;> try (conv => whnf)
  rfl
theorem zo5 {σ : Heap} {v v' : Val} {n n' r : Int} {s s' : ByteArray} {m m' : List CV} (hv : zi v = .iface 225 (i64 n)) (hv' : zi v' = .iface 221 (i64 n')) : CRun Tryz.prog 167 [v.cv, v'.cv] σ (· = .ret (i64 (zg 5 1)) σ) := by
  refine ZX Tryz.func167 Tryz.ntmps167 ?_
  have t1 : CRun Tryz.prog 176 [v.cv] σ (· = .ret (.iface 225 (i64 n)) σ) := hv ▸ zc
  have t2 : CRun Tryz.prog 176 [v'.cv] σ (· = .ret (.iface 221 (i64 n')) σ) := hv' ▸ zc
  clear hv hv'
  obtain ⟨vk, vn, vt, vl⟩ := v
  obtain ⟨vk', vn', vt', vl'⟩ := v'
  conv => whnf
  repeat' (first | (refine CallN.one t1 ?_) | (refine CallN.one t2 ?_) | (refine Need.mk w7 ?_) | (refine MethN.of w8 ?_) | (refine CallN.one (zlw (a := n) (b := n') (s0 := s) (s := s') (m := m')) ?_) | refine Zh ?_ | refine Zn ?_ | refine Zp ?_ | refine Zr ?_) <;> try (conv => whnf)
  rfl
theorem zo4 {σ : Heap} {v v' : Val} {n n' r : Int} {s s' : ByteArray} {m m' : List CV} (hv : zi v = .iface 225 (i64 n)) (hv' : zi v' = .iface 222 (.vec m')) : CRun Tryz.prog 167 [v.cv, v'.cv] σ (· = .ret (i64 (zg 5 2)) σ) := by
  refine ZX Tryz.func167 Tryz.ntmps167 ?_
  have t1 : CRun Tryz.prog 176 [v.cv] σ (· = .ret (.iface 225 (i64 n)) σ) := hv ▸ zc
  have t2 : CRun Tryz.prog 176 [v'.cv] σ (· = .ret (.iface 222 (.vec m')) σ) := hv' ▸ zc
  clear hv hv'
  obtain ⟨vk, vn, vt, vl⟩ := v
  obtain ⟨vk', vn', vt', vl'⟩ := v'
  conv => whnf
  repeat' (first | (refine CallN.one t1 ?_) | (refine CallN.one t2 ?_) | (refine Need.mk w7 ?_) | (refine MethN.of w8 ?_) | (refine CallN.one (zlv (a := n) (b := n') (s0 := s) (s := s') (m := m')) ?_) | refine Zh ?_ | refine Zn ?_ | refine Zp ?_ | refine Zr ?_) <;> try (conv => whnf)
  rfl
theorem zo1 {σ : Heap} {v v' : Val} {n n' r : Int} {s s' : ByteArray} {m m' : List CV} (hv : zi v = .iface 225 (i64 n)) (hv' : zi v' = .iface 223 (.sc (.string s'))) : CRun Tryz.prog 167 [v.cv, v'.cv] σ (· = .ret (i64 (zg 5 3)) σ) := by
  refine ZX Tryz.func167 Tryz.ntmps167 ?_
  have t1 : CRun Tryz.prog 176 [v.cv] σ (· = .ret (.iface 225 (i64 n)) σ) := hv ▸ zc
  have t2 : CRun Tryz.prog 176 [v'.cv] σ (· = .ret (.iface 223 (.sc (.string s'))) σ) := hv' ▸ zc
  clear hv hv'
  obtain ⟨vk, vn, vt, vl⟩ := v
  obtain ⟨vk', vn', vt', vl'⟩ := v'
  conv => whnf
  repeat' (first | (refine CallN.one t1 ?_) | (refine CallN.one t2 ?_) | (refine Need.mk w7 ?_) | (refine MethN.of w8 ?_) | (refine CallN.one (zls (a := n) (b := n') (s0 := s) (s := s') (m := m')) ?_) | refine Zh ?_ | refine Zn ?_ | refine Zp ?_ | refine Zr ?_) <;> try (conv => whnf)
  rfl
theorem zo6 {σ : Heap} {v v' : Val} {n n' r : Int} {s s' : ByteArray} {m m' : List CV} (hv : zi v = .iface 225 (i64 n)) (hv' : zi v' = .iface 224 (i64 n')) : CRun Tryz.prog 167 [v.cv, v'.cv] σ (· = .ret (i64 (zg 5 4)) σ) := by
  refine ZX Tryz.func167 Tryz.ntmps167 ?_
  have t1 : CRun Tryz.prog 176 [v.cv] σ (· = .ret (.iface 225 (i64 n)) σ) := hv ▸ zc
  have t2 : CRun Tryz.prog 176 [v'.cv] σ (· = .ret (.iface 224 (i64 n')) σ) := hv' ▸ zc
  clear hv hv'
  obtain ⟨vk, vn, vt, vl⟩ := v
  obtain ⟨vk', vn', vt', vl'⟩ := v'
  conv => whnf
  repeat' (first | (refine CallN.one t1 ?_) | (refine CallN.one t2 ?_) | (refine Need.mk w7 ?_) | (refine MethN.of w8 ?_) | (refine CallN.one (zlx (a := n) (b := n') (s0 := s) (s := s') (m := m')) ?_) | refine Zh ?_ | refine Zn ?_ | refine Zp ?_ | refine Zr ?_) <;> try (conv => whnf)
  rfl
theorem zso {σ : Heap} {v v' : Val} {n n' r : Int} {s s' : ByteArray} {m m' : List CV} (hv : zi v = .iface 225 (i64 n)) (hv' : zi v' = .iface 225 (i64 n')) : CRun Tryz.prog 167 [v.cv, v'.cv] σ (· = .ret (i64 (zg n n')) σ) := by
  refine ZX Tryz.func167 Tryz.ntmps167 ?_
  have t1 : CRun Tryz.prog 176 [v.cv] σ (· = .ret (.iface 225 (i64 n)) σ) := hv ▸ zc
  have t2 : CRun Tryz.prog 176 [v'.cv] σ (· = .ret (.iface 225 (i64 n')) σ) := hv' ▸ zc
  clear hv hv'
  obtain ⟨vk, vn, vt, vl⟩ := v
  obtain ⟨vk', vn', vt', vl'⟩ := v'
  conv => whnf
  repeat' (first | (refine CallN.one t1 ?_) | (refine CallN.one t2 ?_) | (refine Need.mk w7 ?_) | (refine MethN.of w8 ?_) | (refine CallN.one (zoy (a := n) (b := n') (s0 := s) (s := s') (m := m')) ?_) | refine Zh ?_ | refine Zn ?_ | refine Zp ?_ | refine Zr ?_) <;> try (conv => whnf)
  rfl
theorem zo2 {σ : Heap} {v v' : Val} {n n' r : Int} {s s' : ByteArray} {m m' : List CV} (hv : zi v = .iface 225 (i64 n)) (hv' : zi v' = .iface 227 (.agg [])) : CRun Tryz.prog 167 [v.cv, v'.cv] σ (· = .ret (i64 (zg 5 6)) σ) := by
  refine ZX Tryz.func167 Tryz.ntmps167 ?_
  have t1 : CRun Tryz.prog 176 [v.cv] σ (· = .ret (.iface 225 (i64 n)) σ) := hv ▸ zc
  have t2 : CRun Tryz.prog 176 [v'.cv] σ (· = .ret (.iface 227 (.agg [])) σ) := hv' ▸ zc
  clear hv hv'
  obtain ⟨vk, vn, vt, vl⟩ := v
  obtain ⟨vk', vn', vt', vl'⟩ := v'
  conv => whnf
  repeat' (first | (refine CallN.one t1 ?_) | (refine CallN.one t2 ?_) | (refine Need.mk w7 ?_) | (refine MethN.of w8 ?_) | (refine CallN.one (zlt (a := n) (b := n') (s0 := s) (s := s') (m := m')) ?_) | refine Zh ?_ | refine Zn ?_ | refine Zp ?_ | refine Zr ?_) <;> try (conv => whnf)
  rfl
theorem zmb {σ : Heap} {v v' : Val} {n n' r : Int} {s s' : ByteArray} {m m' : List CV} (hv : zi v = .iface 227 (.agg [])) (hv' : zi v' = .iface 220 (i64 n')) : CRun Tryz.prog 167 [v.cv, v'.cv] σ (· = .ret (i64 (zg 6 0)) σ) := by
  refine ZX Tryz.func167 Tryz.ntmps167 ?_
  have t1 : CRun Tryz.prog 176 [v.cv] σ (· = .ret (.iface 227 (.agg [])) σ) := hv ▸ zc
  have t2 : CRun Tryz.prog 176 [v'.cv] σ (· = .ret (.iface 220 (i64 n')) σ) := hv' ▸ zc
  clear hv hv'
  obtain ⟨vk, vn, vt, vl⟩ := v
  obtain ⟨vk', vn', vt', vl'⟩ := v'
  conv => whnf
  repeat' (first | (refine CallN.one t1 ?_) | (refine CallN.one t2 ?_) | (refine Need.mk xo ?_) | (refine MethN.of xz ?_) | (refine CallN.one (zi2 (a := n) (b := n') (s0 := s) (s := s') (m := m')) ?_) | refine Zh ?_ | refine Zn ?_ | refine Zp ?_ | refine Zr ?_) <;> try (conv => whnf)
  rfl
theorem zmd {σ : Heap} {v v' : Val} {n n' r : Int} {s s' : ByteArray} {m m' : List CV} (hv : zi v = .iface 227 (.agg [])) (hv' : zi v' = .iface 221 (i64 n')) : CRun Tryz.prog 167 [v.cv, v'.cv] σ (· = .ret (i64 (zg 6 1)) σ) := by
  refine ZX Tryz.func167 Tryz.ntmps167 ?_
  have t1 : CRun Tryz.prog 176 [v.cv] σ (· = .ret (.iface 227 (.agg [])) σ) := hv ▸ zc
  have t2 : CRun Tryz.prog 176 [v'.cv] σ (· = .ret (.iface 221 (i64 n')) σ) := hv' ▸ zc
  clear hv hv'
  obtain ⟨vk, vn, vt, vl⟩ := v
  obtain ⟨vk', vn', vt', vl'⟩ := v'
  conv => whnf
  repeat' (first | (refine CallN.one t1 ?_) | (refine CallN.one t2 ?_) | (refine Need.mk xo ?_) | (refine MethN.of xz ?_) | (refine CallN.one (zi4 (a := n) (b := n') (s0 := s) (s := s') (m := m')) ?_) | refine Zh ?_ | refine Zn ?_ | refine Zp ?_ | refine Zr ?_) <;> try (conv => whnf)
  rfl
theorem zmc {σ : Heap} {v v' : Val} {n n' r : Int} {s s' : ByteArray} {m m' : List CV} (hv : zi v = .iface 227 (.agg [])) (hv' : zi v' = .iface 222 (.vec m')) : CRun Tryz.prog 167 [v.cv, v'.cv] σ (· = .ret (i64 (zg 6 2)) σ) := by
  refine ZX Tryz.func167 Tryz.ntmps167 ?_
  have t1 : CRun Tryz.prog 176 [v.cv] σ (· = .ret (.iface 227 (.agg [])) σ) := hv ▸ zc
  have t2 : CRun Tryz.prog 176 [v'.cv] σ (· = .ret (.iface 222 (.vec m')) σ) := hv' ▸ zc
  clear hv hv'
  obtain ⟨vk, vn, vt, vl⟩ := v
  obtain ⟨vk', vn', vt', vl'⟩ := v'
  conv => whnf
  repeat' (first | (refine CallN.one t1 ?_) | (refine CallN.one t2 ?_) | (refine Need.mk xo ?_) | (refine MethN.of xz ?_) | (refine CallN.one (zi3 (a := n) (b := n') (s0 := s) (s := s') (m := m')) ?_) | refine Zh ?_ | refine Zn ?_ | refine Zp ?_ | refine Zr ?_) <;> try (conv => whnf)
  rfl
theorem zl9 {σ : Heap} {v v' : Val} {n n' r : Int} {s s' : ByteArray} {m m' : List CV} (hv : zi v = .iface 227 (.agg [])) (hv' : zi v' = .iface 223 (.sc (.string s'))) : CRun Tryz.prog 167 [v.cv, v'.cv] σ (· = .ret (i64 (zg 6 3)) σ) := by
  refine ZX Tryz.func167 Tryz.ntmps167 ?_
  have t1 : CRun Tryz.prog 176 [v.cv] σ (· = .ret (.iface 227 (.agg [])) σ) := hv ▸ zc
  have t2 : CRun Tryz.prog 176 [v'.cv] σ (· = .ret (.iface 223 (.sc (.string s'))) σ) := hv' ▸ zc
  clear hv hv'
  obtain ⟨vk, vn, vt, vl⟩ := v
  obtain ⟨vk', vn', vt', vl'⟩ := v'
  conv => whnf
  repeat' (first | (refine CallN.one t1 ?_) | (refine CallN.one t2 ?_) | (refine Need.mk xo ?_) | (refine MethN.of xz ?_) | (refine CallN.one (zi0 (a := n) (b := n') (s0 := s) (s := s') (m := m')) ?_) | refine Zh ?_ | refine Zn ?_ | refine Zp ?_ | refine Zr ?_) <;> try (conv => whnf)
  rfl
theorem zme {σ : Heap} {v v' : Val} {n n' r : Int} {s s' : ByteArray} {m m' : List CV} (hv : zi v = .iface 227 (.agg [])) (hv' : zi v' = .iface 224 (i64 n')) : CRun Tryz.prog 167 [v.cv, v'.cv] σ (· = .ret (i64 (zg 6 4)) σ) := by
  refine ZX Tryz.func167 Tryz.ntmps167 ?_
  have t1 : CRun Tryz.prog 176 [v.cv] σ (· = .ret (.iface 227 (.agg [])) σ) := hv ▸ zc
  have t2 : CRun Tryz.prog 176 [v'.cv] σ (· = .ret (.iface 224 (i64 n')) σ) := hv' ▸ zc
  clear hv hv'
  obtain ⟨vk, vn, vt, vl⟩ := v
  obtain ⟨vk', vn', vt', vl'⟩ := v'
  conv => whnf
  repeat' (first | (refine CallN.one t1 ?_) | (refine CallN.one t2 ?_) | (refine Need.mk xo ?_) | (refine MethN.of xz ?_) | (refine CallN.one (zi5 (a := n) (b := n') (s0 := s) (s := s') (m := m')) ?_) | refine Zh ?_ | refine Zn ?_ | refine Zp ?_ | refine Zr ?_) <;> try (conv => whnf)
  rfl
theorem zo7 {σ : Heap} {v v' : Val} {n n' r : Int} {s s' : ByteArray} {m m' : List CV} (hv : zi v = .iface 227 (.agg [])) (hv' : zi v' = .iface 225 (i64 n')) : CRun Tryz.prog 167 [v.cv, v'.cv] σ (· = .ret (i64 (zg 6 5)) σ) := by
  refine ZX Tryz.func167 Tryz.ntmps167 ?_
  have t1 : CRun Tryz.prog 176 [v.cv] σ (· = .ret (.iface 227 (.agg [])) σ) := hv ▸ zc
  have t2 : CRun Tryz.prog 176 [v'.cv] σ (· = .ret (.iface 225 (i64 n')) σ) := hv' ▸ zc
  clear hv hv'
  obtain ⟨vk, vn, vt, vl⟩ := v
  obtain ⟨vk', vn', vt', vl'⟩ := v'
  conv => whnf
  repeat' (first | (refine CallN.one t1 ?_) | (refine CallN.one t2 ?_) | (refine Need.mk xo ?_) | (refine MethN.of xz ?_) | (refine CallN.one (zly (a := n) (b := n') (s0 := s) (s := s') (m := m')) ?_) | refine Zh ?_ | refine Zn ?_ | refine Zp ?_ | refine Zr ?_) <;> try (conv => whnf)
  rfl
theorem zma {σ : Heap} {v v' : Val} {n n' r : Int} {s s' : ByteArray} {m m' : List CV} (hv : zi v = .iface 227 (.agg [])) (hv' : zi v' = .iface 227 (.agg [])) : CRun Tryz.prog 167 [v.cv, v'.cv] σ (· = .ret (i64 (zg 6 6)) σ) := by
  refine ZX Tryz.func167 Tryz.ntmps167 ?_
  have t1 : CRun Tryz.prog 176 [v.cv] σ (· = .ret (.iface 227 (.agg [])) σ) := hv ▸ zc
  have t2 : CRun Tryz.prog 176 [v'.cv] σ (· = .ret (.iface 227 (.agg [])) σ) := hv' ▸ zc
  clear hv hv'
  obtain ⟨vk, vn, vt, vl⟩ := v
  obtain ⟨vk', vn', vt', vl'⟩ := v'
  conv => whnf
  repeat' (first | (refine CallN.one t1 ?_) | (refine CallN.one t2 ?_) | (refine Need.mk xo ?_) | (refine MethN.of xz ?_) | (refine CallN.one (zi1 (a := n) (b := n') (s0 := s) (s := s') (m := m')) ?_) | refine Zh ?_ | refine Zn ?_ | refine Zp ?_ | refine Zr ?_) <;> try (conv => whnf)
  rfl
theorem va (k n : Int) (t : ByteArray) (l : List Val) :
    (k = 5 ∧ zc5 k = 0 ∧ zi (.mk k n t l) = .iface 220 (i64 n)) ∨
    (k = 6 ∧ zc5 k = 1 ∧ zi (.mk k n t l) = .iface 221 (i64 n)) ∨
    (k = 4 ∧ zc5 k = 2 ∧ zi (.mk k n t l) = .iface 222 (.vec (Val.cvs l))) ∨
    (k = 3 ∧ zc5 k = 3 ∧ zi (.mk k n t l) = .iface 223 (.sc (.string t))) ∨
    (k = 1 ∧ zc5 k = 4 ∧ zi (.mk k n t l) = .iface 224 (i64 n)) ∨
    (k = 2 ∧ zc5 k = 5 ∧ zi (.mk k n t l) = .iface 225 (i64 n)) ∨
    ((k ≠ 4 ∧ k ≠ 3) ∧ zc5 k = 6 ∧ zi (.mk k n t l) = .iface 227 (.agg [])) := by
  by_cases h5 : k = 5
  · subst h5; exact .inl ⟨rfl, rfl, rfl⟩
  by_cases h6 : k = 6
  · subst h6; exact .inr (.inl ⟨rfl, rfl, rfl⟩)
  by_cases h4 : k = 4
  · subst h4; exact .inr (.inr (.inl ⟨rfl, rfl, rfl⟩))
  by_cases h3 : k = 3
  · subst h3; exact .inr (.inr (.inr (.inl ⟨rfl, rfl, rfl⟩)))
  by_cases h1 : k = 1
  · subst h1; exact .inr (.inr (.inr (.inr (.inl ⟨rfl, rfl, rfl⟩))))
  by_cases h2 : k = 2
  · subst h2; exact .inr (.inr (.inr (.inr (.inr (.inl ⟨rfl, rfl, rfl⟩)))))
  · refine .inr (.inr (.inr (.inr (.inr (.inr ⟨⟨h4, h3⟩, ?_, ?_⟩)))))
    · unfold zc5; rw [if_neg h5, if_neg h6, if_neg h4, if_neg h3, if_neg h1, if_neg h2]
    · simp only [zi]; rw [if_neg h5, if_neg h6, if_neg h4, if_neg h3, if_neg h1, if_neg h2]
theorem fin {f : FuncId} {args : List CV} {σ : Heap} {r q : Int} (h : CRun Tryz.prog f args σ (· = .ret (i64 r) σ)) (e : q = r) : CRun Tryz.prog f args σ (· = .ret (i64 q) σ) := e ▸ h
theorem zux {σ : Heap} {v : Val} (hv : Tame v) : ∀ {v' : Val}, Tame v' → CRun Tryz.prog 167 [v.cv, v'.cv] σ (· = .ret (i64 (v7 v v')) σ) := by
  induction hv with
  | @mk k n t l hk hn ht hl h ih =>
    intro v' hv'
    obtain ⟨k', n', t', l'⟩ := v'
    obtain ⟨b1, b2, b3, b4, b5⟩ := hv'.inv
    have hll := zjf hl b4 b5 ih
    rcases va k n t l with ⟨e1, r1, h1⟩ | ⟨e1, r1, h1⟩ | ⟨e1, r1, h1⟩ | ⟨e1, r1, h1⟩ | ⟨e1, r1, h1⟩ | ⟨e1, r1, h1⟩ | ⟨e1, r1, h1⟩
    · rcases va k' n' t' l' with ⟨e2, r2, h2⟩ | ⟨e2, r2, h2⟩ | ⟨e2, r2, h2⟩ | ⟨e2, r2, h2⟩ | ⟨e2, r2, h2⟩ | ⟨e2, r2, h2⟩ | ⟨e2, r2, h2⟩
      · exact fin (zmh (n := n) (n' := n') (r := z8 l l') (s := t) (s' := t') (m := Val.cvs l) (m' := Val.cvs l') h1 h2) (by simp only [v7]; rw [if_neg (by rw [r1, r2]; simp), if_neg (by omega), if_neg (by omega), if_neg (by rw [r1]; decide)])
      · exact fin (zmj (n := n) (n' := n') (r := z8 l l') (s := t) (s' := t') (m := Val.cvs l) (m' := Val.cvs l') h1 h2) (by simp only [v7]; rw [if_pos (by rw [r1, r2]; decide), r1, r2])
      · exact fin (zmi (n := n) (n' := n') (r := z8 l l') (s := t) (s' := t') (m := Val.cvs l) (m' := Val.cvs l') h1 h2) (by simp only [v7]; rw [if_pos (by rw [r1, r2]; decide), r1, r2])
      · exact fin (zmf (n := n) (n' := n') (r := z8 l l') (s := t) (s' := t') (m := Val.cvs l) (m' := Val.cvs l') h1 h2) (by simp only [v7]; rw [if_pos (by rw [r1, r2]; decide), r1, r2])
      · exact fin (zmk (n := n) (n' := n') (r := z8 l l') (s := t) (s' := t') (m := Val.cvs l) (m' := Val.cvs l') h1 h2) (by simp only [v7]; rw [if_pos (by rw [r1, r2]; decide), r1, r2])
      · exact fin (zo8 (n := n) (n' := n') (r := z8 l l') (s := t) (s' := t') (m := Val.cvs l) (m' := Val.cvs l') h1 h2) (by simp only [v7]; rw [if_pos (by rw [r1, r2]; decide), r1, r2])
      · exact fin (zmg (n := n) (n' := n') (r := z8 l l') (s := t) (s' := t') (m := Val.cvs l) (m' := Val.cvs l') h1 h2) (by simp only [v7]; rw [if_pos (by rw [r1, r2]; decide), r1, r2])
    · rcases va k' n' t' l' with ⟨e2, r2, h2⟩ | ⟨e2, r2, h2⟩ | ⟨e2, r2, h2⟩ | ⟨e2, r2, h2⟩ | ⟨e2, r2, h2⟩ | ⟨e2, r2, h2⟩ | ⟨e2, r2, h2⟩
      · exact fin (zmt (n := n) (n' := n') (r := z8 l l') (s := t) (s' := t') (m := Val.cvs l) (m' := Val.cvs l') h1 h2) (by simp only [v7]; rw [if_pos (by rw [r1, r2]; decide), r1, r2])
      · exact fin (zmv (n := n) (n' := n') (r := z8 l l') (s := t) (s' := t') (m := Val.cvs l) (m' := Val.cvs l') h1 h2) (by simp only [v7]; rw [if_neg (by rw [r1, r2]; simp), if_neg (by omega), if_neg (by omega), if_neg (by rw [r1]; decide)])
      · exact fin (zmu (n := n) (n' := n') (r := z8 l l') (s := t) (s' := t') (m := Val.cvs l) (m' := Val.cvs l') h1 h2) (by simp only [v7]; rw [if_pos (by rw [r1, r2]; decide), r1, r2])
      · exact fin (zmr (n := n) (n' := n') (r := z8 l l') (s := t) (s' := t') (m := Val.cvs l) (m' := Val.cvs l') h1 h2) (by simp only [v7]; rw [if_pos (by rw [r1, r2]; decide), r1, r2])
      · exact fin (zmw (n := n) (n' := n') (r := z8 l l') (s := t) (s' := t') (m := Val.cvs l) (m' := Val.cvs l') h1 h2) (by simp only [v7]; rw [if_pos (by rw [r1, r2]; decide), r1, r2])
      · exact fin (zpa (n := n) (n' := n') (r := z8 l l') (s := t) (s' := t') (m := Val.cvs l) (m' := Val.cvs l') h1 h2) (by simp only [v7]; rw [if_pos (by rw [r1, r2]; decide), r1, r2])
      · exact fin (zms (n := n) (n' := n') (r := z8 l l') (s := t) (s' := t') (m := Val.cvs l) (m' := Val.cvs l') h1 h2) (by simp only [v7]; rw [if_pos (by rw [r1, r2]; decide), r1, r2])
    · rcases va k' n' t' l' with ⟨e2, r2, h2⟩ | ⟨e2, r2, h2⟩ | ⟨e2, r2, h2⟩ | ⟨e2, r2, h2⟩ | ⟨e2, r2, h2⟩ | ⟨e2, r2, h2⟩ | ⟨e2, r2, h2⟩
      · exact fin (zmn (n := n) (n' := n') (r := z8 l l') (s := t) (s' := t') (m := Val.cvs l) (m' := Val.cvs l') h1 h2) (by simp only [v7]; rw [if_pos (by rw [r1, r2]; decide), r1, r2])
      · exact fin (zmp (n := n) (n' := n') (r := z8 l l') (s := t) (s' := t') (m := Val.cvs l) (m' := Val.cvs l') h1 h2) (by simp only [v7]; rw [if_pos (by rw [r1, r2]; decide), r1, r2])
      · exact fin (zmo (n := n) (n' := n') (r := z8 l l') (s := t) (s' := t') (m := Val.cvs l) (m' := Val.cvs l') h1 h2 hll) (by simp only [v7]; rw [if_neg (by rw [r1, r2]; simp), if_pos e1])
      · exact fin (zml (n := n) (n' := n') (r := z8 l l') (s := t) (s' := t') (m := Val.cvs l) (m' := Val.cvs l') h1 h2) (by simp only [v7]; rw [if_pos (by rw [r1, r2]; decide), r1, r2])
      · exact fin (zmq (n := n) (n' := n') (r := z8 l l') (s := t) (s' := t') (m := Val.cvs l) (m' := Val.cvs l') h1 h2) (by simp only [v7]; rw [if_pos (by rw [r1, r2]; decide), r1, r2])
      · exact fin (zo9 (n := n) (n' := n') (r := z8 l l') (s := t) (s' := t') (m := Val.cvs l) (m' := Val.cvs l') h1 h2) (by simp only [v7]; rw [if_pos (by rw [r1, r2]; decide), r1, r2])
      · exact fin (zmm (n := n) (n' := n') (r := z8 l l') (s := t) (s' := t') (m := Val.cvs l) (m' := Val.cvs l') h1 h2) (by simp only [v7]; rw [if_pos (by rw [r1, r2]; decide), r1, r2])
    · rcases va k' n' t' l' with ⟨e2, r2, h2⟩ | ⟨e2, r2, h2⟩ | ⟨e2, r2, h2⟩ | ⟨e2, r2, h2⟩ | ⟨e2, r2, h2⟩ | ⟨e2, r2, h2⟩ | ⟨e2, r2, h2⟩
      · exact fin (zl5 (n := n) (n' := n') (r := z8 l l') (s := t) (s' := t') (m := Val.cvs l) (m' := Val.cvs l') h1 h2) (by simp only [v7]; rw [if_pos (by rw [r1, r2]; decide), r1, r2])
      · exact fin (zl7 (n := n) (n' := n') (r := z8 l l') (s := t) (s' := t') (m := Val.cvs l) (m' := Val.cvs l') h1 h2) (by simp only [v7]; rw [if_pos (by rw [r1, r2]; decide), r1, r2])
      · exact fin (zl6 (n := n) (n' := n') (r := z8 l l') (s := t) (s' := t') (m := Val.cvs l) (m' := Val.cvs l') h1 h2) (by simp only [v7]; rw [if_pos (by rw [r1, r2]; decide), r1, r2])
      · exact fin (zl3 (n := n) (n' := n') (r := z8 l l') (s := t) (s' := t') (m := Val.cvs l) (m' := Val.cvs l') h1 h2) (by simp only [v7]; rw [if_neg (by rw [r1, r2]; simp), if_neg (by omega), if_pos e1])
      · exact fin (zl8 (n := n) (n' := n') (r := z8 l l') (s := t) (s' := t') (m := Val.cvs l) (m' := Val.cvs l') h1 h2) (by simp only [v7]; rw [if_pos (by rw [r1, r2]; decide), r1, r2])
      · exact fin (zo0 (n := n) (n' := n') (r := z8 l l') (s := t) (s' := t') (m := Val.cvs l) (m' := Val.cvs l') h1 h2) (by simp only [v7]; rw [if_pos (by rw [r1, r2]; decide), r1, r2])
      · exact fin (zl4 (n := n) (n' := n') (r := z8 l l') (s := t) (s' := t') (m := Val.cvs l) (m' := Val.cvs l') h1 h2) (by simp only [v7]; rw [if_pos (by rw [r1, r2]; decide), r1, r2])
    · rcases va k' n' t' l' with ⟨e2, r2, h2⟩ | ⟨e2, r2, h2⟩ | ⟨e2, r2, h2⟩ | ⟨e2, r2, h2⟩ | ⟨e2, r2, h2⟩ | ⟨e2, r2, h2⟩ | ⟨e2, r2, h2⟩
      · exact fin (zmz (n := n) (n' := n') (r := z8 l l') (s := t) (s' := t') (m := Val.cvs l) (m' := Val.cvs l') h1 h2) (by simp only [v7]; rw [if_pos (by rw [r1, r2]; decide), r1, r2])
      · exact fin (zm1 (n := n) (n' := n') (r := z8 l l') (s := t) (s' := t') (m := Val.cvs l) (m' := Val.cvs l') h1 h2) (by simp only [v7]; rw [if_pos (by rw [r1, r2]; decide), r1, r2])
      · exact fin (zm0 (n := n) (n' := n') (r := z8 l l') (s := t) (s' := t') (m := Val.cvs l) (m' := Val.cvs l') h1 h2) (by simp only [v7]; rw [if_pos (by rw [r1, r2]; decide), r1, r2])
      · exact fin (zmx (n := n) (n' := n') (r := z8 l l') (s := t) (s' := t') (m := Val.cvs l) (m' := Val.cvs l') h1 h2) (by simp only [v7]; rw [if_pos (by rw [r1, r2]; decide), r1, r2])
      · exact fin (zm2 (n := n) (n' := n') (r := z8 l l') (s := t) (s' := t') (m := Val.cvs l) (m' := Val.cvs l') h1 h2) (by simp only [v7]; rw [if_neg (by rw [r1, r2]; simp), if_neg (by omega), if_neg (by omega), if_neg (by rw [r1]; decide)])
      · exact fin (zpb (n := n) (n' := n') (r := z8 l l') (s := t) (s' := t') (m := Val.cvs l) (m' := Val.cvs l') h1 h2) (by simp only [v7]; rw [if_pos (by rw [r1, r2]; decide), r1, r2])
      · exact fin (zmy (n := n) (n' := n') (r := z8 l l') (s := t) (s' := t') (m := Val.cvs l) (m' := Val.cvs l') h1 h2) (by simp only [v7]; rw [if_pos (by rw [r1, r2]; decide), r1, r2])
    · rcases va k' n' t' l' with ⟨e2, r2, h2⟩ | ⟨e2, r2, h2⟩ | ⟨e2, r2, h2⟩ | ⟨e2, r2, h2⟩ | ⟨e2, r2, h2⟩ | ⟨e2, r2, h2⟩ | ⟨e2, r2, h2⟩
      · exact fin (zo3 (n := n) (n' := n') (r := z8 l l') (s := t) (s' := t') (m := Val.cvs l) (m' := Val.cvs l') h1 h2) (by simp only [v7]; rw [if_pos (by rw [r1, r2]; decide), r1, r2])
      · exact fin (zo5 (n := n) (n' := n') (r := z8 l l') (s := t) (s' := t') (m := Val.cvs l) (m' := Val.cvs l') h1 h2) (by simp only [v7]; rw [if_pos (by rw [r1, r2]; decide), r1, r2])
      · exact fin (zo4 (n := n) (n' := n') (r := z8 l l') (s := t) (s' := t') (m := Val.cvs l) (m' := Val.cvs l') h1 h2) (by simp only [v7]; rw [if_pos (by rw [r1, r2]; decide), r1, r2])
      · exact fin (zo1 (n := n) (n' := n') (r := z8 l l') (s := t) (s' := t') (m := Val.cvs l) (m' := Val.cvs l') h1 h2) (by simp only [v7]; rw [if_pos (by rw [r1, r2]; decide), r1, r2])
      · exact fin (zo6 (n := n) (n' := n') (r := z8 l l') (s := t) (s' := t') (m := Val.cvs l) (m' := Val.cvs l') h1 h2) (by simp only [v7]; rw [if_pos (by rw [r1, r2]; decide), r1, r2])
      · exact fin (zso (n := n) (n' := n') (r := z8 l l') (s := t) (s' := t') (m := Val.cvs l) (m' := Val.cvs l') h1 h2) (by simp only [v7]; rw [if_neg (by rw [r1, r2]; simp), if_neg (by omega), if_neg (by omega), if_neg (by rw [r1]; decide)])
      · exact fin (zo2 (n := n) (n' := n') (r := z8 l l') (s := t) (s' := t') (m := Val.cvs l) (m' := Val.cvs l') h1 h2) (by simp only [v7]; rw [if_pos (by rw [r1, r2]; decide), r1, r2])
    · rcases va k' n' t' l' with ⟨e2, r2, h2⟩ | ⟨e2, r2, h2⟩ | ⟨e2, r2, h2⟩ | ⟨e2, r2, h2⟩ | ⟨e2, r2, h2⟩ | ⟨e2, r2, h2⟩ | ⟨e2, r2, h2⟩
      · exact fin (zmb (n := n) (n' := n') (r := z8 l l') (s := t) (s' := t') (m := Val.cvs l) (m' := Val.cvs l') h1 h2) (by simp only [v7]; rw [if_pos (by rw [r1, r2]; decide), r1, r2])
      · exact fin (zmd (n := n) (n' := n') (r := z8 l l') (s := t) (s' := t') (m := Val.cvs l) (m' := Val.cvs l') h1 h2) (by simp only [v7]; rw [if_pos (by rw [r1, r2]; decide), r1, r2])
      · exact fin (zmc (n := n) (n' := n') (r := z8 l l') (s := t) (s' := t') (m := Val.cvs l) (m' := Val.cvs l') h1 h2) (by simp only [v7]; rw [if_pos (by rw [r1, r2]; decide), r1, r2])
      · exact fin (zl9 (n := n) (n' := n') (r := z8 l l') (s := t) (s' := t') (m := Val.cvs l) (m' := Val.cvs l') h1 h2) (by simp only [v7]; rw [if_pos (by rw [r1, r2]; decide), r1, r2])
      · exact fin (zme (n := n) (n' := n') (r := z8 l l') (s := t) (s' := t') (m := Val.cvs l) (m' := Val.cvs l') h1 h2) (by simp only [v7]; rw [if_pos (by rw [r1, r2]; decide), r1, r2])
      · exact fin (zo7 (n := n) (n' := n') (r := z8 l l') (s := t) (s' := t') (m := Val.cvs l) (m' := Val.cvs l') h1 h2) (by simp only [v7]; rw [if_pos (by rw [r1, r2]; decide), r1, r2])
      · exact fin (zma (n := n) (n' := n') (r := z8 l l') (s := t) (s' := t') (m := Val.cvs l) (m' := Val.cvs l') h1 h2) (by simp only [v7]; rw [if_neg (by rw [r1, r2]; simp), if_neg e1.1, if_neg e1.2, if_pos r1]; rfl)
theorem zul {k : Int} (h : k = 0 ∨ k = 1 ∨ k = 2 ∨ k = 3 ∨ k = 4 ∨ k = 5 ∨ k = 6) : zc5 k = zor k := by
  rcases h with rfl | rfl | rfl | rfl | rfl | rfl | rfl <;> rfl
theorem zar {d k n : Int} {t : ByteArray} {l : List Val} (h : okV d (.mk k n t l) = true) : (k = 0 ∧ n = 0) ∨ k = 1 ∨ k = 2 ∨ k = 3 ∨ k = 4 ∨ k = 5 ∨ k = 6 := by
  simp only [okV, Bool.and_eq_true] at h
  obtain ⟨_, h⟩ := h
  by_cases h0 : k = 0
  · subst h0
    rw [if_pos rfl] at h
    simp only [Bool.and_eq_true, decide_eq_true_eq] at h
    exact .inl ⟨rfl, h.1.1⟩
  by_cases h1 : k = 1
  · exact .inr (.inl h1)
  by_cases h2 : k = 2
  · exact .inr (.inr (.inl h2))
  by_cases h3 : k = 3
  · exact .inr (.inr (.inr (.inl h3)))
  by_cases h4 : k = 4
  · exact .inr (.inr (.inr (.inr (.inl h4))))
  by_cases h5 : k = 5
  · exact .inr (.inr (.inr (.inr (.inr (.inl h5)))))
  by_cases h6 : k = 6
  · exact .inr (.inr (.inr (.inr (.inr (.inr h6)))))
  · rw [if_neg h0, if_neg h1, if_neg h2, if_neg h3, if_neg (by omega), if_neg h4] at h
    cases h
theorem kh {d n : Int} {t : ByteArray} {l : List Val} (h : okV d (.mk 4 n t l) = true) : ∀ v ∈ l, okV (d - 1) v = true := by
  have okk : okV d (.mk 4 n t l) = (decide (1 ≤ d) && (decide (n = 0) && decide (t = ⟨#[]⟩) && decide (l.length ≤ 6) && okL (d - 1) l)) := by simp only [okV]; rfl
  rw [okk, zjx] at h
  simp only [Bool.and_eq_true, List.all_eq_true] at h
  exact fun v hv => h.2.2 v hv
theorem zlm {k k' : Int} (h : k = 0 ∨ k = 1 ∨ k = 2 ∨ k = 3 ∨ k = 4 ∨ k = 5 ∨ k = 6) (h' : k' = 0 ∨ k' = 1 ∨ k' = 2 ∨ k' = 3 ∨ k' = 4 ∨ k' = 5 ∨ k' = 6) (e : zor k = zor k') : k = k' := by
  rcases h with rfl | rfl | rfl | rfl | rfl | rfl | rfl <;> rcases h' with rfl | rfl | rfl | rfl | rfl | rfl | rfl <;> first | rfl | (exfalso; revert e; decide)
mutual
theorem z0r : ∀ (a b : Val) {d d' : Int}, okV d a = true → okV d' b = true → v7 a b = z0q a b
  | .mk k n t l, .mk k' n' t' l', d, d', ha, hb => by
    have ka := zar ha
    have kb := zar hb
    have ra := zul (k := k) (by omega)
    have rb := zul (k := k') (by omega)
    simp only [v7, z0q]
    rw [ra, rb]
    by_cases e : k = k'
    · subst e
      rw [if_neg (show ¬ (zor k ≠ zor k) by simp), if_neg (show ¬ (k ≠ k) by simp)]
      by_cases h4 : k = 4
      · subst h4
        rw [if_pos (rfl : (4 : Int) = 4), if_neg (show ¬ (4 : Int) = 3 by decide), if_pos (rfl : (4 : Int) = 4)]
        exact zu1 l l' (kh ha) (kh hb)
      · rw [if_neg h4]
        by_cases h3 : k = 3
        · rw [if_pos h3, if_pos h3]
        · rw [if_neg h3, if_neg h3, if_neg h4]
          by_cases h0 : k = 0
          · subst h0
            have : n = 0 := by omega
            have : n' = 0 := by omega
            subst n; subst n'
            rfl
          · rw [if_neg]
            intro hr
            have := zlm (k := k) (k' := 0) (by omega) (by omega) hr
            exact h0 this
    · rw [if_pos e, if_pos (fun h => e (zlm (by omega) (by omega) h))]
theorem zu1 : ∀ (l m : List Val) {d d' : Int}, (∀ v ∈ l, okV d v = true) → (∀ v ∈ m, okV d' v = true) → z8 l m = z6l l m
  | [], m, d, d', _, _ => by cases m <;> rfl
  | v :: r, [], d, d', _, _ => rfl
  | v :: r, w :: s, d, d', h, h' => by
    simp only [z8, z6l]
    rw [z0r v w (h v (by simp)) (h' w (by simp)), zu1 r s (fun x hx => h x (by simp [hx])) (fun x hx => h' x (by simp [hx]))]
end
theorem z7j {a b : Val} {σ : Heap} (h : b = a) : COut.ret a.cv σ = .ret b.cv σ := by rw [h]
theorem z1k {σ : Heap} {b : Bool} : CRun Tryz.prog 139 [.sc (.bool b)] σ (· = .ret (zxd b).cv σ) := by
  refine ZX Tryz.func139 Tryz.ntmps139 ?_
  cases b
  · conv => whnf
    repeat' (first | refine Zh ?_ | refine Za ?_ | refine Zb ?_ | refine Zc ?_ | refine Zd ?_ | refine Ze ?_ | refine Zg ?_ | refine Zv (fun h => ?_) (fun h => ?_) | refine Zj ?_ | refine Zk ?_ | refine Zl ?_ | refine Zm ?_ | refine Zn ?_ | refine Zo ?_ | refine Zp ?_ | refine Zq ?_ | refine Zu (fun l hl => ?_) | refine Zr ?_) <;> try (conv => whnf)
    rfl
  · conv => whnf
    repeat' (first | refine Zh ?_ | refine Za ?_ | refine Zb ?_ | refine Zc ?_ | refine Zd ?_ | refine Ze ?_ | refine Zg ?_ | refine Zv (fun h => ?_) (fun h => ?_) | refine Zj ?_ | refine Zk ?_ | refine Zl ?_ | refine Zm ?_ | refine Zn ?_ | refine Zo ?_ | refine Zp ?_ | refine Zq ?_ | refine Zu (fun l hl => ?_) | refine Zr ?_) <;> try (conv => whnf)
    rfl
theorem zvo {a b : Int} {n n' : Int} {t t' : ByteArray} {l l' : List Val} (h : a = b ∧ (a = 2 ∨ a = 3 ∨ a = 1)) {z : Bool} (hz : decide (z0q (.mk a n t l) (.mk b n' t' l') < 0) = z) : zna (.mk a n t l) (.mk b n' t' l') = zxd z := by
  simp only [zna]; rw [if_pos h, hz]
theorem zy1 {a b : Int} {n n' : Int} {t t' : ByteArray} {l l' : List Val} (h : ¬ (a = b ∧ (a = 2 ∨ a = 3 ∨ a = 1))) : zna (.mk a n t l) (.mk b n' t' l') = nullV := by
  simp only [zna]; rw [if_neg h]
theorem zvz {σ : Heap} {a b : Val} (ha : Tame a) (hb : Tame b) (hoa : okV 3 a = true) (hob : okV 3 b = true) : CRun Tryz.prog 149 [a.cv, b.cv] σ (· = .ret (zna a b).cv σ) := by
  have co : CRun Tryz.prog 167 [a.cv, b.cv] σ (· = .ret (i64 (z0q a b)) σ) := (z0r a b hoa hob) ▸ zux (σ := σ) ha hb
  obtain ⟨ak, an, at', al⟩ := a
  obtain ⟨bk, bn, bt, bl⟩ := b
  by_cases hk : ak = bk ∧ (ak = 2 ∨ ak = 3 ∨ ak = 1)
  · have key := fun z h => zvo (n := an) (n' := bn) (t := at') (t' := bt) (l := al) (l' := bl) hk (z := z) h
    refine ZX Tryz.func149 Tryz.ntmps149 ?_
    generalize z0q (.mk ak an at' al) (.mk bk bn bt bl) = z at co key
    by_cases hz : z < 0
    · conv => whnf
      repeat' (first | (refine ZC co ?_) | (refine ZC (z1k (b := true)) ?_) | refine Zh ?_ | refine Za ?_ | refine Zb ?_ | refine Zc ?_ | refine Zd ?_ | refine Ze ?_ | refine Zg ?_ | refine Zv (fun h => ?_) (fun h => ?_) | refine Zj ?_ | refine Zk ?_ | refine Zl ?_ | refine Zm ?_ | refine Zn ?_ | refine Zo ?_ | refine Zp ?_ | refine Zq ?_ | refine Zu (fun l hl => ?_) | refine Zr ?_) <;> try (conv => whnf)
      all_goals exact z7j (key true (decide_eq_true hz))
    · conv => whnf
      repeat' (first | (refine ZC co ?_) | (refine ZC (z1k (b := false)) ?_) | refine Zh ?_ | refine Za ?_ | refine Zb ?_ | refine Zc ?_ | refine Zd ?_ | refine Ze ?_ | refine Zg ?_ | refine Zv (fun h => ?_) (fun h => ?_) | refine Zj ?_ | refine Zk ?_ | refine Zl ?_ | refine Zm ?_ | refine Zn ?_ | refine Zo ?_ | refine Zp ?_ | refine Zq ?_ | refine Zu (fun l hl => ?_) | refine Zr ?_) <;> try (conv => whnf)
      all_goals exact z7j (key false (decide_eq_false hz))
  · have key := zy1 (n := an) (n' := bn) (t := at') (t' := bt) (l := al) (l' := bl) hk
    refine ZX Tryz.func149 Tryz.ntmps149 ?_
    conv => whnf
    repeat' (first | refine Zh ?_ | refine Za ?_ | refine Zb ?_ | refine Zc ?_ | refine Zd ?_ | refine Ze ?_ | refine Zg ?_ | refine Zv (fun h => ?_) (fun h => ?_) | refine Zj ?_ | refine Zk ?_ | refine Zl ?_ | refine Zm ?_ | refine Zn ?_ | refine Zo ?_ | refine Zp ?_ | refine Zq ?_ | refine Zu (fun l hl => ?_) | refine Zr ?_) <;> try (conv => whnf)
    all_goals first
      | exact z7j key
      | (exfalso; omega)
mutual
def xf : Val → Val → Bool
  | .mk k n t l, .mk k' n' t' l' => decide (k = k' ∧ n = n' ∧ t = t') && qv l l'
def qv : List Val → List Val → Bool
  | [], [] => true
  | v :: r, w :: s => xf v w && qv r s
  | _, _ => false
end
mutual
theorem zcz : ∀ (a b : Val), xf a b = true → a = b
  | .mk k n t l, .mk k' n' t' l', h => by
    simp only [xf, Bool.and_eq_true, decide_eq_true_eq] at h
    obtain ⟨⟨rfl, rfl, rfl⟩, h⟩ := h
    rw [zqm l l' h]
theorem zqm : ∀ (a b : List Val), qv a b = true → a = b
  | [], [], _ => rfl
  | v :: r, w :: s, h => by
    simp only [qv, Bool.and_eq_true] at h
    rw [zcz v w h.1, zqm r s h.2]
  | [], _ :: _, h => by simp [qv] at h
  | _ :: _, [], h => by simp [qv] at h
end
mutual
theorem zdx : ∀ (a : Val), xf a a = true
  | .mk k n t l => by simp only [xf, zhm l]; simp
theorem zhm : ∀ (a : List Val), qv a a = true
  | [] => rfl
  | v :: r => by simp only [qv, zdx v, zhm r]; rfl
end
theorem zc0 : ∀ {a b : List Val}, a.length ≠ b.length → qv a b = false
  | [], [], h => absurd rfl h
  | v :: r, w :: s, h => by
    simp only [qv]
    rw [zc0 (a := r) (b := s) (by simpa using h), Bool.and_false]
  | [], _ :: _, _ => rfl
  | _ :: _, [], _ => rfl
theorem toList_inj {s t : ByteArray} (h : s.toList = t.toList) : s = t := by
  have e := zbt s t
  rw [h] at e
  simpa using e.symm
theorem j9 {k : Int} {d n : Int} {t : ByteArray} {l : List Val} (ha : okV d (.mk k n t l) = true) (h3 : k ≠ 3) (h4 : k ≠ 4) : t = ⟨#[]⟩ ∧ l = [] := by
  simp only [okV, Bool.and_eq_true] at ha
  obtain ⟨_, h⟩ := ha
  by_cases h0 : k = 0
  · rw [if_pos h0] at h; simp only [Bool.and_eq_true, decide_eq_true_eq] at h; exact ⟨h.1.2, List.length_eq_zero_iff.1 h.2⟩
  rw [if_neg h0] at h
  by_cases h1 : k = 1
  · rw [if_pos h1] at h; simp only [Bool.and_eq_true, decide_eq_true_eq] at h; exact ⟨h.1.2, List.length_eq_zero_iff.1 h.2⟩
  rw [if_neg h1] at h
  by_cases h2 : k = 2
  · rw [if_pos h2] at h; simp only [Bool.and_eq_true, decide_eq_true_eq] at h; exact ⟨h.1.2, List.length_eq_zero_iff.1 h.2⟩
  rw [if_neg h2, if_neg h3] at h
  by_cases h5 : k = 5 ∨ k = 6
  · rw [if_pos h5] at h; simp only [Bool.and_eq_true, decide_eq_true_eq] at h; exact ⟨h.1.2, List.length_eq_zero_iff.1 h.2⟩
  · rw [if_neg h5, if_neg h4] at h; cases h
theorem zb0 {d n : Int} {t : ByteArray} {l : List Val} (ha : okV d (.mk 3 n t l) = true) : n = 0 ∧ l = [] := by
  have e : okV d (.mk 3 n t l) = (decide (1 ≤ d) && (decide (n = 0) && vr t && decide (l.length = 0))) := by simp only [okV]; rfl
  rw [e] at ha
  simp only [Bool.and_eq_true, decide_eq_true_eq] at ha
  exact ⟨ha.2.1.1, List.length_eq_zero_iff.1 ha.2.2⟩
theorem zf2 {d n : Int} {t : ByteArray} {l : List Val} (ha : okV d (.mk 4 n t l) = true) : n = 0 ∧ t = ⟨#[]⟩ := by
  have e : okV d (.mk 4 n t l) = (decide (1 ≤ d) && (decide (n = 0) && decide (t = ⟨#[]⟩) && decide (l.length ≤ 6) && okL (d - 1) l)) := by simp only [okV]; rfl
  rw [e] at ha
  simp only [Bool.and_eq_true, decide_eq_true_eq] at ha
  exact ⟨ha.2.1.1.1, ha.2.1.1.2⟩
end Go.Proofs.YtlamgfimgadnmaaGreat
