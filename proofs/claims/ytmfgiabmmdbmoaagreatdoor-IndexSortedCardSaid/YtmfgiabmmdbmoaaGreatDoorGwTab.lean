/-
  A part of the proofs of the laws of the index: what the functions of this program compute. Conditions: none beyond those that its theorems name.
-/
import Derived.Test.YtmfgiabmmdbmoaaGreatDoorGw8
import Derived.Test.YtmfgiabmmdbmoaaGreatDoorProg
import Derived.KernelRfl
/-
  THE TYPES of the translation that the walks meet, by number: kind, cells, bytes, zero value. Printed by a small program of ours; each row is checked by the kernel.
-/
namespace Go.Proofs.YtmfgiabmmdbmoaaGreatDoor
open Go.Gw
set_option maxRecDepth 10000
theorem tok3 : TIOk Tryz.prog 3 ⟨.int .i64, 1, 8, .int .i64 0⟩ := ⟨Tryz.underlying3, by kernel_rfl⟩
theorem tok4 : TIOk Tryz.prog 4 ⟨.bool, 1, 1, .bool false⟩ := ⟨Tryz.underlying4, by kernel_rfl⟩
theorem tok5 : TIOk Tryz.prog 5 ⟨.int .u8, 1, 1, .int .u8 0⟩ := ⟨Tryz.underlying5, by kernel_rfl⟩
theorem tok9 : TIOk Tryz.prog 9 ⟨.str, 1, 16, S []⟩ := ⟨Tryz.underlying9, by kernel_rfl⟩
theorem tok21 : TIOk Tryz.prog 21 ⟨.int .i32, 1, 4, .int .i32 0⟩ := ⟨Tryz.underlying21, by kernel_rfl⟩
theorem tok22 : TIOk Tryz.prog 22 ⟨.slice 9 1 16, 1, 24, .slice none 0 0⟩ := ⟨⟨by kernel_rfl, by kernel_rfl⟩, by kernel_rfl⟩
theorem tok25 : TIOk Tryz.prog 25 ⟨.int .i64, 1, 8, .int .i64 0⟩ := ⟨Tryz.underlying25, by kernel_rfl⟩
theorem tok30 : TIOk Tryz.prog 30 ⟨.slice 5 1 1, 1, 24, .slice none 0 0⟩ := ⟨⟨by kernel_rfl, by kernel_rfl⟩, by kernel_rfl⟩
theorem tok38 : TIOk Tryz.prog 38 ⟨.slice 43 3 48, 1, 24, .slice none 0 0⟩ := ⟨⟨by kernel_rfl, by kernel_rfl⟩, by kernel_rfl⟩
theorem tok41 : TIOk Tryz.prog 41 ⟨.slice 3 1 8, 1, 24, .slice none 0 0⟩ := ⟨⟨by kernel_rfl, by kernel_rfl⟩, by kernel_rfl⟩
theorem tok43 : TIOk Tryz.prog 43 ⟨.struct [(0, 1, false), (1, 1, false), (2, 1, false)], 3, 48, .agg #[.int .i64 0, S [], .slice none 0 0]⟩ := ⟨⟨_, Tryz.underlying43, by kernel_rfl, by kernel_rfl⟩, by kernel_rfl⟩
theorem tok57 : TIOk Tryz.prog 57 ⟨.scal, 1, 8, .pointer none⟩ := ⟨⟨_, Tryz.underlying57, rfl⟩, by kernel_rfl⟩
theorem tok61 : TIOk Tryz.prog 61 ⟨.scal, 1, 8, .nilFunc⟩ := ⟨⟨_, Tryz.underlying61, rfl⟩, by kernel_rfl⟩
theorem tok70 : TIOk Tryz.prog 70 ⟨.struct [(0, 1, false)], 1, 24, .agg #[.slice none 0 0]⟩ := ⟨⟨_, Tryz.underlying70, by kernel_rfl, by kernel_rfl⟩, by kernel_rfl⟩
theorem tok72 : TIOk Tryz.prog 72 ⟨.arr 26 3 1 false, 26, 208, .agg ⟨List.replicate 26 (.int .i64 0)⟩⟩ := ⟨⟨by kernel_rfl, by kernel_rfl, by kernel_rfl⟩, by kernel_rfl⟩
theorem tok74 : TIOk Tryz.prog 74 ⟨.struct [(0, 1, true), (1, 26, true), (27, 1, false)], 28, 256, .agg #[.slice none 0 0, .int .i64 0, .int .i64 0, .int .i64 0, .int .i64 0, .int .i64 0, .int .i64 0, .int .i64 0, .int .i64 0, .int .i64 0, .int .i64 0, .int .i64 0, .int .i64 0, .int .i64 0, .int .i64 0, .int .i64 0, .int .i64 0, .int .i64 0, .int .i64 0, .int .i64 0, .int .i64 0, .int .i64 0, .int .i64 0, .int .i64 0, .int .i64 0, .int .i64 0, .int .i64 0, .slice none 0 0]⟩ := ⟨⟨_, Tryz.underlying74, by kernel_rfl, by kernel_rfl⟩, by kernel_rfl⟩
theorem tok83 : TIOk Tryz.prog 83 ⟨.arr 2 9 1 false, 2, 32, .agg #[S [], S []]⟩ := ⟨⟨by kernel_rfl, by kernel_rfl, by kernel_rfl⟩, by kernel_rfl⟩
theorem tok84 : TIOk Tryz.prog 84 ⟨.slice 83 2 32, 1, 24, .slice none 0 0⟩ := ⟨⟨by kernel_rfl, by kernel_rfl⟩, by kernel_rfl⟩
theorem tok90 : TIOk Tryz.prog 90 ⟨.scal, 1, 8, .nilFunc⟩ := ⟨⟨_, Tryz.underlying90, rfl⟩, by kernel_rfl⟩
theorem tok92 : TIOk Tryz.prog 92 ⟨.scal, 1, 8, .nilFunc⟩ := ⟨⟨_, Tryz.underlying92, rfl⟩, by kernel_rfl⟩
theorem tok95 : TIOk Tryz.prog 95 ⟨.int .u64, 1, 8, .int .u64 0⟩ := ⟨Tryz.underlying95, by kernel_rfl⟩
theorem tok101 : TIOk Tryz.prog 101 ⟨.scal, 1, 8, .nilFunc⟩ := ⟨⟨_, Tryz.underlying101, rfl⟩, by kernel_rfl⟩
theorem tok103 : TIOk Tryz.prog 103 ⟨.scal, 1, 8, .nilFunc⟩ := ⟨⟨_, Tryz.underlying103, rfl⟩, by kernel_rfl⟩
theorem tok106 : TIOk Tryz.prog 106 ⟨.map 108 9, 1, 8, .map none⟩ := ⟨Tryz.underlying106, by kernel_rfl⟩
theorem tok108 : TIOk Tryz.prog 108 ⟨.struct [(0, 1, false), (1, 1, false)], 2, 24, .agg #[.bool false, S []]⟩ := ⟨⟨_, Tryz.underlying108, by kernel_rfl, by kernel_rfl⟩, by kernel_rfl⟩
theorem tok117 : TIOk Tryz.prog 117 ⟨.int .i64, 1, 8, .int .i64 0⟩ := ⟨Tryz.underlying117, by kernel_rfl⟩
theorem tok124 : TIOk Tryz.prog 124 ⟨.int .u32, 1, 4, .int .u32 0⟩ := ⟨Tryz.underlying124, by kernel_rfl⟩
theorem tok126 : TIOk Tryz.prog 126 ⟨.int .u64, 1, 8, .int .u64 0⟩ := ⟨Tryz.underlying126, by kernel_rfl⟩
theorem tok134 : TIOk Tryz.prog 134 ⟨.int .u64, 1, 8, .int .u64 0⟩ := ⟨Tryz.underlying134, by kernel_rfl⟩
theorem tok138 : TIOk Tryz.prog 138 ⟨.scal, 1, 8, .pointer none⟩ := ⟨⟨_, Tryz.underlying138, rfl⟩, by kernel_rfl⟩
theorem tok142 : TIOk Tryz.prog 142 ⟨.arr 256 4 1 false, 256, 256, .agg ⟨List.replicate 256 (.bool false)⟩⟩ := ⟨⟨by kernel_rfl, by kernel_rfl, by kernel_rfl⟩, by kernel_rfl⟩
theorem tok146 : TIOk Tryz.prog 146 ⟨.scal, 1, 8, .pointer none⟩ := ⟨⟨_, Tryz.underlying146, rfl⟩, by kernel_rfl⟩
theorem tok158 : TIOk Tryz.prog 158 ⟨.arr 256 5 1 false, 256, 256, .agg ⟨List.replicate 256 (.int .u8 0)⟩⟩ := ⟨⟨by kernel_rfl, by kernel_rfl, by kernel_rfl⟩, by kernel_rfl⟩
theorem tok160 : TIOk Tryz.prog 160 ⟨.struct [(0, 1, false), (1, 1, false)], 2, 2, .agg #[.int .u8 0, .int .u8 0]⟩ := ⟨⟨_, Tryz.underlying160, by kernel_rfl, by kernel_rfl⟩, by kernel_rfl⟩
theorem tok161 : TIOk Tryz.prog 161 ⟨.arr 16 160 2 true, 32, 32, .agg ⟨List.replicate 32 (.int .u8 0)⟩⟩ := ⟨⟨by kernel_rfl, by kernel_rfl, by kernel_rfl⟩, by kernel_rfl⟩
def Tb : List (Nat × TI) := [(3, ⟨.int .i64, 1, 8, .int .i64 0⟩), (4, ⟨.bool, 1, 1, .bool false⟩), (5, ⟨.int .u8, 1, 1, .int .u8 0⟩), (9, ⟨.str, 1, 16, S []⟩), (21, ⟨.int .i32, 1, 4, .int .i32 0⟩), (22, ⟨.slice 9 1 16, 1, 24, .slice none 0 0⟩), (25, ⟨.int .i64, 1, 8, .int .i64 0⟩), (30, ⟨.slice 5 1 1, 1, 24, .slice none 0 0⟩), (38, ⟨.slice 43 3 48, 1, 24, .slice none 0 0⟩), (41, ⟨.slice 3 1 8, 1, 24, .slice none 0 0⟩), (43, ⟨.struct [(0, 1, false), (1, 1, false), (2, 1, false)], 3, 48, .agg #[.int .i64 0, S [], .slice none 0 0]⟩), (57, ⟨.scal, 1, 8, .pointer none⟩), (61, ⟨.scal, 1, 8, .nilFunc⟩), (70, ⟨.struct [(0, 1, false)], 1, 24, .agg #[.slice none 0 0]⟩), (72, ⟨.arr 26 3 1 false, 26, 208, .agg ⟨List.replicate 26 (.int .i64 0)⟩⟩), (74, ⟨.struct [(0, 1, true), (1, 26, true), (27, 1, false)], 28, 256, .agg #[.slice none 0 0, .int .i64 0, .int .i64 0, .int .i64 0, .int .i64 0, .int .i64 0, .int .i64 0, .int .i64 0, .int .i64 0, .int .i64 0, .int .i64 0, .int .i64 0, .int .i64 0, .int .i64 0, .int .i64 0, .int .i64 0, .int .i64 0, .int .i64 0, .int .i64 0, .int .i64 0, .int .i64 0, .int .i64 0, .int .i64 0, .int .i64 0, .int .i64 0, .int .i64 0, .int .i64 0, .slice none 0 0]⟩), (83, ⟨.arr 2 9 1 false, 2, 32, .agg #[S [], S []]⟩), (84, ⟨.slice 83 2 32, 1, 24, .slice none 0 0⟩), (90, ⟨.scal, 1, 8, .nilFunc⟩), (92, ⟨.scal, 1, 8, .nilFunc⟩), (95, ⟨.int .u64, 1, 8, .int .u64 0⟩), (101, ⟨.scal, 1, 8, .nilFunc⟩), (103, ⟨.scal, 1, 8, .nilFunc⟩), (106, ⟨.map 108 9, 1, 8, .map none⟩), (108, ⟨.struct [(0, 1, false), (1, 1, false)], 2, 24, .agg #[.bool false, S []]⟩), (117, ⟨.int .i64, 1, 8, .int .i64 0⟩), (124, ⟨.int .u32, 1, 4, .int .u32 0⟩), (126, ⟨.int .u64, 1, 8, .int .u64 0⟩), (134, ⟨.int .u64, 1, 8, .int .u64 0⟩), (138, ⟨.scal, 1, 8, .pointer none⟩), (142, ⟨.arr 256 4 1 false, 256, 256, .agg ⟨List.replicate 256 (.bool false)⟩⟩), (146, ⟨.scal, 1, 8, .pointer none⟩), (158, ⟨.arr 256 5 1 false, 256, 256, .agg ⟨List.replicate 256 (.int .u8 0)⟩⟩), (160, ⟨.struct [(0, 1, false), (1, 1, false)], 2, 2, .agg #[.int .u8 0, .int .u8 0]⟩), (161, ⟨.arr 16 160 2 true, 32, 32, .agg ⟨List.replicate 32 (.int .u8 0)⟩⟩)]
theorem tabOk : TabOk Tryz.prog Tb := ⟨tok3, tok4, tok5, tok9, tok21, tok22, tok25, tok30, tok38, tok41, tok43, tok57, tok61, tok70, tok72, tok74, tok83, tok84, tok90, tok92, tok95, tok101, tok103, tok106, tok108, tok117, tok124, tok126, tok134, tok138, tok142, tok146, tok158, tok160, tok161, trivial⟩
end Go.Proofs.YtmfgiabmmdbmoaaGreatDoor
