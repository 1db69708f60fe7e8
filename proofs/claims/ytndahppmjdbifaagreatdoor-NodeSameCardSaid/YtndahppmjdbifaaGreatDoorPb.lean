/-
  Part 2 of the proof: Ty, PreC, PakC, RdrC, ValC.
-/
import Derived.Test.YtndahppmjdbifaaGreatDoorPa
import Derived.Test.YtndahppmjdbifaaGreatDoorProg
namespace Go.Proofs.YtndahppmjdbifaaGreatDoor.Eng
open Go Go.Proofs
theorem sz_2 : Size Tryz.prog 2 1 := size_of (by kernel_rfl)
theorem pl_2 : Plain Tryz.prog 2 := plain_of Tryz.underlying2 rfl
theorem z_2 : Zero Tryz.prog 2 (.int .i64 0) := zero_of (by kernel_rfl)
theorem by_2 : Bytes Tryz.prog 2 8 := bytes_of (by kernel_rfl)
theorem sz_3 : Size Tryz.prog 3 1 := size_of (by kernel_rfl)
theorem pl_3 : Plain Tryz.prog 3 := plain_of Tryz.underlying3 rfl
theorem z_3 : Zero Tryz.prog 3 (.int .i64 0) := zero_of (by kernel_rfl)
theorem by_3 : Bytes Tryz.prog 3 8 := bytes_of (by kernel_rfl)
theorem sz_4 : Size Tryz.prog 4 1 := size_of (by kernel_rfl)
theorem pl_4 : Plain Tryz.prog 4 := plain_of Tryz.underlying4 rfl
theorem z_4 : Zero Tryz.prog 4 (.bool false) := zero_of (by kernel_rfl)
theorem by_4 : Bytes Tryz.prog 4 1 := bytes_of (by kernel_rfl)
theorem sz_5 : Size Tryz.prog 5 1 := size_of (by kernel_rfl)
theorem pl_5 : Plain Tryz.prog 5 := plain_of Tryz.underlying5 rfl
theorem z_5 : Zero Tryz.prog 5 (.int .u8 0) := zero_of (by kernel_rfl)
theorem by_5 : Bytes Tryz.prog 5 1 := bytes_of (by kernel_rfl)
theorem sz_9 : Size Tryz.prog 9 1 := size_of (by kernel_rfl)
theorem pl_9 : Plain Tryz.prog 9 := plain_of Tryz.underlying9 rfl
theorem z_9 : Zero Tryz.prog 9 (.string ByteArray.empty) := zero_of (by kernel_rfl)
theorem by_9 : Bytes Tryz.prog 9 16 := bytes_of (by kernel_rfl)
theorem sz_12 : Size Tryz.prog 12 1 := size_of (by kernel_rfl)
theorem pl_12 : Plain Tryz.prog 12 := plain_of Tryz.underlying12 rfl
theorem z_12 : Zero Tryz.prog 12 (.int .u64 0) := zero_of (by kernel_rfl)
theorem by_12 : Bytes Tryz.prog 12 8 := bytes_of (by kernel_rfl)
theorem sz_13 : Size Tryz.prog 13 2 := size_of (by kernel_rfl)
theorem z_13 : Zero Tryz.prog 13 (.agg #[.string ByteArray.empty, .int .u64 0]) := zero_of (by kernel_rfl)
theorem by_13 : Bytes Tryz.prog 13 24 := bytes_of (by kernel_rfl)
theorem sz_19 : Size Tryz.prog 19 1 := size_of (by kernel_rfl)
theorem z_19 : Zero Tryz.prog 19 (.agg #[.pointer none]) := zero_of (by kernel_rfl)
theorem by_19 : Bytes Tryz.prog 19 8 := bytes_of (by kernel_rfl)
theorem sz_21 : Size Tryz.prog 21 1 := size_of (by kernel_rfl)
theorem pl_21 : Plain Tryz.prog 21 := plain_of Tryz.underlying21 rfl
theorem z_21 : Zero Tryz.prog 21 (.int .i32 0) := zero_of (by kernel_rfl)
theorem by_21 : Bytes Tryz.prog 21 4 := bytes_of (by kernel_rfl)
theorem sz_22 : Size Tryz.prog 22 6 := size_of (by kernel_rfl)
theorem z_22 : Zero Tryz.prog 22 (.agg #[.int .i64 0, .int .i64 0, .int .i64 0, .int .i64 0, .int .i64 0, .int .i64 0]) := zero_of (by kernel_rfl)
theorem by_22 : Bytes Tryz.prog 22 48 := bytes_of (by kernel_rfl)
theorem sz_23 : Size Tryz.prog 23 6 := size_of (by kernel_rfl)
theorem z_23 : Zero Tryz.prog 23 (.agg #[.int .i64 0, .int .i64 0, .int .i64 0, .int .i64 0, .int .i64 0, .int .i64 0]) := zero_of (by kernel_rfl)
theorem by_23 : Bytes Tryz.prog 23 48 := bytes_of (by kernel_rfl)
theorem sz_24 : Size Tryz.prog 24 1 := size_of (by kernel_rfl)
theorem pl_24 : Plain Tryz.prog 24 := plain_of Tryz.underlying24 rfl
theorem z_24 : Zero Tryz.prog 24 (.slice none 0 0) := zero_of (by kernel_rfl)
theorem by_24 : Bytes Tryz.prog 24 24 := bytes_of (by kernel_rfl)
theorem sz_27 : Size Tryz.prog 27 1 := size_of (by kernel_rfl)
theorem pl_27 : Plain Tryz.prog 27 := plain_of Tryz.underlying27 rfl
theorem z_27 : Zero Tryz.prog 27 (.pointer none) := zero_of (by kernel_rfl)
theorem by_27 : Bytes Tryz.prog 27 8 := bytes_of (by kernel_rfl)
theorem sz_29 : Size Tryz.prog 29 6 := size_of (by kernel_rfl)
theorem z_29 : Zero Tryz.prog 29 (.agg #[.int .i64 0, .int .i64 0, .int .i64 0, .int .i64 0, .int .i64 0, .int .i64 0]) := zero_of (by kernel_rfl)
theorem by_29 : Bytes Tryz.prog 29 48 := bytes_of (by kernel_rfl)
theorem sz_30 : Size Tryz.prog 30 6 := size_of (by kernel_rfl)
theorem z_30 : Zero Tryz.prog 30 (.agg #[.int .i64 0, .int .i64 0, .int .i64 0, .int .i64 0, .int .i64 0, .int .i64 0]) := zero_of (by kernel_rfl)
theorem by_30 : Bytes Tryz.prog 30 48 := bytes_of (by kernel_rfl)
theorem sz_32 : Size Tryz.prog 32 1 := size_of (by kernel_rfl)
theorem pl_32 : Plain Tryz.prog 32 := plain_of Tryz.underlying32 rfl
theorem z_32 : Zero Tryz.prog 32 (.slice none 0 0) := zero_of (by kernel_rfl)
theorem by_32 : Bytes Tryz.prog 32 24 := bytes_of (by kernel_rfl)
theorem sz_34 : Size Tryz.prog 34 1 := size_of (by kernel_rfl)
theorem pl_34 : Plain Tryz.prog 34 := plain_of Tryz.underlying34 rfl
theorem z_34 : Zero Tryz.prog 34 (.int .i64 0) := zero_of (by kernel_rfl)
theorem by_34 : Bytes Tryz.prog 34 8 := bytes_of (by kernel_rfl)
theorem sz_37 : Size Tryz.prog 37 1 := size_of (by kernel_rfl)
theorem pl_37 : Plain Tryz.prog 37 := plain_of Tryz.underlying37 rfl
theorem z_37 : Zero Tryz.prog 37 (.slice none 0 0) := zero_of (by kernel_rfl)
theorem by_37 : Bytes Tryz.prog 37 24 := bytes_of (by kernel_rfl)
theorem sz_39 : Size Tryz.prog 39 3 := size_of (by kernel_rfl)
theorem z_39 : Zero Tryz.prog 39 (.agg #[.int .i64 0, .int .i64 0, .string ByteArray.empty]) := zero_of (by kernel_rfl)
theorem by_39 : Bytes Tryz.prog 39 32 := bytes_of (by kernel_rfl)
theorem sz_40 : Size Tryz.prog 40 3 := size_of (by kernel_rfl)
theorem z_40 : Zero Tryz.prog 40 (.agg #[.int .i64 0, .int .i64 0, .string ByteArray.empty]) := zero_of (by kernel_rfl)
theorem by_40 : Bytes Tryz.prog 40 32 := bytes_of (by kernel_rfl)
theorem sz_41 : Size Tryz.prog 41 4 := size_of (by kernel_rfl)
theorem z_41 : Zero Tryz.prog 41 (.agg #[.int .i64 0, .int .i64 0, .int .i64 0, .string ByteArray.empty]) := zero_of (by kernel_rfl)
theorem by_41 : Bytes Tryz.prog 41 40 := bytes_of (by kernel_rfl)
theorem sz_42 : Size Tryz.prog 42 4 := size_of (by kernel_rfl)
theorem z_42 : Zero Tryz.prog 42 (.agg #[.int .i64 0, .int .i64 0, .int .i64 0, .string ByteArray.empty]) := zero_of (by kernel_rfl)
theorem by_42 : Bytes Tryz.prog 42 40 := bytes_of (by kernel_rfl)
theorem sz_46 : Size Tryz.prog 46 1 := size_of (by kernel_rfl)
theorem pl_46 : Plain Tryz.prog 46 := plain_of Tryz.underlying46 rfl
theorem z_46 : Zero Tryz.prog 46 (.slice none 0 0) := zero_of (by kernel_rfl)
theorem by_46 : Bytes Tryz.prog 46 24 := bytes_of (by kernel_rfl)
theorem sz_47 : Size Tryz.prog 47 3 := size_of (by kernel_rfl)
theorem z_47 : Zero Tryz.prog 47 (.agg #[.int .i64 0, .int .i64 0, .slice none 0 0]) := zero_of (by kernel_rfl)
theorem by_47 : Bytes Tryz.prog 47 40 := bytes_of (by kernel_rfl)
theorem sz_48 : Size Tryz.prog 48 3 := size_of (by kernel_rfl)
theorem z_48 : Zero Tryz.prog 48 (.agg #[.int .i64 0, .int .i64 0, .slice none 0 0]) := zero_of (by kernel_rfl)
theorem by_48 : Bytes Tryz.prog 48 40 := bytes_of (by kernel_rfl)
theorem sz_50 : Size Tryz.prog 50 2 := size_of (by kernel_rfl)
theorem z_50 : Zero Tryz.prog 50 (.agg #[.slice none 0 0, .string ByteArray.empty]) := zero_of (by kernel_rfl)
theorem by_50 : Bytes Tryz.prog 50 40 := bytes_of (by kernel_rfl)
theorem sz_51 : Size Tryz.prog 51 2 := size_of (by kernel_rfl)
theorem z_51 : Zero Tryz.prog 51 (.agg #[.slice none 0 0, .string ByteArray.empty]) := zero_of (by kernel_rfl)
theorem by_51 : Bytes Tryz.prog 51 40 := bytes_of (by kernel_rfl)
theorem sz_58 : Size Tryz.prog 58 4 := size_of (by kernel_rfl)
theorem z_58 : Zero Tryz.prog 58 (.agg #[.string ByteArray.empty, .int .i64 0, .int .i64 0, .string ByteArray.empty]) := zero_of (by kernel_rfl)
theorem by_58 : Bytes Tryz.prog 58 48 := bytes_of (by kernel_rfl)
theorem sz_59 : Size Tryz.prog 59 4 := size_of (by kernel_rfl)
theorem z_59 : Zero Tryz.prog 59 (.agg #[.string ByteArray.empty, .int .i64 0, .int .i64 0, .string ByteArray.empty]) := zero_of (by kernel_rfl)
theorem by_59 : Bytes Tryz.prog 59 48 := bytes_of (by kernel_rfl)
theorem sz_60 : Size Tryz.prog 60 6 := size_of (by kernel_rfl)
theorem z_60 : Zero Tryz.prog 60 (.agg #[.int .i64 0, .string ByteArray.empty, .int .i64 0, .int .i64 0, .string ByteArray.empty, .string ByteArray.empty]) := zero_of (by kernel_rfl)
theorem by_60 : Bytes Tryz.prog 60 72 := bytes_of (by kernel_rfl)
theorem sz_61 : Size Tryz.prog 61 6 := size_of (by kernel_rfl)
theorem z_61 : Zero Tryz.prog 61 (.agg #[.int .i64 0, .string ByteArray.empty, .int .i64 0, .int .i64 0, .string ByteArray.empty, .string ByteArray.empty]) := zero_of (by kernel_rfl)
theorem by_61 : Bytes Tryz.prog 61 72 := bytes_of (by kernel_rfl)
theorem sz_64 : Size Tryz.prog 64 3 := size_of (by kernel_rfl)
theorem z_64 : Zero Tryz.prog 64 (.agg #[.int .i64 0, .int .i64 0, .string ByteArray.empty]) := zero_of (by kernel_rfl)
theorem by_64 : Bytes Tryz.prog 64 32 := bytes_of (by kernel_rfl)
theorem sz_65 : Size Tryz.prog 65 3 := size_of (by kernel_rfl)
theorem z_65 : Zero Tryz.prog 65 (.agg #[.int .i64 0, .int .i64 0, .string ByteArray.empty]) := zero_of (by kernel_rfl)
theorem by_65 : Bytes Tryz.prog 65 32 := bytes_of (by kernel_rfl)
theorem sz_69 : Size Tryz.prog 69 1 := size_of (by kernel_rfl)
theorem pl_69 : Plain Tryz.prog 69 := plain_of Tryz.underlying69 rfl
theorem z_69 : Zero Tryz.prog 69 (.pointer none) := zero_of (by kernel_rfl)
theorem by_69 : Bytes Tryz.prog 69 8 := bytes_of (by kernel_rfl)
theorem sz_72 : Size Tryz.prog 72 1 := size_of (by kernel_rfl)
theorem pl_72 : Plain Tryz.prog 72 := plain_of Tryz.underlying72 rfl
theorem z_72 : Zero Tryz.prog 72 (.pointer none) := zero_of (by kernel_rfl)
theorem by_72 : Bytes Tryz.prog 72 8 := bytes_of (by kernel_rfl)
theorem sz_73 : Size Tryz.prog 73 1 := size_of (by kernel_rfl)
theorem pl_73 : Plain Tryz.prog 73 := plain_of Tryz.underlying73 rfl
theorem z_73 : Zero Tryz.prog 73 (.pointer none) := zero_of (by kernel_rfl)
theorem by_73 : Bytes Tryz.prog 73 8 := bytes_of (by kernel_rfl)
theorem sz_74 : Size Tryz.prog 74 1 := size_of (by kernel_rfl)
theorem pl_74 : Plain Tryz.prog 74 := plain_of Tryz.underlying74 rfl
theorem z_74 : Zero Tryz.prog 74 (.pointer none) := zero_of (by kernel_rfl)
theorem by_74 : Bytes Tryz.prog 74 8 := bytes_of (by kernel_rfl)
theorem sz_75 : Size Tryz.prog 75 11 := size_of (by kernel_rfl)
theorem z_75 : Zero Tryz.prog 75 (.agg #[.int .i64 0, .int .i64 0, .int .i64 0, .int .i64 0, .int .i64 0, .int .i64 0, .int .i64 0, .pointer none, .pointer none, .pointer none, .int .i64 0]) := zero_of (by kernel_rfl)
theorem by_75 : Bytes Tryz.prog 75 88 := bytes_of (by kernel_rfl)
theorem sz_76 : Size Tryz.prog 76 11 := size_of (by kernel_rfl)
theorem z_76 : Zero Tryz.prog 76 (.agg #[.int .i64 0, .int .i64 0, .int .i64 0, .int .i64 0, .int .i64 0, .int .i64 0, .int .i64 0, .pointer none, .pointer none, .pointer none, .int .i64 0]) := zero_of (by kernel_rfl)
theorem by_76 : Bytes Tryz.prog 76 88 := bytes_of (by kernel_rfl)
theorem sz_83 : Size Tryz.prog 83 1 := size_of (by kernel_rfl)
theorem pl_83 : Plain Tryz.prog 83 := plain_of Tryz.underlying83 rfl
theorem z_83 : Zero Tryz.prog 83 (.slice none 0 0) := zero_of (by kernel_rfl)
theorem by_83 : Bytes Tryz.prog 83 24 := bytes_of (by kernel_rfl)
theorem sz_84 : Size Tryz.prog 84 7 := size_of (by kernel_rfl)
theorem z_84 : Zero Tryz.prog 84 (.agg #[.pointer none, .int .i64 0, .int .i64 0, .int .i64 0, .slice none 0 0, .slice none 0 0, .slice none 0 0]) := zero_of (by kernel_rfl)
theorem by_84 : Bytes Tryz.prog 84 104 := bytes_of (by kernel_rfl)
theorem sz_85 : Size Tryz.prog 85 7 := size_of (by kernel_rfl)
theorem z_85 : Zero Tryz.prog 85 (.agg #[.pointer none, .int .i64 0, .int .i64 0, .int .i64 0, .slice none 0 0, .slice none 0 0, .slice none 0 0]) := zero_of (by kernel_rfl)
theorem by_85 : Bytes Tryz.prog 85 104 := bytes_of (by kernel_rfl)
theorem sz_86 : Size Tryz.prog 86 3 := size_of (by kernel_rfl)
theorem z_86 : Zero Tryz.prog 86 (.agg #[.int .i64 0, .int .i64 0, .slice none 0 0]) := zero_of (by kernel_rfl)
theorem by_86 : Bytes Tryz.prog 86 40 := bytes_of (by kernel_rfl)
theorem sz_87 : Size Tryz.prog 87 3 := size_of (by kernel_rfl)
theorem z_87 : Zero Tryz.prog 87 (.agg #[.int .i64 0, .int .i64 0, .slice none 0 0]) := zero_of (by kernel_rfl)
theorem by_87 : Bytes Tryz.prog 87 40 := bytes_of (by kernel_rfl)
theorem sz_88 : Size Tryz.prog 88 1 := size_of (by kernel_rfl)
theorem pl_88 : Plain Tryz.prog 88 := plain_of Tryz.underlying88 rfl
theorem z_88 : Zero Tryz.prog 88 (.pointer none) := zero_of (by kernel_rfl)
theorem by_88 : Bytes Tryz.prog 88 8 := bytes_of (by kernel_rfl)
theorem sz_93 : Size Tryz.prog 93 1 := size_of (by kernel_rfl)
theorem pl_93 : Plain Tryz.prog 93 := plain_of Tryz.underlying93 rfl
theorem z_93 : Zero Tryz.prog 93 (.pointer none) := zero_of (by kernel_rfl)
theorem by_93 : Bytes Tryz.prog 93 8 := bytes_of (by kernel_rfl)
theorem sz_94 : Size Tryz.prog 94 1 := size_of (by kernel_rfl)
theorem pl_94 : Plain Tryz.prog 94 := plain_of Tryz.underlying94 rfl
theorem z_94 : Zero Tryz.prog 94 (.pointer none) := zero_of (by kernel_rfl)
theorem by_94 : Bytes Tryz.prog 94 8 := bytes_of (by kernel_rfl)
theorem sz_95 : Size Tryz.prog 95 1 := size_of (by kernel_rfl)
theorem pl_95 : Plain Tryz.prog 95 := plain_of Tryz.underlying95 rfl
theorem z_95 : Zero Tryz.prog 95 (.pointer none) := zero_of (by kernel_rfl)
theorem by_95 : Bytes Tryz.prog 95 8 := bytes_of (by kernel_rfl)
theorem sz_96 : Size Tryz.prog 96 11 := size_of (by kernel_rfl)
theorem z_96 : Zero Tryz.prog 96 (.agg #[.int .i64 0, .int .i64 0, .int .i64 0, .int .i64 0, .int .i64 0, .int .i64 0, .int .i64 0, .pointer none, .pointer none, .pointer none, .int .i64 0]) := zero_of (by kernel_rfl)
theorem by_96 : Bytes Tryz.prog 96 88 := bytes_of (by kernel_rfl)
theorem sz_97 : Size Tryz.prog 97 11 := size_of (by kernel_rfl)
theorem z_97 : Zero Tryz.prog 97 (.agg #[.int .i64 0, .int .i64 0, .int .i64 0, .int .i64 0, .int .i64 0, .int .i64 0, .int .i64 0, .pointer none, .pointer none, .pointer none, .int .i64 0]) := zero_of (by kernel_rfl)
theorem by_97 : Bytes Tryz.prog 97 88 := bytes_of (by kernel_rfl)
theorem sz_106 : Size Tryz.prog 106 1 := size_of (by kernel_rfl)
theorem pl_106 : Plain Tryz.prog 106 := plain_of Tryz.underlying106 rfl
theorem z_106 : Zero Tryz.prog 106 (.slice none 0 0) := zero_of (by kernel_rfl)
theorem by_106 : Bytes Tryz.prog 106 24 := bytes_of (by kernel_rfl)
theorem sz_111 : Size Tryz.prog 111 1 := size_of (by kernel_rfl)
theorem pl_111 : Plain Tryz.prog 111 := plain_of Tryz.underlying111 rfl
theorem z_111 : Zero Tryz.prog 111 (.pointer none) := zero_of (by kernel_rfl)
theorem by_111 : Bytes Tryz.prog 111 8 := bytes_of (by kernel_rfl)
theorem sz_118 : Size Tryz.prog 118 1 := size_of (by kernel_rfl)
theorem pl_118 : Plain Tryz.prog 118 := plain_of Tryz.underlying118 rfl
theorem z_118 : Zero Tryz.prog 118 (.pointer none) := zero_of (by kernel_rfl)
theorem by_118 : Bytes Tryz.prog 118 8 := bytes_of (by kernel_rfl)
theorem sz_119 : Size Tryz.prog 119 3 := size_of (by kernel_rfl)
theorem z_119 : Zero Tryz.prog 119 (.agg #[.string ByteArray.empty, .int .i64 0, .int .i64 0]) := zero_of (by kernel_rfl)
theorem by_119 : Bytes Tryz.prog 119 32 := bytes_of (by kernel_rfl)
theorem sz_120 : Size Tryz.prog 120 3 := size_of (by kernel_rfl)
theorem z_120 : Zero Tryz.prog 120 (.agg #[.string ByteArray.empty, .int .i64 0, .int .i64 0]) := zero_of (by kernel_rfl)
theorem by_120 : Bytes Tryz.prog 120 32 := bytes_of (by kernel_rfl)
theorem sz_137 : Size Tryz.prog 137 1 := size_of (by kernel_rfl)
theorem pl_137 : Plain Tryz.prog 137 := plain_of Tryz.underlying137 rfl
theorem z_137 : Zero Tryz.prog 137 (.pointer none) := zero_of (by kernel_rfl)
theorem by_137 : Bytes Tryz.prog 137 8 := bytes_of (by kernel_rfl)
theorem sz_138 : Size Tryz.prog 138 1 := size_of (by kernel_rfl)
theorem pl_138 : Plain Tryz.prog 138 := plain_of Tryz.underlying138 rfl
theorem z_138 : Zero Tryz.prog 138 (.pointer none) := zero_of (by kernel_rfl)
theorem by_138 : Bytes Tryz.prog 138 8 := bytes_of (by kernel_rfl)
theorem sz_139 : Size Tryz.prog 139 6 := size_of (by kernel_rfl)
theorem z_139 : Zero Tryz.prog 139 (.agg #[.int .i64 0, .pointer none, .pointer none, .int .i64 0, .int .i64 0, .bool false]) := zero_of (by kernel_rfl)
theorem by_139 : Bytes Tryz.prog 139 48 := bytes_of (by kernel_rfl)
theorem sz_140 : Size Tryz.prog 140 6 := size_of (by kernel_rfl)
theorem z_140 : Zero Tryz.prog 140 (.agg #[.int .i64 0, .pointer none, .pointer none, .int .i64 0, .int .i64 0, .bool false]) := zero_of (by kernel_rfl)
theorem by_140 : Bytes Tryz.prog 140 48 := bytes_of (by kernel_rfl)
theorem sz_148 : Size Tryz.prog 148 1 := size_of (by kernel_rfl)
theorem pl_148 : Plain Tryz.prog 148 := plain_of Tryz.underlying148 rfl
theorem z_148 : Zero Tryz.prog 148 (.pointer none) := zero_of (by kernel_rfl)
theorem by_148 : Bytes Tryz.prog 148 8 := bytes_of (by kernel_rfl)
theorem sz_150 : Size Tryz.prog 150 1 := size_of (by kernel_rfl)
theorem pl_150 : Plain Tryz.prog 150 := plain_of Tryz.underlying150 rfl
theorem z_150 : Zero Tryz.prog 150 (.slice none 0 0) := zero_of (by kernel_rfl)
theorem by_150 : Bytes Tryz.prog 150 24 := bytes_of (by kernel_rfl)
theorem sz_151 : Size Tryz.prog 151 8 := size_of (by kernel_rfl)
theorem z_151 : Zero Tryz.prog 151 (.agg #[.int .i64 0, .int .i64 0, .int .i64 0, .int .i64 0, .int .i64 0, .int .i64 0, .pointer none, .slice none 0 0]) := zero_of (by kernel_rfl)
theorem by_151 : Bytes Tryz.prog 151 80 := bytes_of (by kernel_rfl)
theorem sz_152 : Size Tryz.prog 152 8 := size_of (by kernel_rfl)
theorem z_152 : Zero Tryz.prog 152 (.agg #[.int .i64 0, .int .i64 0, .int .i64 0, .int .i64 0, .int .i64 0, .int .i64 0, .pointer none, .slice none 0 0]) := zero_of (by kernel_rfl)
theorem by_152 : Bytes Tryz.prog 152 80 := bytes_of (by kernel_rfl)
theorem sz_154 : Size Tryz.prog 154 1 := size_of (by kernel_rfl)
theorem pl_154 : Plain Tryz.prog 154 := plain_of Tryz.underlying154 rfl
theorem z_154 : Zero Tryz.prog 154 (.pointer none) := zero_of (by kernel_rfl)
theorem by_154 : Bytes Tryz.prog 154 8 := bytes_of (by kernel_rfl)
theorem sz_156 : Size Tryz.prog 156 2 := size_of (by kernel_rfl)
theorem z_156 : Zero Tryz.prog 156 (.agg #[.pointer none, .pointer none]) := zero_of (by kernel_rfl)
theorem by_156 : Bytes Tryz.prog 156 16 := bytes_of (by kernel_rfl)
theorem sz_157 : Size Tryz.prog 157 2 := size_of (by kernel_rfl)
theorem z_157 : Zero Tryz.prog 157 (.agg #[.pointer none, .pointer none]) := zero_of (by kernel_rfl)
theorem by_157 : Bytes Tryz.prog 157 16 := bytes_of (by kernel_rfl)
theorem sz_160 : Size Tryz.prog 160 1 := size_of (by kernel_rfl)
theorem pl_160 : Plain Tryz.prog 160 := plain_of Tryz.underlying160 rfl
theorem z_160 : Zero Tryz.prog 160 (.pointer none) := zero_of (by kernel_rfl)
theorem by_160 : Bytes Tryz.prog 160 8 := bytes_of (by kernel_rfl)
theorem sz_161 : Size Tryz.prog 161 1 := size_of (by kernel_rfl)
theorem pl_161 : Plain Tryz.prog 161 := plain_of Tryz.underlying161 rfl
theorem z_161 : Zero Tryz.prog 161 (.pointer none) := zero_of (by kernel_rfl)
theorem by_161 : Bytes Tryz.prog 161 8 := bytes_of (by kernel_rfl)
theorem sz_162 : Size Tryz.prog 162 2 := size_of (by kernel_rfl)
theorem z_162 : Zero Tryz.prog 162 (.agg #[.pointer none, .pointer none]) := zero_of (by kernel_rfl)
theorem by_162 : Bytes Tryz.prog 162 16 := bytes_of (by kernel_rfl)
theorem sz_163 : Size Tryz.prog 163 2 := size_of (by kernel_rfl)
theorem z_163 : Zero Tryz.prog 163 (.agg #[.pointer none, .pointer none]) := zero_of (by kernel_rfl)
theorem by_163 : Bytes Tryz.prog 163 16 := bytes_of (by kernel_rfl)
theorem sz_164 : Size Tryz.prog 164 6 := size_of (by kernel_rfl)
theorem z_164 : Zero Tryz.prog 164 (.agg #[.pointer none, .pointer none, .int .i64 0, .int .i64 0, .int .i64 0, .bool false]) := zero_of (by kernel_rfl)
theorem by_164 : Bytes Tryz.prog 164 48 := bytes_of (by kernel_rfl)
theorem sz_165 : Size Tryz.prog 165 6 := size_of (by kernel_rfl)
theorem z_165 : Zero Tryz.prog 165 (.agg #[.pointer none, .pointer none, .int .i64 0, .int .i64 0, .int .i64 0, .bool false]) := zero_of (by kernel_rfl)
theorem by_165 : Bytes Tryz.prog 165 48 := bytes_of (by kernel_rfl)
theorem sz_167 : Size Tryz.prog 167 7 := size_of (by kernel_rfl)
theorem z_167 : Zero Tryz.prog 167 (.agg #[.pointer none, .int .i64 0, .int .i64 0, .int .i64 0, .slice none 0 0, .slice none 0 0, .slice none 0 0]) := zero_of (by kernel_rfl)
theorem by_167 : Bytes Tryz.prog 167 104 := bytes_of (by kernel_rfl)
theorem sz_168 : Size Tryz.prog 168 7 := size_of (by kernel_rfl)
theorem z_168 : Zero Tryz.prog 168 (.agg #[.pointer none, .int .i64 0, .int .i64 0, .int .i64 0, .slice none 0 0, .slice none 0 0, .slice none 0 0]) := zero_of (by kernel_rfl)
theorem by_168 : Bytes Tryz.prog 168 104 := bytes_of (by kernel_rfl)
theorem sz_169 : Size Tryz.prog 169 3 := size_of (by kernel_rfl)
theorem z_169 : Zero Tryz.prog 169 (.agg #[.int .i64 0, .int .i64 0, .slice none 0 0]) := zero_of (by kernel_rfl)
theorem by_169 : Bytes Tryz.prog 169 40 := bytes_of (by kernel_rfl)
theorem sz_170 : Size Tryz.prog 170 3 := size_of (by kernel_rfl)
theorem z_170 : Zero Tryz.prog 170 (.agg #[.int .i64 0, .int .i64 0, .slice none 0 0]) := zero_of (by kernel_rfl)
theorem by_170 : Bytes Tryz.prog 170 40 := bytes_of (by kernel_rfl)
theorem sz_172 : Size Tryz.prog 172 1 := size_of (by kernel_rfl)
theorem pl_172 : Plain Tryz.prog 172 := plain_of Tryz.underlying172 rfl
theorem z_172 : Zero Tryz.prog 172 (.pointer none) := zero_of (by kernel_rfl)
theorem by_172 : Bytes Tryz.prog 172 8 := bytes_of (by kernel_rfl)
theorem sz_173 : Size Tryz.prog 173 1 := size_of (by kernel_rfl)
theorem pl_173 : Plain Tryz.prog 173 := plain_of Tryz.underlying173 rfl
theorem z_173 : Zero Tryz.prog 173 (.slice none 0 0) := zero_of (by kernel_rfl)
theorem by_173 : Bytes Tryz.prog 173 24 := bytes_of (by kernel_rfl)
theorem sz_174 : Size Tryz.prog 174 2 := size_of (by kernel_rfl)
theorem z_174 : Zero Tryz.prog 174 (.agg #[.pointer none, .slice none 0 0]) := zero_of (by kernel_rfl)
theorem by_174 : Bytes Tryz.prog 174 32 := bytes_of (by kernel_rfl)
theorem sz_175 : Size Tryz.prog 175 2 := size_of (by kernel_rfl)
theorem z_175 : Zero Tryz.prog 175 (.agg #[.pointer none, .slice none 0 0]) := zero_of (by kernel_rfl)
theorem by_175 : Bytes Tryz.prog 175 32 := bytes_of (by kernel_rfl)
theorem sz_176 : Size Tryz.prog 176 3 := size_of (by kernel_rfl)
theorem z_176 : Zero Tryz.prog 176 (.agg #[.pointer none, .slice none 0 0, .bool false]) := zero_of (by kernel_rfl)
theorem by_176 : Bytes Tryz.prog 176 40 := bytes_of (by kernel_rfl)
theorem sz_177 : Size Tryz.prog 177 3 := size_of (by kernel_rfl)
theorem z_177 : Zero Tryz.prog 177 (.agg #[.pointer none, .slice none 0 0, .bool false]) := zero_of (by kernel_rfl)
theorem by_177 : Bytes Tryz.prog 177 40 := bytes_of (by kernel_rfl)
theorem sz_179 : Size Tryz.prog 179 1 := size_of (by kernel_rfl)
theorem pl_179 : Plain Tryz.prog 179 := plain_of Tryz.underlying179 rfl
theorem z_179 : Zero Tryz.prog 179 (.pointer none) := zero_of (by kernel_rfl)
theorem by_179 : Bytes Tryz.prog 179 8 := bytes_of (by kernel_rfl)
theorem sz_182 : Size Tryz.prog 182 1 := size_of (by kernel_rfl)
theorem pl_182 : Plain Tryz.prog 182 := plain_of Tryz.underlying182 rfl
theorem z_182 : Zero Tryz.prog 182 (.slice none 0 0) := zero_of (by kernel_rfl)
theorem by_182 : Bytes Tryz.prog 182 24 := bytes_of (by kernel_rfl)
theorem sz_184 : Size Tryz.prog 184 2 := size_of (by kernel_rfl)
theorem z_184 : Zero Tryz.prog 184 (.agg #[.int .i64 0, .string ByteArray.empty]) := zero_of (by kernel_rfl)
theorem by_184 : Bytes Tryz.prog 184 24 := bytes_of (by kernel_rfl)
theorem sz_185 : Size Tryz.prog 185 2 := size_of (by kernel_rfl)
theorem z_185 : Zero Tryz.prog 185 (.agg #[.int .i64 0, .string ByteArray.empty]) := zero_of (by kernel_rfl)
theorem by_185 : Bytes Tryz.prog 185 24 := bytes_of (by kernel_rfl)
theorem sz_188 : Size Tryz.prog 188 3 := size_of (by kernel_rfl)
theorem z_188 : Zero Tryz.prog 188 (.agg #[.string ByteArray.empty, .int .i64 0, .int .i64 0]) := zero_of (by kernel_rfl)
theorem by_188 : Bytes Tryz.prog 188 32 := bytes_of (by kernel_rfl)
theorem sz_189 : Size Tryz.prog 189 3 := size_of (by kernel_rfl)
theorem z_189 : Zero Tryz.prog 189 (.agg #[.string ByteArray.empty, .int .i64 0, .int .i64 0]) := zero_of (by kernel_rfl)
theorem by_189 : Bytes Tryz.prog 189 32 := bytes_of (by kernel_rfl)
theorem sz_190 : Size Tryz.prog 190 1 := size_of (by kernel_rfl)
theorem pl_190 : Plain Tryz.prog 190 := plain_of Tryz.underlying190 rfl
theorem z_190 : Zero Tryz.prog 190 (.int .u64 0) := zero_of (by kernel_rfl)
theorem by_190 : Bytes Tryz.prog 190 8 := bytes_of (by kernel_rfl)
theorem sz_201 : Size Tryz.prog 201 3 := size_of (by kernel_rfl)
theorem z_201 : Zero Tryz.prog 201 (.agg #[.int .i64 0, .slice none 0 0, .int .i64 0]) := zero_of (by kernel_rfl)
theorem by_201 : Bytes Tryz.prog 201 40 := bytes_of (by kernel_rfl)
theorem sz_202 : Size Tryz.prog 202 3 := size_of (by kernel_rfl)
theorem z_202 : Zero Tryz.prog 202 (.agg #[.int .i64 0, .slice none 0 0, .int .i64 0]) := zero_of (by kernel_rfl)
theorem by_202 : Bytes Tryz.prog 202 40 := bytes_of (by kernel_rfl)
theorem sz_203 : Size Tryz.prog 203 1 := size_of (by kernel_rfl)
theorem pl_203 : Plain Tryz.prog 203 := plain_of Tryz.underlying203 rfl
theorem z_203 : Zero Tryz.prog 203 (.slice none 0 0) := zero_of (by kernel_rfl)
theorem by_203 : Bytes Tryz.prog 203 24 := bytes_of (by kernel_rfl)
theorem sz_205 : Size Tryz.prog 205 4 := size_of (by kernel_rfl)
theorem z_205 : Zero Tryz.prog 205 (.agg #[.int .i64 0, .int .i64 0, .slice none 0 0, .int .i64 0]) := zero_of (by kernel_rfl)
theorem by_205 : Bytes Tryz.prog 205 48 := bytes_of (by kernel_rfl)
theorem sz_206 : Size Tryz.prog 206 4 := size_of (by kernel_rfl)
theorem z_206 : Zero Tryz.prog 206 (.agg #[.int .i64 0, .int .i64 0, .slice none 0 0, .int .i64 0]) := zero_of (by kernel_rfl)
theorem by_206 : Bytes Tryz.prog 206 48 := bytes_of (by kernel_rfl)
theorem sz_212 : Size Tryz.prog 212 65 := size_of (by kernel_rfl)
theorem z_212 : Zero Tryz.prog 212 (.agg (List.replicate 65 (.int .i64 0 : Value)).toArray) := zero_of (by kernel_rfl)
theorem by_212 : Bytes Tryz.prog 212 520 := bytes_of (by kernel_rfl)
theorem sz_213 : Size Tryz.prog 213 67 := size_of (by kernel_rfl)
theorem z_213 : Zero Tryz.prog 213 (.agg #[.int .i64 0, .slice none 0 0, .int .i64 0, .int .i64 0, .int .i64 0, .int .i64 0, .int .i64 0, .int .i64 0, .int .i64 0, .int .i64 0, .int .i64 0, .int .i64 0, .int .i64 0, .int .i64 0, .int .i64 0, .int .i64 0, .int .i64 0, .int .i64 0, .int .i64 0, .int .i64 0, .int .i64 0, .int .i64 0, .int .i64 0, .int .i64 0, .int .i64 0, .int .i64 0, .int .i64 0, .int .i64 0, .int .i64 0, .int .i64 0, .int .i64 0, .int .i64 0, .int .i64 0, .int .i64 0, .int .i64 0, .int .i64 0, .int .i64 0, .int .i64 0, .int .i64 0, .int .i64 0, .int .i64 0, .int .i64 0, .int .i64 0, .int .i64 0, .int .i64 0, .int .i64 0, .int .i64 0, .int .i64 0, .int .i64 0, .int .i64 0, .int .i64 0, .int .i64 0, .int .i64 0, .int .i64 0, .int .i64 0, .int .i64 0, .int .i64 0, .int .i64 0, .int .i64 0, .int .i64 0, .int .i64 0, .int .i64 0, .int .i64 0, .int .i64 0, .int .i64 0, .int .i64 0, .int .i64 0]) := zero_of (by kernel_rfl)
theorem by_213 : Bytes Tryz.prog 213 552 := bytes_of (by kernel_rfl)
theorem sz_214 : Size Tryz.prog 214 67 := size_of (by kernel_rfl)
theorem z_214 : Zero Tryz.prog 214 (.agg #[.int .i64 0, .slice none 0 0, .int .i64 0, .int .i64 0, .int .i64 0, .int .i64 0, .int .i64 0, .int .i64 0, .int .i64 0, .int .i64 0, .int .i64 0, .int .i64 0, .int .i64 0, .int .i64 0, .int .i64 0, .int .i64 0, .int .i64 0, .int .i64 0, .int .i64 0, .int .i64 0, .int .i64 0, .int .i64 0, .int .i64 0, .int .i64 0, .int .i64 0, .int .i64 0, .int .i64 0, .int .i64 0, .int .i64 0, .int .i64 0, .int .i64 0, .int .i64 0, .int .i64 0, .int .i64 0, .int .i64 0, .int .i64 0, .int .i64 0, .int .i64 0, .int .i64 0, .int .i64 0, .int .i64 0, .int .i64 0, .int .i64 0, .int .i64 0, .int .i64 0, .int .i64 0, .int .i64 0, .int .i64 0, .int .i64 0, .int .i64 0, .int .i64 0, .int .i64 0, .int .i64 0, .int .i64 0, .int .i64 0, .int .i64 0, .int .i64 0, .int .i64 0, .int .i64 0, .int .i64 0, .int .i64 0, .int .i64 0, .int .i64 0, .int .i64 0, .int .i64 0, .int .i64 0, .int .i64 0]) := zero_of (by kernel_rfl)
theorem by_214 : Bytes Tryz.prog 214 552 := bytes_of (by kernel_rfl)
theorem sz_215 : Size Tryz.prog 215 1 := size_of (by kernel_rfl)
theorem z_215 : Zero Tryz.prog 215 (.agg #[.int .i64 0]) := zero_of (by kernel_rfl)
theorem by_215 : Bytes Tryz.prog 215 8 := bytes_of (by kernel_rfl)
theorem sz_216 : Size Tryz.prog 216 1 := size_of (by kernel_rfl)
theorem z_216 : Zero Tryz.prog 216 (.agg #[.int .i64 0]) := zero_of (by kernel_rfl)
theorem by_216 : Bytes Tryz.prog 216 8 := bytes_of (by kernel_rfl)
theorem sz_217 : Size Tryz.prog 217 16 := size_of (by kernel_rfl)
theorem z_217 : Zero Tryz.prog 217 (.agg #[.string ByteArray.empty, .string ByteArray.empty, .string ByteArray.empty, .string ByteArray.empty, .string ByteArray.empty, .string ByteArray.empty, .string ByteArray.empty, .string ByteArray.empty, .string ByteArray.empty, .string ByteArray.empty, .string ByteArray.empty, .string ByteArray.empty, .string ByteArray.empty, .string ByteArray.empty, .string ByteArray.empty, .string ByteArray.empty]) := zero_of (by kernel_rfl)
theorem by_217 : Bytes Tryz.prog 217 256 := bytes_of (by kernel_rfl)
theorem sz_218 : Size Tryz.prog 218 20 := size_of (by kernel_rfl)
theorem z_218 : Zero Tryz.prog 218 (.agg #[.int .i64 0, .int .i64 0, .string ByteArray.empty, .string ByteArray.empty, .string ByteArray.empty, .string ByteArray.empty, .string ByteArray.empty, .string ByteArray.empty, .string ByteArray.empty, .string ByteArray.empty, .string ByteArray.empty, .string ByteArray.empty, .string ByteArray.empty, .string ByteArray.empty, .string ByteArray.empty, .string ByteArray.empty, .string ByteArray.empty, .string ByteArray.empty, .int .i64 0, .int .i64 0]) := zero_of (by kernel_rfl)
theorem by_218 : Bytes Tryz.prog 218 288 := bytes_of (by kernel_rfl)
theorem sz_219 : Size Tryz.prog 219 20 := size_of (by kernel_rfl)
theorem z_219 : Zero Tryz.prog 219 (.agg #[.int .i64 0, .int .i64 0, .string ByteArray.empty, .string ByteArray.empty, .string ByteArray.empty, .string ByteArray.empty, .string ByteArray.empty, .string ByteArray.empty, .string ByteArray.empty, .string ByteArray.empty, .string ByteArray.empty, .string ByteArray.empty, .string ByteArray.empty, .string ByteArray.empty, .string ByteArray.empty, .string ByteArray.empty, .string ByteArray.empty, .string ByteArray.empty, .int .i64 0, .int .i64 0]) := zero_of (by kernel_rfl)
theorem by_219 : Bytes Tryz.prog 219 288 := bytes_of (by kernel_rfl)
theorem sz_220 : Size Tryz.prog 220 4 := size_of (by kernel_rfl)
theorem z_220 : Zero Tryz.prog 220 (.agg #[.int .i64 0, .int .i64 0, .int .i64 0, .slice none 0 0]) := zero_of (by kernel_rfl)
theorem by_220 : Bytes Tryz.prog 220 48 := bytes_of (by kernel_rfl)
theorem sz_221 : Size Tryz.prog 221 4 := size_of (by kernel_rfl)
theorem z_221 : Zero Tryz.prog 221 (.agg #[.int .i64 0, .int .i64 0, .int .i64 0, .slice none 0 0]) := zero_of (by kernel_rfl)
theorem by_221 : Bytes Tryz.prog 221 48 := bytes_of (by kernel_rfl)
theorem sz_228 : Size Tryz.prog 228 1 := size_of (by kernel_rfl)
theorem pl_228 : Plain Tryz.prog 228 := plain_of Tryz.underlying228 rfl
theorem z_228 : Zero Tryz.prog 228 (.int .u32 0) := zero_of (by kernel_rfl)
theorem by_228 : Bytes Tryz.prog 228 4 := bytes_of (by kernel_rfl)
theorem sz_240 : Size Tryz.prog 240 1 := size_of (by kernel_rfl)
theorem pl_240 : Plain Tryz.prog 240 := plain_of Tryz.underlying240 rfl
theorem z_240 : Zero Tryz.prog 240 (.pointer none) := zero_of (by kernel_rfl)
theorem by_240 : Bytes Tryz.prog 240 8 := bytes_of (by kernel_rfl)
theorem sz_251 : Size Tryz.prog 251 1 := size_of (by kernel_rfl)
theorem pl_251 : Plain Tryz.prog 251 := plain_of Tryz.underlying251 rfl
theorem z_251 : Zero Tryz.prog 251 (.pointer none) := zero_of (by kernel_rfl)
theorem by_251 : Bytes Tryz.prog 251 8 := bytes_of (by kernel_rfl)
theorem sz_252 : Size Tryz.prog 252 1 := size_of (by kernel_rfl)
theorem pl_252 : Plain Tryz.prog 252 := plain_of Tryz.underlying252 rfl
theorem z_252 : Zero Tryz.prog 252 (.int .u64 0) := zero_of (by kernel_rfl)
theorem by_252 : Bytes Tryz.prog 252 8 := bytes_of (by kernel_rfl)
theorem sz_256 : Size Tryz.prog 256 1 := size_of (by kernel_rfl)
theorem pl_256 : Plain Tryz.prog 256 := plain_of Tryz.underlying256 rfl
theorem z_256 : Zero Tryz.prog 256 (.map none) := zero_of (by kernel_rfl)
theorem by_256 : Bytes Tryz.prog 256 8 := bytes_of (by kernel_rfl)
theorem sz_257 : Size Tryz.prog 257 1 := size_of (by kernel_rfl)
theorem z_257 : Zero Tryz.prog 257 (.agg #[.map none]) := zero_of (by kernel_rfl)
theorem by_257 : Bytes Tryz.prog 257 8 := bytes_of (by kernel_rfl)
theorem sz_258 : Size Tryz.prog 258 1 := size_of (by kernel_rfl)
theorem z_258 : Zero Tryz.prog 258 (.agg #[.map none]) := zero_of (by kernel_rfl)
theorem by_258 : Bytes Tryz.prog 258 8 := bytes_of (by kernel_rfl)
theorem sz_260 : Size Tryz.prog 260 256 := size_of (by kernel_rfl)
theorem z_260 : Zero Tryz.prog 260 (.agg (List.replicate 256 (.int .u32 0 : Value)).toArray) := zero_of (by kernel_rfl)
theorem by_260 : Bytes Tryz.prog 260 1024 := bytes_of (by kernel_rfl)
theorem sz_263 : Size Tryz.prog 263 4 := size_of (by kernel_rfl)
theorem z_263 : Zero Tryz.prog 263 (.agg #[.int .u64 0, .int .u64 0, .int .u64 0, .int .u64 0]) := zero_of (by kernel_rfl)
theorem by_263 : Bytes Tryz.prog 263 32 := bytes_of (by kernel_rfl)
theorem st_13 : IsStruct Tryz.prog 13 := ⟨_, Tryz.underlying13⟩
theorem fl_13_0 : Fld Tryz.prog 13 0 9 0 1 := fld_of Tryz.underlying13 (by kernel_rfl) sz_9
theorem fl_13_1 : Fld Tryz.prog 13 1 12 1 1 := fld_of Tryz.underlying13 (by kernel_rfl) sz_12
theorem st_19 : IsStruct Tryz.prog 19 := ⟨_, Tryz.underlying19⟩
theorem st_22 : IsStruct Tryz.prog 22 := ⟨_, Tryz.underlying22⟩
theorem fl_22_0 : Fld Tryz.prog 22 0 3 0 1 := fld_of Tryz.underlying22 (by kernel_rfl) sz_3
theorem fl_22_1 : Fld Tryz.prog 22 1 3 1 1 := fld_of Tryz.underlying22 (by kernel_rfl) sz_3
theorem fl_22_2 : Fld Tryz.prog 22 2 3 2 1 := fld_of Tryz.underlying22 (by kernel_rfl) sz_3
theorem fl_22_3 : Fld Tryz.prog 22 3 3 3 1 := fld_of Tryz.underlying22 (by kernel_rfl) sz_3
theorem fl_22_4 : Fld Tryz.prog 22 4 3 4 1 := fld_of Tryz.underlying22 (by kernel_rfl) sz_3
theorem fl_22_5 : Fld Tryz.prog 22 5 3 5 1 := fld_of Tryz.underlying22 (by kernel_rfl) sz_3
theorem st_23 : IsStruct Tryz.prog 23 := ⟨_, Tryz.underlying23⟩
theorem fl_23_0 : Fld Tryz.prog 23 0 3 0 1 := fld_of Tryz.underlying23 (by kernel_rfl) sz_3
theorem fl_23_1 : Fld Tryz.prog 23 1 3 1 1 := fld_of Tryz.underlying23 (by kernel_rfl) sz_3
theorem fl_23_2 : Fld Tryz.prog 23 2 3 2 1 := fld_of Tryz.underlying23 (by kernel_rfl) sz_3
theorem fl_23_3 : Fld Tryz.prog 23 3 3 3 1 := fld_of Tryz.underlying23 (by kernel_rfl) sz_3
theorem fl_23_4 : Fld Tryz.prog 23 4 3 4 1 := fld_of Tryz.underlying23 (by kernel_rfl) sz_3
theorem fl_23_5 : Fld Tryz.prog 23 5 3 5 1 := fld_of Tryz.underlying23 (by kernel_rfl) sz_3
theorem st_29 : IsStruct Tryz.prog 29 := ⟨_, Tryz.underlying29⟩
theorem fl_29_0 : Fld Tryz.prog 29 0 3 0 1 := fld_of Tryz.underlying29 (by kernel_rfl) sz_3
theorem fl_29_1 : Fld Tryz.prog 29 1 3 1 1 := fld_of Tryz.underlying29 (by kernel_rfl) sz_3
theorem fl_29_2 : Fld Tryz.prog 29 2 3 2 1 := fld_of Tryz.underlying29 (by kernel_rfl) sz_3
theorem fl_29_3 : Fld Tryz.prog 29 3 3 3 1 := fld_of Tryz.underlying29 (by kernel_rfl) sz_3
theorem fl_29_4 : Fld Tryz.prog 29 4 3 4 1 := fld_of Tryz.underlying29 (by kernel_rfl) sz_3
theorem fl_29_5 : Fld Tryz.prog 29 5 3 5 1 := fld_of Tryz.underlying29 (by kernel_rfl) sz_3
theorem st_30 : IsStruct Tryz.prog 30 := ⟨_, Tryz.underlying30⟩
theorem fl_30_0 : Fld Tryz.prog 30 0 3 0 1 := fld_of Tryz.underlying30 (by kernel_rfl) sz_3
theorem fl_30_1 : Fld Tryz.prog 30 1 3 1 1 := fld_of Tryz.underlying30 (by kernel_rfl) sz_3
theorem fl_30_2 : Fld Tryz.prog 30 2 3 2 1 := fld_of Tryz.underlying30 (by kernel_rfl) sz_3
theorem fl_30_3 : Fld Tryz.prog 30 3 3 3 1 := fld_of Tryz.underlying30 (by kernel_rfl) sz_3
theorem fl_30_4 : Fld Tryz.prog 30 4 3 4 1 := fld_of Tryz.underlying30 (by kernel_rfl) sz_3
theorem fl_30_5 : Fld Tryz.prog 30 5 3 5 1 := fld_of Tryz.underlying30 (by kernel_rfl) sz_3
theorem st_39 : IsStruct Tryz.prog 39 := ⟨_, Tryz.underlying39⟩
theorem fl_39_0 : Fld Tryz.prog 39 0 3 0 1 := fld_of Tryz.underlying39 (by kernel_rfl) sz_3
theorem fl_39_1 : Fld Tryz.prog 39 1 3 1 1 := fld_of Tryz.underlying39 (by kernel_rfl) sz_3
theorem fl_39_2 : Fld Tryz.prog 39 2 9 2 1 := fld_of Tryz.underlying39 (by kernel_rfl) sz_9
theorem st_40 : IsStruct Tryz.prog 40 := ⟨_, Tryz.underlying40⟩
theorem fl_40_0 : Fld Tryz.prog 40 0 3 0 1 := fld_of Tryz.underlying40 (by kernel_rfl) sz_3
theorem fl_40_1 : Fld Tryz.prog 40 1 3 1 1 := fld_of Tryz.underlying40 (by kernel_rfl) sz_3
theorem fl_40_2 : Fld Tryz.prog 40 2 9 2 1 := fld_of Tryz.underlying40 (by kernel_rfl) sz_9
theorem st_41 : IsStruct Tryz.prog 41 := ⟨_, Tryz.underlying41⟩
theorem fl_41_0 : Fld Tryz.prog 41 0 3 0 1 := fld_of Tryz.underlying41 (by kernel_rfl) sz_3
theorem fl_41_1 : Fld Tryz.prog 41 1 3 1 1 := fld_of Tryz.underlying41 (by kernel_rfl) sz_3
theorem fl_41_2 : Fld Tryz.prog 41 2 3 2 1 := fld_of Tryz.underlying41 (by kernel_rfl) sz_3
theorem fl_41_3 : Fld Tryz.prog 41 3 9 3 1 := fld_of Tryz.underlying41 (by kernel_rfl) sz_9
theorem st_42 : IsStruct Tryz.prog 42 := ⟨_, Tryz.underlying42⟩
theorem fl_42_0 : Fld Tryz.prog 42 0 3 0 1 := fld_of Tryz.underlying42 (by kernel_rfl) sz_3
theorem fl_42_1 : Fld Tryz.prog 42 1 3 1 1 := fld_of Tryz.underlying42 (by kernel_rfl) sz_3
theorem fl_42_2 : Fld Tryz.prog 42 2 3 2 1 := fld_of Tryz.underlying42 (by kernel_rfl) sz_3
theorem fl_42_3 : Fld Tryz.prog 42 3 9 3 1 := fld_of Tryz.underlying42 (by kernel_rfl) sz_9
theorem st_47 : IsStruct Tryz.prog 47 := ⟨_, Tryz.underlying47⟩
theorem fl_47_0 : Fld Tryz.prog 47 0 3 0 1 := fld_of Tryz.underlying47 (by kernel_rfl) sz_3
theorem fl_47_1 : Fld Tryz.prog 47 1 3 1 1 := fld_of Tryz.underlying47 (by kernel_rfl) sz_3
theorem fl_47_2 : Fld Tryz.prog 47 2 46 2 1 := fld_of Tryz.underlying47 (by kernel_rfl) sz_46
theorem st_48 : IsStruct Tryz.prog 48 := ⟨_, Tryz.underlying48⟩
theorem fl_48_0 : Fld Tryz.prog 48 0 3 0 1 := fld_of Tryz.underlying48 (by kernel_rfl) sz_3
theorem fl_48_1 : Fld Tryz.prog 48 1 3 1 1 := fld_of Tryz.underlying48 (by kernel_rfl) sz_3
theorem fl_48_2 : Fld Tryz.prog 48 2 46 2 1 := fld_of Tryz.underlying48 (by kernel_rfl) sz_46
theorem st_50 : IsStruct Tryz.prog 50 := ⟨_, Tryz.underlying50⟩
theorem fl_50_0 : Fld Tryz.prog 50 0 24 0 1 := fld_of Tryz.underlying50 (by kernel_rfl) sz_24
theorem fl_50_1 : Fld Tryz.prog 50 1 9 1 1 := fld_of Tryz.underlying50 (by kernel_rfl) sz_9
theorem st_51 : IsStruct Tryz.prog 51 := ⟨_, Tryz.underlying51⟩
theorem fl_51_0 : Fld Tryz.prog 51 0 24 0 1 := fld_of Tryz.underlying51 (by kernel_rfl) sz_24
theorem fl_51_1 : Fld Tryz.prog 51 1 9 1 1 := fld_of Tryz.underlying51 (by kernel_rfl) sz_9
theorem st_58 : IsStruct Tryz.prog 58 := ⟨_, Tryz.underlying58⟩
theorem fl_58_0 : Fld Tryz.prog 58 0 9 0 1 := fld_of Tryz.underlying58 (by kernel_rfl) sz_9
theorem fl_58_1 : Fld Tryz.prog 58 1 3 1 1 := fld_of Tryz.underlying58 (by kernel_rfl) sz_3
theorem fl_58_2 : Fld Tryz.prog 58 2 2 2 1 := fld_of Tryz.underlying58 (by kernel_rfl) sz_2
theorem fl_58_3 : Fld Tryz.prog 58 3 9 3 1 := fld_of Tryz.underlying58 (by kernel_rfl) sz_9
theorem st_59 : IsStruct Tryz.prog 59 := ⟨_, Tryz.underlying59⟩
theorem fl_59_0 : Fld Tryz.prog 59 0 9 0 1 := fld_of Tryz.underlying59 (by kernel_rfl) sz_9
theorem fl_59_1 : Fld Tryz.prog 59 1 3 1 1 := fld_of Tryz.underlying59 (by kernel_rfl) sz_3
theorem fl_59_2 : Fld Tryz.prog 59 2 2 2 1 := fld_of Tryz.underlying59 (by kernel_rfl) sz_2
theorem fl_59_3 : Fld Tryz.prog 59 3 9 3 1 := fld_of Tryz.underlying59 (by kernel_rfl) sz_9
theorem st_60 : IsStruct Tryz.prog 60 := ⟨_, Tryz.underlying60⟩
theorem fl_60_0 : Fld Tryz.prog 60 0 3 0 1 := fld_of Tryz.underlying60 (by kernel_rfl) sz_3
theorem fl_60_1 : Fld Tryz.prog 60 1 59 1 4 := fld_of Tryz.underlying60 (by kernel_rfl) sz_59
theorem fl_60_2 : Fld Tryz.prog 60 2 9 5 1 := fld_of Tryz.underlying60 (by kernel_rfl) sz_9
theorem st_61 : IsStruct Tryz.prog 61 := ⟨_, Tryz.underlying61⟩
theorem fl_61_0 : Fld Tryz.prog 61 0 3 0 1 := fld_of Tryz.underlying61 (by kernel_rfl) sz_3
theorem fl_61_1 : Fld Tryz.prog 61 1 59 1 4 := fld_of Tryz.underlying61 (by kernel_rfl) sz_59
theorem fl_61_2 : Fld Tryz.prog 61 2 9 5 1 := fld_of Tryz.underlying61 (by kernel_rfl) sz_9
theorem st_64 : IsStruct Tryz.prog 64 := ⟨_, Tryz.underlying64⟩
theorem fl_64_0 : Fld Tryz.prog 64 0 3 0 1 := fld_of Tryz.underlying64 (by kernel_rfl) sz_3
theorem fl_64_1 : Fld Tryz.prog 64 1 2 1 1 := fld_of Tryz.underlying64 (by kernel_rfl) sz_2
theorem fl_64_2 : Fld Tryz.prog 64 2 9 2 1 := fld_of Tryz.underlying64 (by kernel_rfl) sz_9
theorem st_65 : IsStruct Tryz.prog 65 := ⟨_, Tryz.underlying65⟩
theorem fl_65_0 : Fld Tryz.prog 65 0 3 0 1 := fld_of Tryz.underlying65 (by kernel_rfl) sz_3
theorem fl_65_1 : Fld Tryz.prog 65 1 2 1 1 := fld_of Tryz.underlying65 (by kernel_rfl) sz_2
theorem fl_65_2 : Fld Tryz.prog 65 2 9 2 1 := fld_of Tryz.underlying65 (by kernel_rfl) sz_9
theorem st_75 : IsStruct Tryz.prog 75 := ⟨_, Tryz.underlying75⟩
theorem fl_75_0 : Fld Tryz.prog 75 0 23 0 6 := fld_of Tryz.underlying75 (by kernel_rfl) sz_23
theorem fl_75_1 : Fld Tryz.prog 75 1 3 6 1 := fld_of Tryz.underlying75 (by kernel_rfl) sz_3
theorem fl_75_2 : Fld Tryz.prog 75 2 72 7 1 := fld_of Tryz.underlying75 (by kernel_rfl) sz_72
theorem fl_75_3 : Fld Tryz.prog 75 3 73 8 1 := fld_of Tryz.underlying75 (by kernel_rfl) sz_73
theorem fl_75_4 : Fld Tryz.prog 75 4 74 9 1 := fld_of Tryz.underlying75 (by kernel_rfl) sz_74
theorem fl_75_5 : Fld Tryz.prog 75 5 3 10 1 := fld_of Tryz.underlying75 (by kernel_rfl) sz_3
theorem st_76 : IsStruct Tryz.prog 76 := ⟨_, Tryz.underlying76⟩
theorem fl_76_0 : Fld Tryz.prog 76 0 23 0 6 := fld_of Tryz.underlying76 (by kernel_rfl) sz_23
theorem fl_76_1 : Fld Tryz.prog 76 1 3 6 1 := fld_of Tryz.underlying76 (by kernel_rfl) sz_3
theorem fl_76_2 : Fld Tryz.prog 76 2 72 7 1 := fld_of Tryz.underlying76 (by kernel_rfl) sz_72
theorem fl_76_3 : Fld Tryz.prog 76 3 73 8 1 := fld_of Tryz.underlying76 (by kernel_rfl) sz_73
theorem fl_76_4 : Fld Tryz.prog 76 4 74 9 1 := fld_of Tryz.underlying76 (by kernel_rfl) sz_74
theorem fl_76_5 : Fld Tryz.prog 76 5 3 10 1 := fld_of Tryz.underlying76 (by kernel_rfl) sz_3
theorem st_84 : IsStruct Tryz.prog 84 := ⟨_, Tryz.underlying84⟩
theorem fl_84_0 : Fld Tryz.prog 84 0 72 0 1 := fld_of Tryz.underlying84 (by kernel_rfl) sz_72
theorem fl_84_1 : Fld Tryz.prog 84 1 3 1 1 := fld_of Tryz.underlying84 (by kernel_rfl) sz_3
theorem fl_84_2 : Fld Tryz.prog 84 2 3 2 1 := fld_of Tryz.underlying84 (by kernel_rfl) sz_3
theorem fl_84_3 : Fld Tryz.prog 84 3 3 3 1 := fld_of Tryz.underlying84 (by kernel_rfl) sz_3
theorem fl_84_4 : Fld Tryz.prog 84 4 32 4 1 := fld_of Tryz.underlying84 (by kernel_rfl) sz_32
theorem fl_84_5 : Fld Tryz.prog 84 5 32 5 1 := fld_of Tryz.underlying84 (by kernel_rfl) sz_32
theorem fl_84_6 : Fld Tryz.prog 84 6 46 6 1 := fld_of Tryz.underlying84 (by kernel_rfl) sz_46
theorem st_85 : IsStruct Tryz.prog 85 := ⟨_, Tryz.underlying85⟩
theorem fl_85_0 : Fld Tryz.prog 85 0 72 0 1 := fld_of Tryz.underlying85 (by kernel_rfl) sz_72
theorem fl_85_1 : Fld Tryz.prog 85 1 3 1 1 := fld_of Tryz.underlying85 (by kernel_rfl) sz_3
theorem fl_85_2 : Fld Tryz.prog 85 2 3 2 1 := fld_of Tryz.underlying85 (by kernel_rfl) sz_3
theorem fl_85_3 : Fld Tryz.prog 85 3 3 3 1 := fld_of Tryz.underlying85 (by kernel_rfl) sz_3
theorem fl_85_4 : Fld Tryz.prog 85 4 32 4 1 := fld_of Tryz.underlying85 (by kernel_rfl) sz_32
theorem fl_85_5 : Fld Tryz.prog 85 5 32 5 1 := fld_of Tryz.underlying85 (by kernel_rfl) sz_32
theorem fl_85_6 : Fld Tryz.prog 85 6 46 6 1 := fld_of Tryz.underlying85 (by kernel_rfl) sz_46
theorem st_86 : IsStruct Tryz.prog 86 := ⟨_, Tryz.underlying86⟩
theorem fl_86_0 : Fld Tryz.prog 86 0 3 0 1 := fld_of Tryz.underlying86 (by kernel_rfl) sz_3
theorem fl_86_1 : Fld Tryz.prog 86 1 3 1 1 := fld_of Tryz.underlying86 (by kernel_rfl) sz_3
theorem fl_86_2 : Fld Tryz.prog 86 2 32 2 1 := fld_of Tryz.underlying86 (by kernel_rfl) sz_32
theorem st_87 : IsStruct Tryz.prog 87 := ⟨_, Tryz.underlying87⟩
theorem fl_87_0 : Fld Tryz.prog 87 0 3 0 1 := fld_of Tryz.underlying87 (by kernel_rfl) sz_3
theorem fl_87_1 : Fld Tryz.prog 87 1 3 1 1 := fld_of Tryz.underlying87 (by kernel_rfl) sz_3
theorem fl_87_2 : Fld Tryz.prog 87 2 32 2 1 := fld_of Tryz.underlying87 (by kernel_rfl) sz_32
theorem st_96 : IsStruct Tryz.prog 96 := ⟨_, Tryz.underlying96⟩
theorem fl_96_0 : Fld Tryz.prog 96 0 23 0 6 := fld_of Tryz.underlying96 (by kernel_rfl) sz_23
theorem fl_96_1 : Fld Tryz.prog 96 1 3 6 1 := fld_of Tryz.underlying96 (by kernel_rfl) sz_3
theorem fl_96_2 : Fld Tryz.prog 96 2 93 7 1 := fld_of Tryz.underlying96 (by kernel_rfl) sz_93
theorem fl_96_3 : Fld Tryz.prog 96 3 94 8 1 := fld_of Tryz.underlying96 (by kernel_rfl) sz_94
theorem fl_96_4 : Fld Tryz.prog 96 4 95 9 1 := fld_of Tryz.underlying96 (by kernel_rfl) sz_95
theorem fl_96_5 : Fld Tryz.prog 96 5 3 10 1 := fld_of Tryz.underlying96 (by kernel_rfl) sz_3
theorem st_97 : IsStruct Tryz.prog 97 := ⟨_, Tryz.underlying97⟩
theorem fl_97_0 : Fld Tryz.prog 97 0 23 0 6 := fld_of Tryz.underlying97 (by kernel_rfl) sz_23
theorem fl_97_1 : Fld Tryz.prog 97 1 3 6 1 := fld_of Tryz.underlying97 (by kernel_rfl) sz_3
theorem fl_97_2 : Fld Tryz.prog 97 2 93 7 1 := fld_of Tryz.underlying97 (by kernel_rfl) sz_93
theorem fl_97_3 : Fld Tryz.prog 97 3 94 8 1 := fld_of Tryz.underlying97 (by kernel_rfl) sz_94
theorem fl_97_4 : Fld Tryz.prog 97 4 95 9 1 := fld_of Tryz.underlying97 (by kernel_rfl) sz_95
theorem fl_97_5 : Fld Tryz.prog 97 5 3 10 1 := fld_of Tryz.underlying97 (by kernel_rfl) sz_3
theorem st_119 : IsStruct Tryz.prog 119 := ⟨_, Tryz.underlying119⟩
theorem fl_119_0 : Fld Tryz.prog 119 0 9 0 1 := fld_of Tryz.underlying119 (by kernel_rfl) sz_9
theorem fl_119_1 : Fld Tryz.prog 119 1 3 1 1 := fld_of Tryz.underlying119 (by kernel_rfl) sz_3
theorem fl_119_2 : Fld Tryz.prog 119 2 3 2 1 := fld_of Tryz.underlying119 (by kernel_rfl) sz_3
theorem st_120 : IsStruct Tryz.prog 120 := ⟨_, Tryz.underlying120⟩
theorem fl_120_0 : Fld Tryz.prog 120 0 9 0 1 := fld_of Tryz.underlying120 (by kernel_rfl) sz_9
theorem fl_120_1 : Fld Tryz.prog 120 1 3 1 1 := fld_of Tryz.underlying120 (by kernel_rfl) sz_3
theorem fl_120_2 : Fld Tryz.prog 120 2 3 2 1 := fld_of Tryz.underlying120 (by kernel_rfl) sz_3
theorem st_139 : IsStruct Tryz.prog 139 := ⟨_, Tryz.underlying139⟩
theorem fl_139_0 : Fld Tryz.prog 139 0 3 0 1 := fld_of Tryz.underlying139 (by kernel_rfl) sz_3
theorem fl_139_1 : Fld Tryz.prog 139 1 137 1 1 := fld_of Tryz.underlying139 (by kernel_rfl) sz_137
theorem fl_139_2 : Fld Tryz.prog 139 2 138 2 1 := fld_of Tryz.underlying139 (by kernel_rfl) sz_138
theorem fl_139_3 : Fld Tryz.prog 139 3 3 3 1 := fld_of Tryz.underlying139 (by kernel_rfl) sz_3
theorem fl_139_4 : Fld Tryz.prog 139 4 3 4 1 := fld_of Tryz.underlying139 (by kernel_rfl) sz_3
theorem fl_139_5 : Fld Tryz.prog 139 5 4 5 1 := fld_of Tryz.underlying139 (by kernel_rfl) sz_4
theorem st_140 : IsStruct Tryz.prog 140 := ⟨_, Tryz.underlying140⟩
theorem fl_140_0 : Fld Tryz.prog 140 0 3 0 1 := fld_of Tryz.underlying140 (by kernel_rfl) sz_3
theorem fl_140_1 : Fld Tryz.prog 140 1 137 1 1 := fld_of Tryz.underlying140 (by kernel_rfl) sz_137
theorem fl_140_2 : Fld Tryz.prog 140 2 138 2 1 := fld_of Tryz.underlying140 (by kernel_rfl) sz_138
theorem fl_140_3 : Fld Tryz.prog 140 3 3 3 1 := fld_of Tryz.underlying140 (by kernel_rfl) sz_3
theorem fl_140_4 : Fld Tryz.prog 140 4 3 4 1 := fld_of Tryz.underlying140 (by kernel_rfl) sz_3
theorem fl_140_5 : Fld Tryz.prog 140 5 4 5 1 := fld_of Tryz.underlying140 (by kernel_rfl) sz_4
theorem st_151 : IsStruct Tryz.prog 151 := ⟨_, Tryz.underlying151⟩
theorem fl_151_0 : Fld Tryz.prog 151 0 23 0 6 := fld_of Tryz.underlying151 (by kernel_rfl) sz_23
theorem fl_151_1 : Fld Tryz.prog 151 1 148 6 1 := fld_of Tryz.underlying151 (by kernel_rfl) sz_148
theorem fl_151_2 : Fld Tryz.prog 151 2 150 7 1 := fld_of Tryz.underlying151 (by kernel_rfl) sz_150
theorem st_152 : IsStruct Tryz.prog 152 := ⟨_, Tryz.underlying152⟩
theorem fl_152_0 : Fld Tryz.prog 152 0 23 0 6 := fld_of Tryz.underlying152 (by kernel_rfl) sz_23
theorem fl_152_1 : Fld Tryz.prog 152 1 148 6 1 := fld_of Tryz.underlying152 (by kernel_rfl) sz_148
theorem fl_152_2 : Fld Tryz.prog 152 2 150 7 1 := fld_of Tryz.underlying152 (by kernel_rfl) sz_150
theorem st_156 : IsStruct Tryz.prog 156 := ⟨_, Tryz.underlying156⟩
theorem fl_156_0 : Fld Tryz.prog 156 0 94 0 1 := fld_of Tryz.underlying156 (by kernel_rfl) sz_94
theorem fl_156_1 : Fld Tryz.prog 156 1 154 1 1 := fld_of Tryz.underlying156 (by kernel_rfl) sz_154
theorem st_157 : IsStruct Tryz.prog 157 := ⟨_, Tryz.underlying157⟩
theorem fl_157_0 : Fld Tryz.prog 157 0 94 0 1 := fld_of Tryz.underlying157 (by kernel_rfl) sz_94
theorem fl_157_1 : Fld Tryz.prog 157 1 154 1 1 := fld_of Tryz.underlying157 (by kernel_rfl) sz_154
theorem st_162 : IsStruct Tryz.prog 162 := ⟨_, Tryz.underlying162⟩
theorem fl_162_0 : Fld Tryz.prog 162 0 160 0 1 := fld_of Tryz.underlying162 (by kernel_rfl) sz_160
theorem fl_162_1 : Fld Tryz.prog 162 1 161 1 1 := fld_of Tryz.underlying162 (by kernel_rfl) sz_161
theorem st_163 : IsStruct Tryz.prog 163 := ⟨_, Tryz.underlying163⟩
theorem fl_163_0 : Fld Tryz.prog 163 0 160 0 1 := fld_of Tryz.underlying163 (by kernel_rfl) sz_160
theorem fl_163_1 : Fld Tryz.prog 163 1 161 1 1 := fld_of Tryz.underlying163 (by kernel_rfl) sz_161
theorem st_164 : IsStruct Tryz.prog 164 := ⟨_, Tryz.underlying164⟩
theorem fl_164_0 : Fld Tryz.prog 164 0 163 0 2 := fld_of Tryz.underlying164 (by kernel_rfl) sz_163
theorem fl_164_1 : Fld Tryz.prog 164 1 3 2 1 := fld_of Tryz.underlying164 (by kernel_rfl) sz_3
theorem fl_164_2 : Fld Tryz.prog 164 2 3 3 1 := fld_of Tryz.underlying164 (by kernel_rfl) sz_3
theorem fl_164_3 : Fld Tryz.prog 164 3 3 4 1 := fld_of Tryz.underlying164 (by kernel_rfl) sz_3
theorem fl_164_4 : Fld Tryz.prog 164 4 4 5 1 := fld_of Tryz.underlying164 (by kernel_rfl) sz_4
theorem st_165 : IsStruct Tryz.prog 165 := ⟨_, Tryz.underlying165⟩
theorem fl_165_0 : Fld Tryz.prog 165 0 163 0 2 := fld_of Tryz.underlying165 (by kernel_rfl) sz_163
theorem fl_165_1 : Fld Tryz.prog 165 1 3 2 1 := fld_of Tryz.underlying165 (by kernel_rfl) sz_3
theorem fl_165_2 : Fld Tryz.prog 165 2 3 3 1 := fld_of Tryz.underlying165 (by kernel_rfl) sz_3
theorem fl_165_3 : Fld Tryz.prog 165 3 3 4 1 := fld_of Tryz.underlying165 (by kernel_rfl) sz_3
theorem fl_165_4 : Fld Tryz.prog 165 4 4 5 1 := fld_of Tryz.underlying165 (by kernel_rfl) sz_4
theorem st_167 : IsStruct Tryz.prog 167 := ⟨_, Tryz.underlying167⟩
theorem fl_167_0 : Fld Tryz.prog 167 0 93 0 1 := fld_of Tryz.underlying167 (by kernel_rfl) sz_93
theorem fl_167_1 : Fld Tryz.prog 167 1 3 1 1 := fld_of Tryz.underlying167 (by kernel_rfl) sz_3
theorem fl_167_2 : Fld Tryz.prog 167 2 3 2 1 := fld_of Tryz.underlying167 (by kernel_rfl) sz_3
theorem fl_167_3 : Fld Tryz.prog 167 3 3 3 1 := fld_of Tryz.underlying167 (by kernel_rfl) sz_3
theorem fl_167_4 : Fld Tryz.prog 167 4 32 4 1 := fld_of Tryz.underlying167 (by kernel_rfl) sz_32
theorem fl_167_5 : Fld Tryz.prog 167 5 32 5 1 := fld_of Tryz.underlying167 (by kernel_rfl) sz_32
theorem fl_167_6 : Fld Tryz.prog 167 6 46 6 1 := fld_of Tryz.underlying167 (by kernel_rfl) sz_46
theorem st_168 : IsStruct Tryz.prog 168 := ⟨_, Tryz.underlying168⟩
theorem fl_168_0 : Fld Tryz.prog 168 0 93 0 1 := fld_of Tryz.underlying168 (by kernel_rfl) sz_93
theorem fl_168_1 : Fld Tryz.prog 168 1 3 1 1 := fld_of Tryz.underlying168 (by kernel_rfl) sz_3
theorem fl_168_2 : Fld Tryz.prog 168 2 3 2 1 := fld_of Tryz.underlying168 (by kernel_rfl) sz_3
theorem fl_168_3 : Fld Tryz.prog 168 3 3 3 1 := fld_of Tryz.underlying168 (by kernel_rfl) sz_3
theorem fl_168_4 : Fld Tryz.prog 168 4 32 4 1 := fld_of Tryz.underlying168 (by kernel_rfl) sz_32
theorem fl_168_5 : Fld Tryz.prog 168 5 32 5 1 := fld_of Tryz.underlying168 (by kernel_rfl) sz_32
theorem fl_168_6 : Fld Tryz.prog 168 6 46 6 1 := fld_of Tryz.underlying168 (by kernel_rfl) sz_46
theorem st_169 : IsStruct Tryz.prog 169 := ⟨_, Tryz.underlying169⟩
theorem fl_169_0 : Fld Tryz.prog 169 0 3 0 1 := fld_of Tryz.underlying169 (by kernel_rfl) sz_3
theorem fl_169_1 : Fld Tryz.prog 169 1 3 1 1 := fld_of Tryz.underlying169 (by kernel_rfl) sz_3
theorem fl_169_2 : Fld Tryz.prog 169 2 32 2 1 := fld_of Tryz.underlying169 (by kernel_rfl) sz_32
theorem st_170 : IsStruct Tryz.prog 170 := ⟨_, Tryz.underlying170⟩
theorem fl_170_0 : Fld Tryz.prog 170 0 3 0 1 := fld_of Tryz.underlying170 (by kernel_rfl) sz_3
theorem fl_170_1 : Fld Tryz.prog 170 1 3 1 1 := fld_of Tryz.underlying170 (by kernel_rfl) sz_3
theorem fl_170_2 : Fld Tryz.prog 170 2 32 2 1 := fld_of Tryz.underlying170 (by kernel_rfl) sz_32
theorem st_174 : IsStruct Tryz.prog 174 := ⟨_, Tryz.underlying174⟩
theorem fl_174_0 : Fld Tryz.prog 174 0 172 0 1 := fld_of Tryz.underlying174 (by kernel_rfl) sz_172
theorem fl_174_1 : Fld Tryz.prog 174 1 173 1 1 := fld_of Tryz.underlying174 (by kernel_rfl) sz_173
theorem st_175 : IsStruct Tryz.prog 175 := ⟨_, Tryz.underlying175⟩
theorem fl_175_0 : Fld Tryz.prog 175 0 172 0 1 := fld_of Tryz.underlying175 (by kernel_rfl) sz_172
theorem fl_175_1 : Fld Tryz.prog 175 1 173 1 1 := fld_of Tryz.underlying175 (by kernel_rfl) sz_173
theorem st_176 : IsStruct Tryz.prog 176 := ⟨_, Tryz.underlying176⟩
theorem fl_176_0 : Fld Tryz.prog 176 0 175 0 2 := fld_of Tryz.underlying176 (by kernel_rfl) sz_175
theorem fl_176_1 : Fld Tryz.prog 176 1 4 2 1 := fld_of Tryz.underlying176 (by kernel_rfl) sz_4
theorem st_177 : IsStruct Tryz.prog 177 := ⟨_, Tryz.underlying177⟩
theorem fl_177_0 : Fld Tryz.prog 177 0 175 0 2 := fld_of Tryz.underlying177 (by kernel_rfl) sz_175
theorem fl_177_1 : Fld Tryz.prog 177 1 4 2 1 := fld_of Tryz.underlying177 (by kernel_rfl) sz_4
theorem st_184 : IsStruct Tryz.prog 184 := ⟨_, Tryz.underlying184⟩
theorem fl_184_0 : Fld Tryz.prog 184 0 3 0 1 := fld_of Tryz.underlying184 (by kernel_rfl) sz_3
theorem fl_184_1 : Fld Tryz.prog 184 1 9 1 1 := fld_of Tryz.underlying184 (by kernel_rfl) sz_9
theorem st_185 : IsStruct Tryz.prog 185 := ⟨_, Tryz.underlying185⟩
theorem fl_185_0 : Fld Tryz.prog 185 0 3 0 1 := fld_of Tryz.underlying185 (by kernel_rfl) sz_3
theorem fl_185_1 : Fld Tryz.prog 185 1 9 1 1 := fld_of Tryz.underlying185 (by kernel_rfl) sz_9
theorem st_188 : IsStruct Tryz.prog 188 := ⟨_, Tryz.underlying188⟩
theorem fl_188_0 : Fld Tryz.prog 188 0 9 0 1 := fld_of Tryz.underlying188 (by kernel_rfl) sz_9
theorem fl_188_1 : Fld Tryz.prog 188 1 3 1 1 := fld_of Tryz.underlying188 (by kernel_rfl) sz_3
theorem fl_188_2 : Fld Tryz.prog 188 2 34 2 1 := fld_of Tryz.underlying188 (by kernel_rfl) sz_34
theorem st_189 : IsStruct Tryz.prog 189 := ⟨_, Tryz.underlying189⟩
theorem fl_189_0 : Fld Tryz.prog 189 0 9 0 1 := fld_of Tryz.underlying189 (by kernel_rfl) sz_9
theorem fl_189_1 : Fld Tryz.prog 189 1 3 1 1 := fld_of Tryz.underlying189 (by kernel_rfl) sz_3
theorem fl_189_2 : Fld Tryz.prog 189 2 34 2 1 := fld_of Tryz.underlying189 (by kernel_rfl) sz_34
theorem st_201 : IsStruct Tryz.prog 201 := ⟨_, Tryz.underlying201⟩
theorem fl_201_0 : Fld Tryz.prog 201 0 3 0 1 := fld_of Tryz.underlying201 (by kernel_rfl) sz_3
theorem fl_201_1 : Fld Tryz.prog 201 1 83 1 1 := fld_of Tryz.underlying201 (by kernel_rfl) sz_83
theorem fl_201_2 : Fld Tryz.prog 201 2 3 2 1 := fld_of Tryz.underlying201 (by kernel_rfl) sz_3
theorem st_202 : IsStruct Tryz.prog 202 := ⟨_, Tryz.underlying202⟩
theorem fl_202_0 : Fld Tryz.prog 202 0 3 0 1 := fld_of Tryz.underlying202 (by kernel_rfl) sz_3
theorem fl_202_1 : Fld Tryz.prog 202 1 83 1 1 := fld_of Tryz.underlying202 (by kernel_rfl) sz_83
theorem fl_202_2 : Fld Tryz.prog 202 2 3 2 1 := fld_of Tryz.underlying202 (by kernel_rfl) sz_3
theorem st_205 : IsStruct Tryz.prog 205 := ⟨_, Tryz.underlying205⟩
theorem fl_205_0 : Fld Tryz.prog 205 0 3 0 1 := fld_of Tryz.underlying205 (by kernel_rfl) sz_3
theorem fl_205_1 : Fld Tryz.prog 205 1 3 1 1 := fld_of Tryz.underlying205 (by kernel_rfl) sz_3
theorem fl_205_2 : Fld Tryz.prog 205 2 83 2 1 := fld_of Tryz.underlying205 (by kernel_rfl) sz_83
theorem fl_205_3 : Fld Tryz.prog 205 3 3 3 1 := fld_of Tryz.underlying205 (by kernel_rfl) sz_3
theorem st_206 : IsStruct Tryz.prog 206 := ⟨_, Tryz.underlying206⟩
theorem fl_206_0 : Fld Tryz.prog 206 0 3 0 1 := fld_of Tryz.underlying206 (by kernel_rfl) sz_3
theorem fl_206_1 : Fld Tryz.prog 206 1 3 1 1 := fld_of Tryz.underlying206 (by kernel_rfl) sz_3
theorem fl_206_2 : Fld Tryz.prog 206 2 83 2 1 := fld_of Tryz.underlying206 (by kernel_rfl) sz_83
theorem fl_206_3 : Fld Tryz.prog 206 3 3 3 1 := fld_of Tryz.underlying206 (by kernel_rfl) sz_3
theorem st_213 : IsStruct Tryz.prog 213 := ⟨_, Tryz.underlying213⟩
theorem fl_213_0 : Fld Tryz.prog 213 0 3 0 1 := fld_of Tryz.underlying213 (by kernel_rfl) sz_3
theorem fl_213_1 : Fld Tryz.prog 213 1 32 1 1 := fld_of Tryz.underlying213 (by kernel_rfl) sz_32
theorem fl_213_2 : Fld Tryz.prog 213 2 212 2 65 := fld_of Tryz.underlying213 (by kernel_rfl) sz_212
theorem st_214 : IsStruct Tryz.prog 214 := ⟨_, Tryz.underlying214⟩
theorem fl_214_0 : Fld Tryz.prog 214 0 3 0 1 := fld_of Tryz.underlying214 (by kernel_rfl) sz_3
theorem fl_214_1 : Fld Tryz.prog 214 1 32 1 1 := fld_of Tryz.underlying214 (by kernel_rfl) sz_32
theorem fl_214_2 : Fld Tryz.prog 214 2 212 2 65 := fld_of Tryz.underlying214 (by kernel_rfl) sz_212
theorem st_215 : IsStruct Tryz.prog 215 := ⟨_, Tryz.underlying215⟩
theorem fl_215_0 : Fld Tryz.prog 215 0 3 0 1 := fld_of Tryz.underlying215 (by kernel_rfl) sz_3
theorem st_216 : IsStruct Tryz.prog 216 := ⟨_, Tryz.underlying216⟩
theorem fl_216_0 : Fld Tryz.prog 216 0 3 0 1 := fld_of Tryz.underlying216 (by kernel_rfl) sz_3
theorem st_218 : IsStruct Tryz.prog 218 := ⟨_, Tryz.underlying218⟩
theorem fl_218_0 : Fld Tryz.prog 218 0 3 0 1 := fld_of Tryz.underlying218 (by kernel_rfl) sz_3
theorem fl_218_1 : Fld Tryz.prog 218 1 3 1 1 := fld_of Tryz.underlying218 (by kernel_rfl) sz_3
theorem fl_218_2 : Fld Tryz.prog 218 2 217 2 16 := fld_of Tryz.underlying218 (by kernel_rfl) sz_217
theorem fl_218_3 : Fld Tryz.prog 218 3 3 18 1 := fld_of Tryz.underlying218 (by kernel_rfl) sz_3
theorem fl_218_4 : Fld Tryz.prog 218 4 3 19 1 := fld_of Tryz.underlying218 (by kernel_rfl) sz_3
theorem st_219 : IsStruct Tryz.prog 219 := ⟨_, Tryz.underlying219⟩
theorem fl_219_0 : Fld Tryz.prog 219 0 3 0 1 := fld_of Tryz.underlying219 (by kernel_rfl) sz_3
theorem fl_219_1 : Fld Tryz.prog 219 1 3 1 1 := fld_of Tryz.underlying219 (by kernel_rfl) sz_3
theorem fl_219_2 : Fld Tryz.prog 219 2 217 2 16 := fld_of Tryz.underlying219 (by kernel_rfl) sz_217
theorem fl_219_3 : Fld Tryz.prog 219 3 3 18 1 := fld_of Tryz.underlying219 (by kernel_rfl) sz_3
theorem fl_219_4 : Fld Tryz.prog 219 4 3 19 1 := fld_of Tryz.underlying219 (by kernel_rfl) sz_3
theorem st_220 : IsStruct Tryz.prog 220 := ⟨_, Tryz.underlying220⟩
theorem fl_220_0 : Fld Tryz.prog 220 0 3 0 1 := fld_of Tryz.underlying220 (by kernel_rfl) sz_3
theorem fl_220_1 : Fld Tryz.prog 220 1 3 1 1 := fld_of Tryz.underlying220 (by kernel_rfl) sz_3
theorem fl_220_2 : Fld Tryz.prog 220 2 3 2 1 := fld_of Tryz.underlying220 (by kernel_rfl) sz_3
theorem fl_220_3 : Fld Tryz.prog 220 3 182 3 1 := fld_of Tryz.underlying220 (by kernel_rfl) sz_182
theorem st_221 : IsStruct Tryz.prog 221 := ⟨_, Tryz.underlying221⟩
theorem fl_221_0 : Fld Tryz.prog 221 0 3 0 1 := fld_of Tryz.underlying221 (by kernel_rfl) sz_3
theorem fl_221_1 : Fld Tryz.prog 221 1 3 1 1 := fld_of Tryz.underlying221 (by kernel_rfl) sz_3
theorem fl_221_2 : Fld Tryz.prog 221 2 3 2 1 := fld_of Tryz.underlying221 (by kernel_rfl) sz_3
theorem fl_221_3 : Fld Tryz.prog 221 3 182 3 1 := fld_of Tryz.underlying221 (by kernel_rfl) sz_182
theorem st_257 : IsStruct Tryz.prog 257 := ⟨_, Tryz.underlying257⟩
theorem fl_257_0 : Fld Tryz.prog 257 0 256 0 1 := fld_of Tryz.underlying257 (by kernel_rfl) sz_256
theorem st_258 : IsStruct Tryz.prog 258 := ⟨_, Tryz.underlying258⟩
theorem fl_258_0 : Fld Tryz.prog 258 0 256 0 1 := fld_of Tryz.underlying258 (by kernel_rfl) sz_256
theorem plc_13 : ∃ fs, Tryz.prog.underlying 13 = some (.struct fs.toArray) ∧ Plc Tryz.prog fs [(0, 1), (1, 1)] := ⟨[_, _], Tryz.underlying13, .cons sz_9 (.cons sz_12 (.nil))⟩
theorem plc_22 : ∃ fs, Tryz.prog.underlying 22 = some (.struct fs.toArray) ∧ Plc Tryz.prog fs [(0, 1), (1, 1), (2, 1), (3, 1), (4, 1), (5, 1)] := ⟨[_, _, _, _, _, _], Tryz.underlying22, .cons sz_3 (.cons sz_3 (.cons sz_3 (.cons sz_3 (.cons sz_3 (.cons sz_3 (.nil))))))⟩
theorem plc_23 : ∃ fs, Tryz.prog.underlying 23 = some (.struct fs.toArray) ∧ Plc Tryz.prog fs [(0, 1), (1, 1), (2, 1), (3, 1), (4, 1), (5, 1)] := ⟨[_, _, _, _, _, _], Tryz.underlying23, .cons sz_3 (.cons sz_3 (.cons sz_3 (.cons sz_3 (.cons sz_3 (.cons sz_3 (.nil))))))⟩
theorem eq_23 {d : Nat} (a0 b0 : Int) (a1 b1 : Int) (a2 b2 : Int) (a3 b3 : Int) (a4 b4 : Int) (a5 b5 : Int) : EqIn Tryz.prog (d + 2) 23 (.agg [.int .i64 a0, .int .i64 a1, .int .i64 a2, .int .i64 a3, .int .i64 a4, .int .i64 a5].toArray) (.agg [.int .i64 b0, .int .i64 b1, .int .i64 b2, .int .i64 b3, .int .i64 b4, .int .i64 b5].toArray) (decide (a0 = b0) && (decide (a1 = b1) && (decide (a2 = b2) && (decide (a3 = b3) && (decide (a4 = b4) && (decide (a5 = b5) && true)))))) := eq_st Tryz.underlying23 Tryz.stoodInHeld23 (vs := [.int .i64 a0, .int .i64 a1, .int .i64 a2, .int .i64 a3, .int .i64 a4, .int .i64 a5]) (us := [.int .i64 b0, .int .i64 b1, .int .i64 b2, .int .i64 b3, .int .i64 b4, .int .i64 b5]) (eqf_p rfl pl_3 rfl rfl (eq_i Tryz.underlying3) (eqf_p rfl pl_3 rfl rfl (eq_i Tryz.underlying3) (eqf_p rfl pl_3 rfl rfl (eq_i Tryz.underlying3) (eqf_p rfl pl_3 rfl rfl (eq_i Tryz.underlying3) (eqf_p rfl pl_3 rfl rfl (eq_i Tryz.underlying3) (eqf_p rfl pl_3 rfl rfl (eq_i Tryz.underlying3) (eqf_nil)))))))
theorem plc_29 : ∃ fs, Tryz.prog.underlying 29 = some (.struct fs.toArray) ∧ Plc Tryz.prog fs [(0, 1), (1, 1), (2, 1), (3, 1), (4, 1), (5, 1)] := ⟨[_, _, _, _, _, _], Tryz.underlying29, .cons sz_3 (.cons sz_3 (.cons sz_3 (.cons sz_3 (.cons sz_3 (.cons sz_3 (.nil))))))⟩
theorem plc_30 : ∃ fs, Tryz.prog.underlying 30 = some (.struct fs.toArray) ∧ Plc Tryz.prog fs [(0, 1), (1, 1), (2, 1), (3, 1), (4, 1), (5, 1)] := ⟨[_, _, _, _, _, _], Tryz.underlying30, .cons sz_3 (.cons sz_3 (.cons sz_3 (.cons sz_3 (.cons sz_3 (.cons sz_3 (.nil))))))⟩
theorem eq_30 {d : Nat} (a0 b0 : Int) (a1 b1 : Int) (a2 b2 : Int) (a3 b3 : Int) (a4 b4 : Int) (a5 b5 : Int) : EqIn Tryz.prog (d + 2) 30 (.agg [.int .i64 a0, .int .i64 a1, .int .i64 a2, .int .i64 a3, .int .i64 a4, .int .i64 a5].toArray) (.agg [.int .i64 b0, .int .i64 b1, .int .i64 b2, .int .i64 b3, .int .i64 b4, .int .i64 b5].toArray) (decide (a0 = b0) && (decide (a1 = b1) && (decide (a2 = b2) && (decide (a3 = b3) && (decide (a4 = b4) && (decide (a5 = b5) && true)))))) := eq_st Tryz.underlying30 Tryz.stoodInHeld30 (vs := [.int .i64 a0, .int .i64 a1, .int .i64 a2, .int .i64 a3, .int .i64 a4, .int .i64 a5]) (us := [.int .i64 b0, .int .i64 b1, .int .i64 b2, .int .i64 b3, .int .i64 b4, .int .i64 b5]) (eqf_p rfl pl_3 rfl rfl (eq_i Tryz.underlying3) (eqf_p rfl pl_3 rfl rfl (eq_i Tryz.underlying3) (eqf_p rfl pl_3 rfl rfl (eq_i Tryz.underlying3) (eqf_p rfl pl_3 rfl rfl (eq_i Tryz.underlying3) (eqf_p rfl pl_3 rfl rfl (eq_i Tryz.underlying3) (eqf_p rfl pl_3 rfl rfl (eq_i Tryz.underlying3) (eqf_nil)))))))
theorem plc_39 : ∃ fs, Tryz.prog.underlying 39 = some (.struct fs.toArray) ∧ Plc Tryz.prog fs [(0, 1), (1, 1), (2, 1)] := ⟨[_, _, _], Tryz.underlying39, .cons sz_3 (.cons sz_3 (.cons sz_9 (.nil)))⟩
theorem plc_40 : ∃ fs, Tryz.prog.underlying 40 = some (.struct fs.toArray) ∧ Plc Tryz.prog fs [(0, 1), (1, 1), (2, 1)] := ⟨[_, _, _], Tryz.underlying40, .cons sz_3 (.cons sz_3 (.cons sz_9 (.nil)))⟩
theorem eq_40 {d : Nat} (a0 b0 : Int) (a1 b1 : Int) (a2 b2 : ByteArray) : EqIn Tryz.prog (d + 2) 40 (.agg [.int .i64 a0, .int .i64 a1, .string a2].toArray) (.agg [.int .i64 b0, .int .i64 b1, .string b2].toArray) (decide (a0 = b0) && (decide (a1 = b1) && (decide (a2 = b2) && true))) := eq_st Tryz.underlying40 Tryz.stoodInHeld40 (vs := [.int .i64 a0, .int .i64 a1, .string a2]) (us := [.int .i64 b0, .int .i64 b1, .string b2]) (eqf_p rfl pl_3 rfl rfl (eq_i Tryz.underlying3) (eqf_p rfl pl_3 rfl rfl (eq_i Tryz.underlying3) (eqf_p rfl pl_9 rfl rfl (eq_s Tryz.underlying9) (eqf_nil))))
theorem plc_41 : ∃ fs, Tryz.prog.underlying 41 = some (.struct fs.toArray) ∧ Plc Tryz.prog fs [(0, 1), (1, 1), (2, 1), (3, 1)] := ⟨[_, _, _, _], Tryz.underlying41, .cons sz_3 (.cons sz_3 (.cons sz_3 (.cons sz_9 (.nil))))⟩
theorem plc_42 : ∃ fs, Tryz.prog.underlying 42 = some (.struct fs.toArray) ∧ Plc Tryz.prog fs [(0, 1), (1, 1), (2, 1), (3, 1)] := ⟨[_, _, _, _], Tryz.underlying42, .cons sz_3 (.cons sz_3 (.cons sz_3 (.cons sz_9 (.nil))))⟩
theorem eq_42 {d : Nat} (a0 b0 : Int) (a1 b1 : Int) (a2 b2 : Int) (a3 b3 : ByteArray) : EqIn Tryz.prog (d + 2) 42 (.agg [.int .i64 a0, .int .i64 a1, .int .i64 a2, .string a3].toArray) (.agg [.int .i64 b0, .int .i64 b1, .int .i64 b2, .string b3].toArray) (decide (a0 = b0) && (decide (a1 = b1) && (decide (a2 = b2) && (decide (a3 = b3) && true)))) := eq_st Tryz.underlying42 Tryz.stoodInHeld42 (vs := [.int .i64 a0, .int .i64 a1, .int .i64 a2, .string a3]) (us := [.int .i64 b0, .int .i64 b1, .int .i64 b2, .string b3]) (eqf_p rfl pl_3 rfl rfl (eq_i Tryz.underlying3) (eqf_p rfl pl_3 rfl rfl (eq_i Tryz.underlying3) (eqf_p rfl pl_3 rfl rfl (eq_i Tryz.underlying3) (eqf_p rfl pl_9 rfl rfl (eq_s Tryz.underlying9) (eqf_nil)))))
theorem plc_47 : ∃ fs, Tryz.prog.underlying 47 = some (.struct fs.toArray) ∧ Plc Tryz.prog fs [(0, 1), (1, 1), (2, 1)] := ⟨[_, _, _], Tryz.underlying47, .cons sz_3 (.cons sz_3 (.cons sz_46 (.nil)))⟩
theorem plc_48 : ∃ fs, Tryz.prog.underlying 48 = some (.struct fs.toArray) ∧ Plc Tryz.prog fs [(0, 1), (1, 1), (2, 1)] := ⟨[_, _, _], Tryz.underlying48, .cons sz_3 (.cons sz_3 (.cons sz_46 (.nil)))⟩
theorem plc_50 : ∃ fs, Tryz.prog.underlying 50 = some (.struct fs.toArray) ∧ Plc Tryz.prog fs [(0, 1), (1, 1)] := ⟨[_, _], Tryz.underlying50, .cons sz_24 (.cons sz_9 (.nil))⟩
theorem plc_51 : ∃ fs, Tryz.prog.underlying 51 = some (.struct fs.toArray) ∧ Plc Tryz.prog fs [(0, 1), (1, 1)] := ⟨[_, _], Tryz.underlying51, .cons sz_24 (.cons sz_9 (.nil))⟩
theorem plc_58 : ∃ fs, Tryz.prog.underlying 58 = some (.struct fs.toArray) ∧ Plc Tryz.prog fs [(0, 1), (1, 1), (2, 1), (3, 1)] := ⟨[_, _, _, _], Tryz.underlying58, .cons sz_9 (.cons sz_3 (.cons sz_2 (.cons sz_9 (.nil))))⟩
theorem plc_59 : ∃ fs, Tryz.prog.underlying 59 = some (.struct fs.toArray) ∧ Plc Tryz.prog fs [(0, 1), (1, 1), (2, 1), (3, 1)] := ⟨[_, _, _, _], Tryz.underlying59, .cons sz_9 (.cons sz_3 (.cons sz_2 (.cons sz_9 (.nil))))⟩
theorem eq_59 {d : Nat} (a0 b0 : ByteArray) (a1 b1 : Int) (a2 b2 : Int) (a3 b3 : ByteArray) : EqIn Tryz.prog (d + 2) 59 (.agg [.string a0, .int .i64 a1, .int .i64 a2, .string a3].toArray) (.agg [.string b0, .int .i64 b1, .int .i64 b2, .string b3].toArray) (decide (a0 = b0) && (decide (a1 = b1) && (decide (a2 = b2) && (decide (a3 = b3) && true)))) := eq_st Tryz.underlying59 Tryz.stoodInHeld59 (vs := [.string a0, .int .i64 a1, .int .i64 a2, .string a3]) (us := [.string b0, .int .i64 b1, .int .i64 b2, .string b3]) (eqf_p rfl pl_9 rfl rfl (eq_s Tryz.underlying9) (eqf_p rfl pl_3 rfl rfl (eq_i Tryz.underlying3) (eqf_p rfl pl_2 rfl rfl (eq_i Tryz.underlying2) (eqf_p rfl pl_9 rfl rfl (eq_s Tryz.underlying9) (eqf_nil)))))
theorem plc_60 : ∃ fs, Tryz.prog.underlying 60 = some (.struct fs.toArray) ∧ Plc Tryz.prog fs [(0, 1), (1, 4), (5, 1)] := ⟨[_, _, _], Tryz.underlying60, .cons sz_3 (.cons sz_59 (.cons sz_9 (.nil)))⟩
theorem plc_61 : ∃ fs, Tryz.prog.underlying 61 = some (.struct fs.toArray) ∧ Plc Tryz.prog fs [(0, 1), (1, 4), (5, 1)] := ⟨[_, _, _], Tryz.underlying61, .cons sz_3 (.cons sz_59 (.cons sz_9 (.nil)))⟩
theorem eq_61 {d : Nat} (a0 b0 : Int) (a1 b1 : ByteArray) (a2 b2 : Int) (a3 b3 : Int) (a4 b4 : ByteArray) (a5 b5 : ByteArray) : EqIn Tryz.prog (d + 3) 61 (.agg [.int .i64 a0, .string a1, .int .i64 a2, .int .i64 a3, .string a4, .string a5].toArray) (.agg [.int .i64 b0, .string b1, .int .i64 b2, .int .i64 b3, .string b4, .string b5].toArray) (decide (a0 = b0) && ((decide (a1 = b1) && (decide (a2 = b2) && (decide (a3 = b3) && (decide (a4 = b4) && true)))) && (decide (a5 = b5) && true))) := eq_st Tryz.underlying61 Tryz.stoodInHeld61 (vs := [.int .i64 a0, .string a1, .int .i64 a2, .int .i64 a3, .string a4, .string a5]) (us := [.int .i64 b0, .string b1, .int .i64 b2, .int .i64 b3, .string b4, .string b5]) (eqf_p rfl pl_3 rfl rfl (eq_i Tryz.underlying3) (eqf_st rfl st_59 sz_59 rfl rfl (eq_59 _ _ _ _ _ _ _ _) (eqf_p rfl pl_9 rfl rfl (eq_s Tryz.underlying9) (eqf_nil))))
theorem plc_64 : ∃ fs, Tryz.prog.underlying 64 = some (.struct fs.toArray) ∧ Plc Tryz.prog fs [(0, 1), (1, 1), (2, 1)] := ⟨[_, _, _], Tryz.underlying64, .cons sz_3 (.cons sz_2 (.cons sz_9 (.nil)))⟩
theorem plc_65 : ∃ fs, Tryz.prog.underlying 65 = some (.struct fs.toArray) ∧ Plc Tryz.prog fs [(0, 1), (1, 1), (2, 1)] := ⟨[_, _, _], Tryz.underlying65, .cons sz_3 (.cons sz_2 (.cons sz_9 (.nil)))⟩
theorem eq_65 {d : Nat} (a0 b0 : Int) (a1 b1 : Int) (a2 b2 : ByteArray) : EqIn Tryz.prog (d + 2) 65 (.agg [.int .i64 a0, .int .i64 a1, .string a2].toArray) (.agg [.int .i64 b0, .int .i64 b1, .string b2].toArray) (decide (a0 = b0) && (decide (a1 = b1) && (decide (a2 = b2) && true))) := eq_st Tryz.underlying65 Tryz.stoodInHeld65 (vs := [.int .i64 a0, .int .i64 a1, .string a2]) (us := [.int .i64 b0, .int .i64 b1, .string b2]) (eqf_p rfl pl_3 rfl rfl (eq_i Tryz.underlying3) (eqf_p rfl pl_2 rfl rfl (eq_i Tryz.underlying2) (eqf_p rfl pl_9 rfl rfl (eq_s Tryz.underlying9) (eqf_nil))))
theorem plc_75 : ∃ fs, Tryz.prog.underlying 75 = some (.struct fs.toArray) ∧ Plc Tryz.prog fs [(0, 6), (6, 1), (7, 1), (8, 1), (9, 1), (10, 1)] := ⟨[_, _, _, _, _, _], Tryz.underlying75, .cons sz_23 (.cons sz_3 (.cons sz_72 (.cons sz_73 (.cons sz_74 (.cons sz_3 (.nil))))))⟩
theorem plc_76 : ∃ fs, Tryz.prog.underlying 76 = some (.struct fs.toArray) ∧ Plc Tryz.prog fs [(0, 6), (6, 1), (7, 1), (8, 1), (9, 1), (10, 1)] := ⟨[_, _, _, _, _, _], Tryz.underlying76, .cons sz_23 (.cons sz_3 (.cons sz_72 (.cons sz_73 (.cons sz_74 (.cons sz_3 (.nil))))))⟩
theorem plc_84 : ∃ fs, Tryz.prog.underlying 84 = some (.struct fs.toArray) ∧ Plc Tryz.prog fs [(0, 1), (1, 1), (2, 1), (3, 1), (4, 1), (5, 1), (6, 1)] := ⟨[_, _, _, _, _, _, _], Tryz.underlying84, .cons sz_72 (.cons sz_3 (.cons sz_3 (.cons sz_3 (.cons sz_32 (.cons sz_32 (.cons sz_46 (.nil)))))))⟩
theorem plc_85 : ∃ fs, Tryz.prog.underlying 85 = some (.struct fs.toArray) ∧ Plc Tryz.prog fs [(0, 1), (1, 1), (2, 1), (3, 1), (4, 1), (5, 1), (6, 1)] := ⟨[_, _, _, _, _, _, _], Tryz.underlying85, .cons sz_72 (.cons sz_3 (.cons sz_3 (.cons sz_3 (.cons sz_32 (.cons sz_32 (.cons sz_46 (.nil)))))))⟩
theorem plc_86 : ∃ fs, Tryz.prog.underlying 86 = some (.struct fs.toArray) ∧ Plc Tryz.prog fs [(0, 1), (1, 1), (2, 1)] := ⟨[_, _, _], Tryz.underlying86, .cons sz_3 (.cons sz_3 (.cons sz_32 (.nil)))⟩
theorem plc_87 : ∃ fs, Tryz.prog.underlying 87 = some (.struct fs.toArray) ∧ Plc Tryz.prog fs [(0, 1), (1, 1), (2, 1)] := ⟨[_, _, _], Tryz.underlying87, .cons sz_3 (.cons sz_3 (.cons sz_32 (.nil)))⟩
theorem plc_96 : ∃ fs, Tryz.prog.underlying 96 = some (.struct fs.toArray) ∧ Plc Tryz.prog fs [(0, 6), (6, 1), (7, 1), (8, 1), (9, 1), (10, 1)] := ⟨[_, _, _, _, _, _], Tryz.underlying96, .cons sz_23 (.cons sz_3 (.cons sz_93 (.cons sz_94 (.cons sz_95 (.cons sz_3 (.nil))))))⟩
theorem plc_97 : ∃ fs, Tryz.prog.underlying 97 = some (.struct fs.toArray) ∧ Plc Tryz.prog fs [(0, 6), (6, 1), (7, 1), (8, 1), (9, 1), (10, 1)] := ⟨[_, _, _, _, _, _], Tryz.underlying97, .cons sz_23 (.cons sz_3 (.cons sz_93 (.cons sz_94 (.cons sz_95 (.cons sz_3 (.nil))))))⟩
theorem plc_119 : ∃ fs, Tryz.prog.underlying 119 = some (.struct fs.toArray) ∧ Plc Tryz.prog fs [(0, 1), (1, 1), (2, 1)] := ⟨[_, _, _], Tryz.underlying119, .cons sz_9 (.cons sz_3 (.cons sz_3 (.nil)))⟩
theorem plc_120 : ∃ fs, Tryz.prog.underlying 120 = some (.struct fs.toArray) ∧ Plc Tryz.prog fs [(0, 1), (1, 1), (2, 1)] := ⟨[_, _, _], Tryz.underlying120, .cons sz_9 (.cons sz_3 (.cons sz_3 (.nil)))⟩
theorem eq_120 {d : Nat} (a0 b0 : ByteArray) (a1 b1 : Int) (a2 b2 : Int) : EqIn Tryz.prog (d + 2) 120 (.agg [.string a0, .int .i64 a1, .int .i64 a2].toArray) (.agg [.string b0, .int .i64 b1, .int .i64 b2].toArray) (decide (a0 = b0) && (decide (a1 = b1) && (decide (a2 = b2) && true))) := eq_st Tryz.underlying120 Tryz.stoodInHeld120 (vs := [.string a0, .int .i64 a1, .int .i64 a2]) (us := [.string b0, .int .i64 b1, .int .i64 b2]) (eqf_p rfl pl_9 rfl rfl (eq_s Tryz.underlying9) (eqf_p rfl pl_3 rfl rfl (eq_i Tryz.underlying3) (eqf_p rfl pl_3 rfl rfl (eq_i Tryz.underlying3) (eqf_nil))))
theorem plc_139 : ∃ fs, Tryz.prog.underlying 139 = some (.struct fs.toArray) ∧ Plc Tryz.prog fs [(0, 1), (1, 1), (2, 1), (3, 1), (4, 1), (5, 1)] := ⟨[_, _, _, _, _, _], Tryz.underlying139, .cons sz_3 (.cons sz_137 (.cons sz_138 (.cons sz_3 (.cons sz_3 (.cons sz_4 (.nil))))))⟩
theorem plc_140 : ∃ fs, Tryz.prog.underlying 140 = some (.struct fs.toArray) ∧ Plc Tryz.prog fs [(0, 1), (1, 1), (2, 1), (3, 1), (4, 1), (5, 1)] := ⟨[_, _, _, _, _, _], Tryz.underlying140, .cons sz_3 (.cons sz_137 (.cons sz_138 (.cons sz_3 (.cons sz_3 (.cons sz_4 (.nil))))))⟩
theorem plc_151 : ∃ fs, Tryz.prog.underlying 151 = some (.struct fs.toArray) ∧ Plc Tryz.prog fs [(0, 6), (6, 1), (7, 1)] := ⟨[_, _, _], Tryz.underlying151, .cons sz_23 (.cons sz_148 (.cons sz_150 (.nil)))⟩
theorem plc_152 : ∃ fs, Tryz.prog.underlying 152 = some (.struct fs.toArray) ∧ Plc Tryz.prog fs [(0, 6), (6, 1), (7, 1)] := ⟨[_, _, _], Tryz.underlying152, .cons sz_23 (.cons sz_148 (.cons sz_150 (.nil)))⟩
theorem plc_156 : ∃ fs, Tryz.prog.underlying 156 = some (.struct fs.toArray) ∧ Plc Tryz.prog fs [(0, 1), (1, 1)] := ⟨[_, _], Tryz.underlying156, .cons sz_94 (.cons sz_154 (.nil))⟩
theorem plc_157 : ∃ fs, Tryz.prog.underlying 157 = some (.struct fs.toArray) ∧ Plc Tryz.prog fs [(0, 1), (1, 1)] := ⟨[_, _], Tryz.underlying157, .cons sz_94 (.cons sz_154 (.nil))⟩
theorem plc_162 : ∃ fs, Tryz.prog.underlying 162 = some (.struct fs.toArray) ∧ Plc Tryz.prog fs [(0, 1), (1, 1)] := ⟨[_, _], Tryz.underlying162, .cons sz_160 (.cons sz_161 (.nil))⟩
theorem plc_163 : ∃ fs, Tryz.prog.underlying 163 = some (.struct fs.toArray) ∧ Plc Tryz.prog fs [(0, 1), (1, 1)] := ⟨[_, _], Tryz.underlying163, .cons sz_160 (.cons sz_161 (.nil))⟩
theorem plc_164 : ∃ fs, Tryz.prog.underlying 164 = some (.struct fs.toArray) ∧ Plc Tryz.prog fs [(0, 2), (2, 1), (3, 1), (4, 1), (5, 1)] := ⟨[_, _, _, _, _], Tryz.underlying164, .cons sz_163 (.cons sz_3 (.cons sz_3 (.cons sz_3 (.cons sz_4 (.nil)))))⟩
theorem plc_165 : ∃ fs, Tryz.prog.underlying 165 = some (.struct fs.toArray) ∧ Plc Tryz.prog fs [(0, 2), (2, 1), (3, 1), (4, 1), (5, 1)] := ⟨[_, _, _, _, _], Tryz.underlying165, .cons sz_163 (.cons sz_3 (.cons sz_3 (.cons sz_3 (.cons sz_4 (.nil)))))⟩
theorem plc_167 : ∃ fs, Tryz.prog.underlying 167 = some (.struct fs.toArray) ∧ Plc Tryz.prog fs [(0, 1), (1, 1), (2, 1), (3, 1), (4, 1), (5, 1), (6, 1)] := ⟨[_, _, _, _, _, _, _], Tryz.underlying167, .cons sz_93 (.cons sz_3 (.cons sz_3 (.cons sz_3 (.cons sz_32 (.cons sz_32 (.cons sz_46 (.nil)))))))⟩
theorem plc_168 : ∃ fs, Tryz.prog.underlying 168 = some (.struct fs.toArray) ∧ Plc Tryz.prog fs [(0, 1), (1, 1), (2, 1), (3, 1), (4, 1), (5, 1), (6, 1)] := ⟨[_, _, _, _, _, _, _], Tryz.underlying168, .cons sz_93 (.cons sz_3 (.cons sz_3 (.cons sz_3 (.cons sz_32 (.cons sz_32 (.cons sz_46 (.nil)))))))⟩
theorem plc_169 : ∃ fs, Tryz.prog.underlying 169 = some (.struct fs.toArray) ∧ Plc Tryz.prog fs [(0, 1), (1, 1), (2, 1)] := ⟨[_, _, _], Tryz.underlying169, .cons sz_3 (.cons sz_3 (.cons sz_32 (.nil)))⟩
theorem plc_170 : ∃ fs, Tryz.prog.underlying 170 = some (.struct fs.toArray) ∧ Plc Tryz.prog fs [(0, 1), (1, 1), (2, 1)] := ⟨[_, _, _], Tryz.underlying170, .cons sz_3 (.cons sz_3 (.cons sz_32 (.nil)))⟩
theorem plc_174 : ∃ fs, Tryz.prog.underlying 174 = some (.struct fs.toArray) ∧ Plc Tryz.prog fs [(0, 1), (1, 1)] := ⟨[_, _], Tryz.underlying174, .cons sz_172 (.cons sz_173 (.nil))⟩
theorem plc_175 : ∃ fs, Tryz.prog.underlying 175 = some (.struct fs.toArray) ∧ Plc Tryz.prog fs [(0, 1), (1, 1)] := ⟨[_, _], Tryz.underlying175, .cons sz_172 (.cons sz_173 (.nil))⟩
theorem plc_176 : ∃ fs, Tryz.prog.underlying 176 = some (.struct fs.toArray) ∧ Plc Tryz.prog fs [(0, 2), (2, 1)] := ⟨[_, _], Tryz.underlying176, .cons sz_175 (.cons sz_4 (.nil))⟩
theorem plc_177 : ∃ fs, Tryz.prog.underlying 177 = some (.struct fs.toArray) ∧ Plc Tryz.prog fs [(0, 2), (2, 1)] := ⟨[_, _], Tryz.underlying177, .cons sz_175 (.cons sz_4 (.nil))⟩
theorem plc_184 : ∃ fs, Tryz.prog.underlying 184 = some (.struct fs.toArray) ∧ Plc Tryz.prog fs [(0, 1), (1, 1)] := ⟨[_, _], Tryz.underlying184, .cons sz_3 (.cons sz_9 (.nil))⟩
theorem plc_185 : ∃ fs, Tryz.prog.underlying 185 = some (.struct fs.toArray) ∧ Plc Tryz.prog fs [(0, 1), (1, 1)] := ⟨[_, _], Tryz.underlying185, .cons sz_3 (.cons sz_9 (.nil))⟩
theorem eq_185 {d : Nat} (a0 b0 : Int) (a1 b1 : ByteArray) : EqIn Tryz.prog (d + 2) 185 (.agg [.int .i64 a0, .string a1].toArray) (.agg [.int .i64 b0, .string b1].toArray) (decide (a0 = b0) && (decide (a1 = b1) && true)) := eq_st Tryz.underlying185 Tryz.stoodInHeld185 (vs := [.int .i64 a0, .string a1]) (us := [.int .i64 b0, .string b1]) (eqf_p rfl pl_3 rfl rfl (eq_i Tryz.underlying3) (eqf_p rfl pl_9 rfl rfl (eq_s Tryz.underlying9) (eqf_nil)))
theorem plc_188 : ∃ fs, Tryz.prog.underlying 188 = some (.struct fs.toArray) ∧ Plc Tryz.prog fs [(0, 1), (1, 1), (2, 1)] := ⟨[_, _, _], Tryz.underlying188, .cons sz_9 (.cons sz_3 (.cons sz_34 (.nil)))⟩
theorem plc_189 : ∃ fs, Tryz.prog.underlying 189 = some (.struct fs.toArray) ∧ Plc Tryz.prog fs [(0, 1), (1, 1), (2, 1)] := ⟨[_, _, _], Tryz.underlying189, .cons sz_9 (.cons sz_3 (.cons sz_34 (.nil)))⟩
theorem eq_189 {d : Nat} (a0 b0 : ByteArray) (a1 b1 : Int) (a2 b2 : Int) : EqIn Tryz.prog (d + 2) 189 (.agg [.string a0, .int .i64 a1, .int .i64 a2].toArray) (.agg [.string b0, .int .i64 b1, .int .i64 b2].toArray) (decide (a0 = b0) && (decide (a1 = b1) && (decide (a2 = b2) && true))) := eq_st Tryz.underlying189 Tryz.stoodInHeld189 (vs := [.string a0, .int .i64 a1, .int .i64 a2]) (us := [.string b0, .int .i64 b1, .int .i64 b2]) (eqf_p rfl pl_9 rfl rfl (eq_s Tryz.underlying9) (eqf_p rfl pl_3 rfl rfl (eq_i Tryz.underlying3) (eqf_p rfl pl_34 rfl rfl (eq_i Tryz.underlying34) (eqf_nil))))
theorem plc_201 : ∃ fs, Tryz.prog.underlying 201 = some (.struct fs.toArray) ∧ Plc Tryz.prog fs [(0, 1), (1, 1), (2, 1)] := ⟨[_, _, _], Tryz.underlying201, .cons sz_3 (.cons sz_83 (.cons sz_3 (.nil)))⟩
theorem plc_202 : ∃ fs, Tryz.prog.underlying 202 = some (.struct fs.toArray) ∧ Plc Tryz.prog fs [(0, 1), (1, 1), (2, 1)] := ⟨[_, _, _], Tryz.underlying202, .cons sz_3 (.cons sz_83 (.cons sz_3 (.nil)))⟩
theorem plc_205 : ∃ fs, Tryz.prog.underlying 205 = some (.struct fs.toArray) ∧ Plc Tryz.prog fs [(0, 1), (1, 1), (2, 1), (3, 1)] := ⟨[_, _, _, _], Tryz.underlying205, .cons sz_3 (.cons sz_3 (.cons sz_83 (.cons sz_3 (.nil))))⟩
theorem plc_206 : ∃ fs, Tryz.prog.underlying 206 = some (.struct fs.toArray) ∧ Plc Tryz.prog fs [(0, 1), (1, 1), (2, 1), (3, 1)] := ⟨[_, _, _, _], Tryz.underlying206, .cons sz_3 (.cons sz_3 (.cons sz_83 (.cons sz_3 (.nil))))⟩
theorem plc_213 : ∃ fs, Tryz.prog.underlying 213 = some (.struct fs.toArray) ∧ Plc Tryz.prog fs [(0, 1), (1, 1), (2, 65)] := ⟨[_, _, _], Tryz.underlying213, .cons sz_3 (.cons sz_32 (.cons sz_212 (.nil)))⟩
theorem plc_214 : ∃ fs, Tryz.prog.underlying 214 = some (.struct fs.toArray) ∧ Plc Tryz.prog fs [(0, 1), (1, 1), (2, 65)] := ⟨[_, _, _], Tryz.underlying214, .cons sz_3 (.cons sz_32 (.cons sz_212 (.nil)))⟩
theorem plc_215 : ∃ fs, Tryz.prog.underlying 215 = some (.struct fs.toArray) ∧ Plc Tryz.prog fs [(0, 1)] := ⟨[_], Tryz.underlying215, .cons sz_3 (.nil)⟩
theorem plc_216 : ∃ fs, Tryz.prog.underlying 216 = some (.struct fs.toArray) ∧ Plc Tryz.prog fs [(0, 1)] := ⟨[_], Tryz.underlying216, .cons sz_3 (.nil)⟩
theorem eq_216 {d : Nat} (a0 b0 : Int) : EqIn Tryz.prog (d + 2) 216 (.agg [.int .i64 a0].toArray) (.agg [.int .i64 b0].toArray) (decide (a0 = b0) && true) := eq_st Tryz.underlying216 Tryz.stoodInHeld216 (vs := [.int .i64 a0]) (us := [.int .i64 b0]) (eqf_p rfl pl_3 rfl rfl (eq_i Tryz.underlying3) (eqf_nil))
theorem plc_218 : ∃ fs, Tryz.prog.underlying 218 = some (.struct fs.toArray) ∧ Plc Tryz.prog fs [(0, 1), (1, 1), (2, 16), (18, 1), (19, 1)] := ⟨[_, _, _, _, _], Tryz.underlying218, .cons sz_3 (.cons sz_3 (.cons sz_217 (.cons sz_3 (.cons sz_3 (.nil)))))⟩
theorem plc_219 : ∃ fs, Tryz.prog.underlying 219 = some (.struct fs.toArray) ∧ Plc Tryz.prog fs [(0, 1), (1, 1), (2, 16), (18, 1), (19, 1)] := ⟨[_, _, _, _, _], Tryz.underlying219, .cons sz_3 (.cons sz_3 (.cons sz_217 (.cons sz_3 (.cons sz_3 (.nil)))))⟩
theorem plc_220 : ∃ fs, Tryz.prog.underlying 220 = some (.struct fs.toArray) ∧ Plc Tryz.prog fs [(0, 1), (1, 1), (2, 1), (3, 1)] := ⟨[_, _, _, _], Tryz.underlying220, .cons sz_3 (.cons sz_3 (.cons sz_3 (.cons sz_182 (.nil))))⟩
theorem plc_221 : ∃ fs, Tryz.prog.underlying 221 = some (.struct fs.toArray) ∧ Plc Tryz.prog fs [(0, 1), (1, 1), (2, 1), (3, 1)] := ⟨[_, _, _, _], Tryz.underlying221, .cons sz_3 (.cons sz_3 (.cons sz_3 (.cons sz_182 (.nil))))⟩
theorem plc_257 : ∃ fs, Tryz.prog.underlying 257 = some (.struct fs.toArray) ∧ Plc Tryz.prog fs [(0, 1)] := ⟨[_], Tryz.underlying257, .cons sz_256 (.nil)⟩
theorem plc_258 : ∃ fs, Tryz.prog.underlying 258 = some (.struct fs.toArray) ∧ Plc Tryz.prog fs [(0, 1)] := ⟨[_], Tryz.underlying258, .cons sz_256 (.nil)⟩
theorem wide_ : Tryz.prog.follows .mixedOrders = true := by kernel_rfl
end Go.Proofs.YtndahppmjdbifaaGreatDoor.Eng

set_option linter.unusedVariables false
set_option linter.unusedSimpArgs false
namespace Go.Proofs.YtndahppmjdbifaaGreatDoor.Pre
open Go Go.Proofs Go.Proofs.YtndahppmjdbifaaGreatDoor.Eng

/-- prefix.bits holds what it was laid with -/
def Bits (M : Mem) : Prop := ∃ T fz, M 0 = some (.cells #[.int .u64 6, .int .u64 14, .int .u64 30, .int .u64 62] T fz)
theorem Bits.mono {M M' : Mem} (h : Bits M) (hm : Mle M M') : Bits M' := by obtain ⟨T, fz, h⟩ := h; exact ⟨T, fz, hm.1 _ _ h⟩
section
variable {M : Mem} {w : World} {Ls : List Chunk}

theorem spelling_c (hG : Bits M) (n : Nat) (hn : n < 18446744073709551616) (hS : St M w Ls) :
    CallsR Tryz.prog 197 [.int .u64 n].toArray w fun v w' => v = .int .i64 (spell n) ∧ St M w' Ls := by
  obtain ⟨TG, fz, hG⟩ := hG
  have hce := hS.immc (j := 0) hG (vs := [.int .u64 6, .int .u64 14, .int .u64 30, .int .u64 62]) rfl
  refine calls_of (c := _) (rs := _) (n := 16) Tryz.func197 rfl rfl rfl rfl rfl ?_
  refine wc_seq ?_
  refine wc_region ?_
  refine wl (y_assign rfl) rfl ?_
  refine wl_nil ?_
  refine wc_seq ?_
  refine wc_seq ?_
  refine wc_region ?_
  refine wl (y_loadArr Tryz.underlying263 sz_263 rfl hce rfl) rfl ?_
  refine wl (y_move rfl) rfl ?_
  refine wl_nil ?_
  refine wc_block ?_
  refine wc_loop (α := Nat) (fun i => [(0, .int .u64 n), (5, .agg [.int .u64 6, .int .u64 14, .int .u64 30, .int .u64 62].toArray), (6, .int .i64 i)]) (fun i w => i ≤ 4 ∧ (∀ j, j < i → 2 ^ (8 * 2 ^ j - 2) ≤ n) ∧ St M w Ls) (fun i => 4 - i) 0 (sub_cons rfl (sub_cons rfl (sub_cons rfl sub_nil))) ⟨by omega, (fun j h => absurd h (by omega)), hS⟩ ?_
  rintro i w ⟨hi, hlow, hS⟩
  refine wc_seq ?_
  refine wc_region ?_
  refine wl (y_lss rfl rfl) rfl ?_
  refine wl_nil ?_
  refine wc_seq ?_
  refine wc_if rfl (fun hc7 => ?_) (fun hc7 => ?_)
  · try simp only [zq1, zq2, zq3, zq4, zq5, zq6, zq7] at hc7
    refine wc_skip ?_
    refine wc_seq ?_
    refine wc_block ?_
    refine wc_seq ?_
    have hi4 : i < 4 := by omega
    have hv : ([.int .u64 6, .int .u64 14, .int .u64 30, .int .u64 62] : List Value)[((i : Int)).toNat]? = some (.int .u64 ((8 * 2 ^ i - 2 : Nat) : Int)) := by
      rcases i with _ | _ | _ | _ | i
      · rfl
      · rfl
      · rfl
      · rfl
      · omega
    have hk : 8 * 2 ^ i - 2 ≤ 64 := by
      have : 2 ^ i ≤ 2 ^ 3 := Nat.pow_le_pow_right (by omega) (by omega)
      omega
    refine wc_region ?_
    refine wl (y_move rfl) rfl ?_
    refine wl (y_idx_ar Tryz.underlying263 pl_252 sz_252 rfl rfl (by omega) (by omega) hv) rfl ?_
    refine wl (y_assign rfl) rfl ?_
    refine wl (y_assign rfl) rfl ?_
    refine wl_nil ?_
    refine wc_seq ?_
    refine wc_region ?_
    refine wl (y_move rfl) rfl ?_
    refine wl (y_move rfl) rfl ?_
    refine wl (y_shr rfl rfl (by omega) (natshr64 n _ hk)) rfl ?_
    refine wl (y_eql rfl rfl) rfl ?_
    refine wl_nil ?_
    refine wc_if rfl (fun hc13 => ?_) (fun hc13 => ?_)
    · try simp only [zq1, zq2, zq3, zq4, zq5, zq6, zq7] at hc13
      have hs : spell n = i := spell_eq n i hi4 (by
        have hd : n / 2 ^ (8 * 2 ^ i - 2) = 0 := by omega
        rw [Nat.div_eq_zero_iff] at hd
        rcases hd with hd | hd
        · have : 0 < 2 ^ (8 * 2 ^ i - 2) := Nat.pow_pos (by omega)
          omega
        · exact hd) hlow
      rw [hs]
      refine wc_seq ?_
      refine wc_region ?_
      refine wl (y_move rfl) rfl ?_
      refine wl (y_assign rfl) rfl ?_
      refine wl_nil ?_
      refine wc_ret ?_
      refine wret (vs := [_]) (.tmp rfl .nil) ?_
      exact ⟨rfl, hS⟩
    · try simp only [zq1, zq2, zq3, zq4, zq5, zq6, zq7] at hc13
      have hge : 2 ^ (8 * 2 ^ i - 2) ≤ n := by
        rcases Nat.lt_or_ge n (2 ^ (8 * 2 ^ i - 2)) with h | h
        · exact absurd (by rw [Nat.div_eq_of_lt h]; rfl) hc13
        · exact h
      have hlow' : ∀ j, j < i + 1 → 2 ^ (8 * 2 ^ j - 2) ≤ n := fun j hj => by
        rcases Nat.lt_or_ge j i with h | h
        · exact hlow j h
        · obtain rfl : j = i := by omega
          exact hge
      refine wc_skip ?_
      refine wc_region ?_
      refine wl (y_add rfl rfl (w64 (by omega) (by omega))) rfl ?_
      refine wl (y_move rfl) rfl ?_
      refine wl_nil ?_
      exact ⟨i + 1, by omega, sub_cons rfl (sub_cons rfl (sub_cons rfl sub_nil)), by omega, hlow', hS⟩
  · try simp only [zq1, zq2, zq3, zq4, zq5, zq6, zq7] at hc7
    obtain rfl : i = 4 := by omega
    have h62 := hlow 3 (by omega)
    rw [spell_4 n (by simpa using h62)]
    refine wc_exit ?_
    refine wc_seq ?_
    refine wc_region ?_
    refine wl (y_assign rfl) rfl ?_
    refine wl_nil ?_
    refine wc_ret ?_
    refine wret (vs := [_]) (.tmp rfl .nil) ?_
    exact ⟨rfl, hS⟩

theorem size_c (hG : Bits M) (n : Nat) (hn : n < 18446744073709551616) (hS : St M w Ls) :
    CallsR Tryz.prog 190 [.int .u64 n].toArray w fun v w' => v = .int .i64 (psize n) ∧ St M w' Ls := by
  refine calls_of (c := _) (rs := _) (n := 8) Tryz.func190 rfl rfl rfl rfl rfl ?_
  refine wc_seq ?_
  refine wc_region ?_
  refine wl (y_assign rfl) rfl ?_
  refine wl_nil ?_
  refine wc_seq ?_
  refine wc_seq ?_
  refine wc_region ?_
  refine wl (y_move rfl) rfl ?_
  refine wl (y_geq rfl rfl) rfl ?_
  refine wl_nil ?_
  refine wc_if rfl (fun hc4 => ?_) (fun hc4 => ?_)
  · try simp only [zq1, zq2, zq3, zq4, zq5, zq6, zq7] at hc4
    have e : psize n = 0 := by unfold psize; rw [if_neg (by omega)]
    rw [e]
    refine wc_seq ?_
    refine wc_region ?_
    refine wl (y_assign rfl) rfl ?_
    refine wl_nil ?_
    refine wc_ret ?_
    refine wret (vs := [_]) (.tmp rfl .nil) ?_
    exact ⟨rfl, hS⟩
  · try simp only [zq1, zq2, zq3, zq4, zq5, zq6, zq7] at hc4
    have hlt : n < 4611686018427387904 := by omega
    have hs4 := spell_lt n hlt
    have e : psize n = 2 ^ spell n := by unfold psize; rw [if_pos hlt]
    have h8 := psize_le n
    rw [e] at h8 ⊢
    have hp0 : (0 : Int) < 2 ^ spell n := Int.pow_pos (by decide)
    have hp1 : ((2 ^ spell n : Nat) : Int) = 2 ^ spell n := by simp
    have hshl : IntKind.i64.wrap (1 * 2 ^ (min ((spell n : Int)).toNat IntKind.i64.bits)) = ((2 ^ spell n : Nat) : Int) := by
      rw [show min ((spell n : Int)).toNat IntKind.i64.bits = spell n from (by show min (spell n) 64 = _; omega), Int.one_mul, w64 (by omega) (by omega), hp1]
    refine wc_skip ?_
    refine wc_seq ?_
    refine wc_region ?_
    refine wl (y_move rfl) rfl ?_
    refine wl_call (.cons rfl .nil) (spelling_c hG n hn hS) rfl ?_
    rintro _ w ⟨rfl, hS⟩
    refine wl (y_shl rfl rfl (by omega) hshl) rfl ?_
    refine wl (y_assign rfl) rfl ?_
    refine wl_nil ?_
    refine wc_ret ?_
    refine wret (vs := [_]) (.tmp rfl .nil) ?_
    exact ⟨rfl, hS⟩

def str (l : List UInt8) : ByteArray := ⟨l.toArray⟩
theorem setBe (N s i : Nat) (hi : i < s) (c : UInt8) (hc : (be N s)[i]? = some c) : (((be N s).take i ++ List.replicate (s - i) (0 : UInt8)).set i c) = (be N s).take (i + 1) ++ List.replicate (s - (i + 1)) (0 : UInt8) := by
  have hl : ((be N s).take i).length = i := by rw [List.length_take, be_length]; omega
  rw [List.set_append_right _ _ (by omega), hl, Nat.sub_self]
  obtain ⟨r, hr⟩ : ∃ r, s - i = r + 1 := ⟨s - i - 1, by omega⟩
  rw [hr, List.replicate_succ, List.set_cons_zero, List.take_add_one, hc, show s - (i + 1) = r by omega]
  simp
def putV (n : Nat) : Value := if n < 4611686018427387904 then .tuple [.string (str (pput n)), .int .i64 0].toArray else .tuple [.string ByteArray.empty, .int .i64 1].toArray
theorem put_c (hG : Bits M) (n : Nat) (hn : n < 18446744073709551616) (hS : St M w Ls) :
    CallsR Tryz.prog 186 [.int .u64 n].toArray w fun v w' => v = putV n ∧ St M w' Ls := by
  have hp8 := psize_le n
  unfold putV
  refine calls_of (c := _) (rs := _) (n := 41) Tryz.func186 rfl rfl rfl rfl rfl ?_
  refine wc_seq ?_
  refine wc_region ?_
  refine wl (y_assign rfl) rfl ?_
  refine wl (y_assign rfl) rfl ?_
  refine wl_nil ?_
  refine wc_seq ?_
  refine wc_region ?_
  refine wl (y_move rfl) rfl ?_
  refine wl_call (.cons rfl .nil) (size_c hG n hn hS) rfl ?_
  rintro _ w ⟨rfl, hS⟩
  refine wl (y_assign rfl) rfl ?_
  refine wl_nil ?_
  refine wc_seq ?_
  refine wc_seq ?_
  refine wc_region ?_
  refine wl (y_move rfl) rfl ?_
  refine wl (y_eql rfl rfl) rfl ?_
  refine wl_nil ?_
  refine wc_if rfl (fun hc10 => ?_) (fun hc10 => ?_)
  · try simp only [zq1, zq2, zq3, zq4, zq5, zq6, zq7] at hc10
    have hge : ¬ n < 4611686018427387904 := by
      intro h
      have : psize n ≠ 0 := by unfold psize; rw [if_pos h]; have := Nat.pow_pos (n := spell n) (show 0 < 2 by omega); omega
      omega
    rw [if_neg hge]
    refine wc_seq ?_
    refine wc_region ?_
    refine wl (y_assign rfl) rfl ?_
    refine wl (y_assign rfl) rfl ?_
    refine wl_nil ?_
    refine wc_ret ?_
    refine wret (vs := [_, _]) (.tmp rfl (.tmp rfl .nil)) ?_
    exact ⟨rfl, hS.keep⟩
  · try simp only [zq1, zq2, zq3, zq4, zq5, zq6, zq7] at hc10
    have hlt : n < 4611686018427387904 := by
      rcases Nat.lt_or_ge n 4611686018427387904 with h | h
      · exact h
      · exact absurd (by unfold psize; rw [if_neg (by omega)]; rfl) hc10
    rw [if_pos hlt]
    obtain ⟨hb1, hb2⟩ := pnum_bound n hlt
    have hs4 := spell_lt n hlt
    have hps : 1 ≤ psize n := by have : psize n ≠ 0 := fun h => hc10 (by rw [h]; rfl)
                                 omega
    have hpow : 2 ^ (8 * psize n) ≤ 2 ^ 64 := Nat.pow_le_pow_right (by omega) (by omega)
    have h264 : (2 : Nat) ^ 64 = 18446744073709551616 := by decide
    have hshl : IntKind.u64.wrap ((spell n : Int) * 2 ^ (min (((8 * psize n - 2 : Nat) : Int)).toNat IntKind.u64.bits)) = ((2 ^ (8 * psize n - 2) * spell n : Nat) : Int) := by
      rw [show min (((8 * psize n - 2 : Nat) : Int)).toNat IntKind.u64.bits = 8 * psize n - 2 from (by show min (8 * psize n - 2) 64 = _; omega)]
      have e : (spell n : Int) * 2 ^ (8 * psize n - 2) = ((2 ^ (8 * psize n - 2) * spell n : Nat) : Int) := by
        rw [Int.natCast_mul, Int.natCast_pow, Int.mul_comm]; rfl
      rw [e]
      exact natwrap64 _ (by unfold pnum at hb2; omega)
    have hor := nator64 n (2 ^ (8 * psize n - 2) * spell n) (8 * psize n - 2) (spell n) hb1 rfl (by unfold pnum at hb2; omega)
    have hN : n + 2 ^ (8 * psize n - 2) * spell n = pnum n := rfl
    rw [hN] at hor
    have hm2 : (8 : Int) * (psize n : Int) - 2 = ((8 * psize n - 2 : Nat) : Int) := by omega
    refine wc_skip ?_
    refine wc_seq ?_
    refine wc_region ?_
    refine wl (y_move rfl) rfl ?_
    refine wl (y_move rfl) rfl ?_
    refine wl_call (.cons rfl .nil) (spelling_c hG n hn hS) rfl ?_
    rintro _ w ⟨rfl, hS⟩
    refine wl (y_conv Tryz.underlying3 Tryz.underlying190 rfl (natwrap64 (spell n) (by omega))) rfl ?_
    refine wl (y_move rfl) rfl ?_
    refine wl (y_mul rfl rfl (w64 (by omega) (by omega))) rfl ?_
    refine wl ((y_sub rfl rfl (w64 (by omega) (by omega))).val (congrArg (Value.int .i64) hm2)) rfl ?_
    refine wl (y_shl rfl rfl (by omega) hshl) rfl ?_
    refine wl (y_or rfl rfl hor) rfl ?_
    refine wl (y_assign rfl) rfl ?_
    refine wl_nil ?_
    refine wc_seq ?_
    refine wc_region ?_
    refine wl (y_move rfl) rfl ?_
    refine a_mkslice encB 0 Tryz.underlying173 sz_5 z_5 rfl by_5 (by decide) rfl rfl (by omega) hS rfl fun bb H w ho hS => ?_
    refine wl (y_assign rfl) rfl ?_
    refine wl_nil ?_
    refine wc_seq ?_
    refine wc_seq ?_
    refine wc_region ?_
    refine wl (y_move rfl) rfl ?_
    refine wl (y_len_sl Tryz.underlying173 rfl) rfl ?_
    refine wl (y_move rfl) rfl ?_
    refine wl_nil ?_
    refine wc_block ?_
    refine wc_loop (α := Nat × Chunk) (fun ⟨i, H⟩ => [(0, .int .u64 (pnum n)), (4, .int .i64 (psize n)), (5, .slice (some ⟨bb, 0, none⟩) (psize n) (psize n)), (23, .int .i64 (psize n)), (24, .int .i64 i)]) (fun ⟨i, H⟩ w => i ≤ psize n ∧ Own 5 encB (.slice (some ⟨bb, 0, none⟩) (psize n) (psize n)) ((be (pnum n) (psize n)).take i ++ List.replicate (psize n - i) (0 : UInt8)) H ∧ St M w (H :: Ls)) (fun ⟨i, _⟩ => psize n - i) (0, H) (sub_cons rfl (sub_cons rfl (sub_cons rfl (sub_cons rfl (sub_cons rfl sub_nil))))) ⟨by omega, by simpa using ho, hS⟩ ?_
    rintro ⟨i, H⟩ w ⟨hi, ho, hS⟩
    have hblen : (be (pnum n) (psize n)).length = psize n := be_length _ _
    refine wc_seq ?_
    refine wc_region ?_
    refine wl (y_lss rfl rfl) rfl ?_
    refine wl_nil ?_
    refine wc_seq ?_
    refine wc_if rfl (fun hc25 => ?_) (fun hc25 => ?_)
    · try simp only [zq1, zq2, zq3, zq4, zq5, zq6, zq7] at hc25
      refine wc_skip ?_
      refine wc_seq ?_
      refine wc_block ?_
      refine wc_seq ?_
      have hi' : i < psize n := by omega
      have hget := be_get (pnum n) (psize n) i hi'
      have hset := setBe (pnum n) (psize n) i hi' _ hget
      have hsh : (8 : Int) * ((psize n : Int) - 1 - (i : Int)) = ((8 * (psize n - 1 - i) : Nat) : Int) := by omega
      refine wc_region ?_
      refine wl (y_move rfl) rfl ?_
      refine wl (y_assign rfl) rfl ?_
      refine wl_nil ?_
      refine wc_region ?_
      refine wl (y_move rfl) rfl ?_
      refine wl (y_move rfl) rfl ?_
      refine wl (y_move rfl) rfl ?_
      refine wl (y_move rfl) rfl ?_
      refine wl (y_sub rfl rfl (w64 (by omega) (by omega))) rfl ?_
      refine wl (y_move rfl) rfl ?_
      refine wl (y_sub rfl rfl (w64 (by omega) (by omega))) rfl ?_
      refine wl ((y_mul rfl rfl (w64 (by omega) (by omega))).val (congrArg (Value.int .i64) hsh)) rfl ?_
      refine wl (y_shr rfl rfl (by omega) (natshr64 (pnum n) _ (by omega))) rfl ?_
      refine wl (y_conv Tryz.underlying190 Tryz.underlying5 rfl (r := (((UInt8.ofNat (pnum n / 2 ^ (8 * (psize n - 1 - i)))).toNat : Nat) : Int)) (by rw [wu8]; simp)) rfl ?_
      refine wl (y_ixa_sl Tryz.underlying173 sz_5 rfl rfl (by omega) (by omega)) rfl ?_
      refine a_storeE (A := encB) (i := i) sz_5 rfl rfl (x' := UInt8.ofNat (pnum n / 2 ^ (8 * (psize n - 1 - i)))) rfl ho (by simp [hblen]; omega) hS fun H' w ho hS => ?_
      rw [hset] at ho
      refine wl_nil ?_
      refine wc_region ?_
      refine wl (y_add rfl rfl (w64 (by omega) (by omega))) rfl ?_
      refine wl (y_move rfl) rfl ?_
      refine wl_nil ?_
      exact ⟨(i + 1, _), by simp only; omega, sub_cons rfl (sub_cons rfl (sub_cons rfl (sub_cons rfl (sub_cons rfl sub_nil)))), by omega, ho, hS⟩
    · try simp only [zq1, zq2, zq3, zq4, zq5, zq6, zq7] at hc25
      obtain rfl : i = psize n := by omega
      rw [Nat.sub_self, List.replicate_zero, List.append_nil, List.take_of_length_le (by omega)] at ho
      refine wc_exit ?_
      refine wc_seq ?_
      refine wc_region ?_
      refine wl (y_move rfl) rfl ?_
      refine wl (y_b2sh Tryz.underlying173 Tryz.underlying9 Tryz.underlying5 rfl (ho.holds hS)) rfl ?_
      refine wl (y_assign rfl) rfl ?_
      refine wl (y_assign rfl) rfl ?_
      refine wl_nil ?_
      refine wc_ret ?_
      refine wret (vs := [_, _]) (.tmp rfl (.tmp rfl .nil)) ?_
      exact ⟨rfl, hS.keep⟩

/-! ### Get -/
theorem un_append (x : Nat) : ∀ (a b : List UInt8), un x (a ++ b) = un (un x a) b := by
  intro a
  induction a generalizing x with
  | nil => intro b; rfl
  | cons c l ih => intro b; simp only [List.cons_append, un, ih]
theorem un_lt : ∀ (l : List UInt8) (x : Nat), un x l < (x + 1) * 256 ^ l.length := by
  intro l
  induction l with
  | nil => intro x; simp [un]
  | cons c l ih =>
    intro x
    simp only [un, List.length_cons]
    have h1 := ih (256 * x + c.toNat)
    have h2 : c.toNat < 256 := c.toNat_lt
    have h3 : (256 * x + c.toNat + 1) * 256 ^ l.length ≤ (256 * (x + 1)) * 256 ^ l.length := Nat.mul_le_mul_right _ (by omega)
    have h4 : (256 * (x + 1)) * 256 ^ l.length = (x + 1) * 256 ^ (l.length + 1) := by rw [Nat.pow_succ, Nat.mul_comm 256 (x + 1), Nat.mul_assoc, Nat.mul_comm 256]
    omega
theorem natshr8_6 (c : UInt8) : ((c.toNat : Int)).fdiv (2 ^ (min ((6 : Int)).toNat IntKind.u8.bits)) = ((c.toNat / 64 : Nat) : Int) := by
  rw [show min ((6 : Int)).toNat IntKind.u8.bits = 6 from rfl, Int.fdiv_eq_ediv_of_nonneg _ (by decide)]
  simp
theorem natand63 (c : UInt8) : IntKind.u8.wrap ((BitVec.ofInt IntKind.u8.bits (c.toNat : Int) &&& BitVec.ofInt IntKind.u8.bits 63).toNat : Int) = ((c.toNat % 64 : Nat) : Int) := by
  have hc := c.toNat_lt
  have e1 : (BitVec.ofInt IntKind.u8.bits (c.toNat : Int)).toNat = c.toNat := by
    show (BitVec.ofInt 8 (c.toNat : Int)).toNat = c.toNat
    simp [BitVec.toNat_ofInt]
  have e2 : (BitVec.ofInt IntKind.u8.bits 63).toNat = 2 ^ 6 - 1 := rfl
  rw [BitVec.toNat_and, e1, e2, Nat.and_two_pow_sub_one_eq_mod]
  exact wnat rfl (by show c.toNat % 2 ^ 6 < 2 ^ 8; omega)
theorem shl1 (q : Nat) (h : q ≤ 61) : IntKind.i64.wrap (1 * 2 ^ (min ((q : Int)).toNat IntKind.i64.bits)) = ((2 ^ q : Nat) : Int) := by
  have hp0 : (0 : Int) < 2 ^ q := Int.pow_pos (by decide)
  have hp1 : ((2 ^ q : Nat) : Int) = 2 ^ q := by simp
  have hp2 : 2 ^ q ≤ 2 ^ 61 := Nat.pow_le_pow_right (by omega) h
  rw [show min ((q : Int)).toNat IntKind.i64.bits = q from (by show min q 64 = _; omega), Int.one_mul, w64 (by omega) (by omega), hp1]
theorem nator64' (a b i c : Nat) (ha : a < 2 ^ i) (hb : b = 2 ^ i * c) (h : a + b < 18446744073709551616) : IntKind.u64.wrap ((BitVec.ofInt IntKind.u64.bits (b : Int) ||| BitVec.ofInt IntKind.u64.bits (a : Int)).toNat : Int) = ((a + b : Nat) : Int) := by
  rw [BitVec.or_comm]; exact nator64 a b i c ha hb h
theorem bidx {b : ByteArray} {l : List UInt8} (h : b.data.toList = l) {i : Nat} {x : UInt8} (hx : l[i]? = some x) : b[((i : Nat) : Int).toNat]? = some x := by
  have hl : i < b.size := by have := (List.getElem?_eq_some_iff.1 hx).1; rw [← h] at this; simpa using this
  rw [← h] at hx
  rw [show ((i : Nat) : Int).toNat = i from rfl]
  have e : b[i]? = some b[i] := by simp [hl]
  rw [e]
  have e2 : b.data.toList[i]? = some b.data.toList[i] := List.getElem?_eq_getElem (by simpa using hl)
  rw [e2] at hx
  rw [← hx]; rfl
def getV (at_ : Nat) (r : Nat × Nat × Nat) : Value := .tuple [.int .u64 r.1, .int .i64 (if r.2.2 = 0 then at_ + r.2.1 else 0 : Nat), .int .i64 r.2.2].toArray
theorem get_c (hG : Bits M) (b : ByteArray) (at_ : Nat) (hb : b.size ≤ 140737488351232) (hat : at_ ≤ b.size) (hS : St M w Ls) :
    CallsR Tryz.prog 167 [.string b, .int .i64 at_].toArray w fun v w' => v = getV at_ (pget (b.data.toList.drop at_)) ∧ St M w' Ls := by
  obtain ⟨rest, hrest⟩ : ∃ r, b.extract at_ b.size = r := ⟨_, rfl⟩
  have hrl : rest.data.toList = b.data.toList.drop at_ := by
    rw [← hrest]; simp only [ByteArray.data_extract, Array.toList_extract, List.extract_eq_take_drop]; exact List.take_of_length_le (by simp)
  have hrs : rest.size = b.size - at_ := by rw [← hrest, ByteArray.size_extract]; omega
  have hll : rest.data.toList.length = rest.size := by simp
  rw [← hrl]
  refine calls_of (c := _) (rs := _) (n := 61) Tryz.func167 rfl rfl rfl rfl rfl ?_
  refine wc_seq ?_
  refine wc_region ?_
  refine wl (y_assign rfl) rfl ?_
  refine wl (y_assign rfl) rfl ?_
  refine wl (y_assign rfl) rfl ?_
  refine wl_nil ?_
  refine wc_seq ?_
  refine wc_seq ?_
  refine wc_region ?_
  refine wl (y_move rfl) rfl ?_
  refine wl ((y_lss rfl rfl).val (u := .bool false) (congrArg Value.bool (decide_eq_false (by omega)))) rfl ?_
  refine wl (y_move rfl) rfl ?_
  refine wl_on rfl rfl ?_
  refine wl (y_move rfl) rfl ?_
  refine wl_on rfl rfl ?_
  refine wl (y_move rfl) rfl ?_
  refine wl_on rfl rfl ?_
  refine wl (y_len_s Tryz.underlying9 rfl) rfl ?_
  refine wl_on rfl rfl ?_
  refine wl ((y_gtr rfl rfl).val (u := .bool false) (congrArg Value.bool (decide_eq_false (by omega)))) rfl ?_
  refine wl (y_pickF rfl rfl) rfl ?_
  refine wl_nil ?_
  refine wc_ifF rfl rfl ?_
  refine wc_skip ?_
  refine wc_seq ?_
  refine wc_region ?_
  refine wl (y_move rfl) rfl ?_
  refine wl (y_move rfl) rfl ?_
  refine wl (y_sl_s Tryz.underlying9 rfl (lv := at_) (hv := b.size) ⟨_, _, rfl, by omega, by omega⟩ rfl (by omega) (Nat.le_refl _) hrest) rfl ?_
  refine wl (y_assign rfl) rfl ?_
  refine wl_nil ?_
  refine wc_seq ?_
  refine wc_seq ?_
  refine wc_region ?_
  refine wl (y_move rfl) rfl ?_
  refine wl (y_seql rfl rfl) rfl ?_
  refine wl (y_move rfl) rfl ?_
  refine wl_cases (s := 24) rfl (fun hg24 => ?_) (fun hg24 => ?_)
  · try simp only [zq1, zq2, zq3, zq4, zq5, zq6, zq7] at hg24
    have he : rest = ByteArray.empty := hg24
    have hnil : rest.data.toList = [] := by rw [he]; rfl
    rw [hnil]
    refine wl_off rfl rfl rfl rfl ?_
    refine wl_off rfl rfl rfl rfl ?_
    refine wl_off rfl rfl rfl rfl ?_
    refine wl_off rfl rfl rfl rfl ?_
    refine wl_off rfl rfl rfl rfl ?_
    refine wl_off rfl rfl rfl rfl ?_
    refine wl_off rfl rfl rfl rfl ?_
    refine wl (y_pickT rfl rfl) rfl ?_
    refine wl_nil ?_
    refine wc_ifT rfl rfl ?_
    refine wc_seq ?_
    refine wc_region ?_
    refine wl (y_assign rfl) rfl ?_
    refine wl (y_assign rfl) rfl ?_
    refine wl (y_assign rfl) rfl ?_
    refine wl_nil ?_
    refine wc_ret ?_
    refine wret (vs := [_, _, _]) (.tmp rfl (.tmp rfl (.tmp rfl .nil))) ?_
    exact ⟨rfl, hS⟩
  · try simp only [zq1, zq2, zq3, zq4, zq5, zq6, zq7] at hg24
    obtain ⟨c, l, hcl⟩ : ∃ c l, rest.data.toList = c :: l := by
      cases h : rest.data.toList with
      | nil => exact absurd (bytes_eq (b := ByteArray.empty) h) hg24
      | cons c l => exact ⟨c, l, rfl⟩
    rw [hcl] at hll ⊢
    have hidx : rest[((0 : Int)).toNat]? = some c := bidx (i := 0) hcl rfl
    have hc := c.toNat_lt
    have hq : c.toNat / 64 ≤ 3 := by omega
    have hs8 : 2 ^ (c.toNat / 64) ≤ 2 ^ 3 := Nat.pow_le_pow_right (by omega) hq
    have hs1 : 0 < 2 ^ (c.toNat / 64) := Nat.pow_pos (by omega)
    have hshl := shl1 (c.toNat / 64) (by omega)
    obtain ⟨size, hsize⟩ : ∃ s, s = 2 ^ (c.toNat / 64) := ⟨_, rfl⟩
    rw [← hsize] at hs8 hs1 hshl
    have hpg : pget (c :: l) = if (c :: l).length < size then (0, 0, 2) else if psize (un (c.toNat % 64) (l.take (size - 1))) = size then (un (c.toNat % 64) (l.take (size - 1)), size, 0) else (0, 0, 3) := by rw [hsize]; rfl
    rw [hpg]
    refine wl_on rfl rfl ?_
    refine wl (y_move rfl) rfl ?_
    refine wl_on rfl rfl ?_
    refine wl (y_len_s Tryz.underlying9 rfl) rfl ?_
    refine wl_on rfl rfl ?_
    refine wl (y_move rfl) rfl ?_
    refine wl_on rfl rfl ?_
    refine wl (y_idx_s Tryz.underlying9 rfl rfl (by omega) hidx) rfl ?_
    refine wl_on rfl rfl ?_
    refine wl (y_shr rfl rfl (by decide) (natshr8_6 c)) rfl ?_
    refine wl_on rfl rfl ?_
    refine wl (y_shl rfl rfl (by omega) hshl) rfl ?_
    refine wl_on rfl rfl ?_
    refine wl (y_lss rfl rfl) rfl ?_
    refine wl (y_pickF rfl rfl) rfl ?_
    refine wl_nil ?_
    refine wc_if rfl (fun hc32 => ?_) (fun hc32 => ?_)
    · try simp only [zq1, zq2, zq3, zq4, zq5, zq6, zq7] at hc32
      rw [if_pos (by omega)]
      refine wc_seq ?_
      refine wc_region ?_
      refine wl (y_assign rfl) rfl ?_
      refine wl (y_assign rfl) rfl ?_
      refine wl (y_assign rfl) rfl ?_
      refine wl_nil ?_
      refine wc_ret ?_
      refine wret (vs := [_, _, _]) (.tmp rfl (.tmp rfl (.tmp rfl .nil))) ?_
      exact ⟨rfl, hS⟩
    · try simp only [zq1, zq2, zq3, zq4, zq5, zq6, zq7] at hc32
      rw [if_neg (by omega)]
      have hlen1 : (c :: l).length = l.length + 1 := rfl
      refine wc_skip ?_
      refine wc_seq ?_
      refine wc_region ?_
      refine wl (y_move rfl) rfl ?_
      refine wl (y_idx_s Tryz.underlying9 rfl rfl (by omega) hidx) rfl ?_
      refine wl (y_shr rfl rfl (by decide) (natshr8_6 c)) rfl ?_
      refine wl (y_shl rfl rfl (by omega) hshl) rfl ?_
      refine wl (y_assign rfl) rfl ?_
      refine wl_nil ?_
      refine wc_seq ?_
      refine wc_region ?_
      refine wl (y_move rfl) rfl ?_
      refine wl (y_idx_s Tryz.underlying9 rfl rfl (by omega) hidx) rfl ?_
      refine wl (y_and rfl rfl (natand63 c)) rfl ?_
      refine wl (y_conv Tryz.underlying5 Tryz.underlying190 rfl (natwrap64 (c.toNat % 64) (by omega))) rfl ?_
      refine wl (y_assign rfl) rfl ?_
      refine wl_nil ?_
      refine wc_seq ?_
      refine wc_seq ?_
      refine wc_region ?_
      refine wl (y_assign rfl) rfl ?_
      refine wl_nil ?_
      refine wc_block ?_
      refine wc_loop (α := Nat) (fun i => [(1, .int .i64 at_), (7, .string rest), (8, .int .i64 size), (9, .int .u64 (un (c.toNat % 64) (l.take i) : Nat)), (10, .int .i64 ((i + 1 : Nat) : Int))]) (fun i w => i + 1 ≤ size ∧ St M w Ls) (fun i => size - i) 0 (sub_cons rfl (sub_cons rfl (sub_cons rfl (sub_cons rfl (sub_cons rfl sub_nil))))) ⟨by omega, hS⟩ ?_
      rintro i w ⟨hi, hS⟩
      refine wc_seq ?_
      refine wc_seq ?_
      refine wc_region ?_
      refine wl (y_move rfl) rfl ?_
      refine wl (y_move rfl) rfl ?_
      refine wl (y_lss rfl rfl) rfl ?_
      refine wl_nil ?_
      refine wc_if rfl (fun hc43 => ?_) (fun hc43 => ?_)
      · try simp only [zq1, zq2, zq3, zq4, zq5, zq6, zq7] at hc43
        refine wc_skip ?_
        refine wc_seq ?_
        refine wc_block ?_
        have hi' : i + 1 < size := by omega
        obtain ⟨x, hx⟩ : ∃ x, l[i]? = some x := ⟨_, List.getElem?_eq_getElem (by omega)⟩
        have hidx2 : rest[(((i + 1 : Nat) : Int)).toNat]? = some x := bidx hcl (by simpa using hx)
        have hxl := x.toNat_lt
        have hun : un (c.toNat % 64) (l.take (i + 1)) = x.toNat + 256 * un (c.toNat % 64) (l.take i) := by
          rw [List.take_add_one, hx, un_append]; simp only [Option.toList_some, un]; omega
        have hub := un_lt (l.take i) (c.toNat % 64)
        rw [List.length_take, Nat.min_eq_left (by omega)] at hub
        have hpw : 256 ^ i ≤ 256 ^ 6 := Nat.pow_le_pow_right (by omega) (by omega)
        have hmm : (c.toNat % 64 + 1) * 256 ^ i ≤ 64 * 256 ^ 6 := Nat.mul_le_mul (by omega) hpw
        have h6 : 64 * 256 ^ 6 = 18014398509481984 := by decide
        have hor := nator64' x.toNat (256 * un (c.toNat % 64) (l.take i)) 8 (un (c.toNat % 64) (l.take i)) (by omega) rfl (by omega)
        rw [← hun] at hor
        have hsh2 : IntKind.u64.wrap (((un (c.toNat % 64) (l.take i) : Nat) : Int) * 2 ^ (min ((8 : Int)).toNat IntKind.u64.bits)) = ((256 * un (c.toNat % 64) (l.take i) : Nat) : Int) := by
          rw [show ((un (c.toNat % 64) (l.take i) : Nat) : Int) * 2 ^ (min ((8 : Int)).toNat IntKind.u64.bits) = ((256 * un (c.toNat % 64) (l.take i) : Nat) : Int) from (by rw [show min ((8 : Int)).toNat IntKind.u64.bits = 8 from rfl]; omega)]
          exact natwrap64 _ (by omega)
        refine wc_region ?_
        refine wl (y_move rfl) rfl ?_
        refine wl (y_shl rfl rfl (by decide) hsh2) rfl ?_
        refine wl (y_move rfl) rfl ?_
        refine wl (y_move rfl) rfl ?_
        refine wl (y_idx_s Tryz.underlying9 rfl rfl (by omega) hidx2) rfl ?_
        refine wl (y_conv Tryz.underlying5 Tryz.underlying190 rfl (natwrap64 x.toNat (by omega))) rfl ?_
        refine wl (y_or rfl rfl hor) rfl ?_
        refine wl (y_assign rfl) rfl ?_
        refine wl_nil ?_
        refine wc_region ?_
        refine wl (y_move rfl) rfl ?_
        refine wl (y_add rfl rfl (w64 (by omega) (by omega))) rfl ?_
        refine wl (y_assign rfl) rfl ?_
        refine wl_nil ?_
        exact ⟨i + 1, by omega, sub_cons rfl (sub_cons rfl (sub_cons rfl (sub_cons rfl (sub_cons rfl sub_nil)))), by omega, hS⟩
      · try simp only [zq1, zq2, zq3, zq4, zq5, zq6, zq7] at hc43
        have hie : i = size - 1 := by omega
        have hub := un_lt (l.take i) (c.toNat % 64)
        rw [List.length_take, Nat.min_eq_left (by omega)] at hub
        have hpw : 256 ^ i ≤ 256 ^ 7 := Nat.pow_le_pow_right (by omega) (by omega)
        have hmm : (c.toNat % 64 + 1) * 256 ^ i ≤ 64 * 256 ^ 7 := Nat.mul_le_mul (by omega) hpw
        have h7 : 64 * 256 ^ 7 = 4611686018427387904 := by decide
        rw [← hie]
        refine wc_exit ?_
        refine wc_seq ?_
        refine wc_seq ?_
        refine wc_region ?_
        refine wl (y_move rfl) rfl ?_
        refine wl_call (.cons rfl .nil) (size_c hG (un (c.toNat % 64) (l.take i)) (by omega) hS) rfl ?_
        rintro _ w ⟨rfl, hS⟩
        refine wl (y_move rfl) rfl ?_
        refine wl (y_neq rfl rfl) rfl ?_
        refine wl_nil ?_
        refine wc_if rfl (fun hc56 => ?_) (fun hc56 => ?_)
        · try simp only [zq1, zq2, zq3, zq4, zq5, zq6, zq7] at hc56
          rw [if_neg (by omega)]
          refine wc_seq ?_
          refine wc_region ?_
          refine wl (y_assign rfl) rfl ?_
          refine wl (y_assign rfl) rfl ?_
          refine wl (y_assign rfl) rfl ?_
          refine wl_nil ?_
          refine wc_ret ?_
          refine wret (vs := [_, _, _]) (.tmp rfl (.tmp rfl (.tmp rfl .nil))) ?_
          exact ⟨rfl, hS⟩
        · try simp only [zq1, zq2, zq3, zq4, zq5, zq6, zq7] at hc56
          rw [if_pos (by omega)]
          refine wc_skip ?_
          refine wc_seq ?_
          refine wc_region ?_
          refine wl (y_move rfl) rfl ?_
          refine wl (y_move rfl) rfl ?_
          refine wl (y_move rfl) rfl ?_
          refine wl (y_add rfl rfl (w64 (by omega) (by omega))) rfl ?_
          refine wl (y_assign rfl) rfl ?_
          refine wl (y_assign rfl) rfl ?_
          refine wl (y_assign rfl) rfl ?_
          refine wl_nil ?_
          refine wc_ret ?_
          refine wret (vs := [_, _, _]) (.tmp rfl (.tmp rfl (.tmp rfl .nil))) ?_
          exact ⟨rfl, hS⟩

/-! ### Zig, Zag -/
def zig (n : Int) : Nat := if n < 0 then (-(2 * n) - 1).toNat else (2 * n).toNat
def zag (n : Nat) : Int := if n < 4611686018427387904 then (if n % 2 = 1 then -((n / 2 : Nat) : Int) - 1 else ((n / 2 : Nat) : Int)) else 0
def zigOk (n : Int) : Bool := decide (-2305843009213693952 ≤ n ∧ n < 2305843009213693952)
def zigV (n : Int) : Value := if zigOk n then .tuple [.int .u64 (zig n), .bool true].toArray else .tuple [.int .u64 0, .bool false].toArray
theorem zig_eq (n : Int) (h0 : -2305843009213693952 ≤ n) (h1 : n < 2305843009213693952) :
    IntKind.u64.wrap ((BitVec.ofInt IntKind.u64.bits (IntKind.u64.wrap (IntKind.i64.wrap (n * 2 ^ (min ((1 : Int)).toNat IntKind.i64.bits)))) ^^^ BitVec.ofInt IntKind.u64.bits (IntKind.u64.wrap (n.fdiv (2 ^ (min ((63 : Int)).toNat IntKind.i64.bits))))).toNat : Int) = (zig n : Nat) := by
  have e1 : IntKind.i64.wrap (n * 2 ^ (min ((1 : Int)).toNat IntKind.i64.bits)) = 2 * n := by
    rw [show min ((1 : Int)).toNat IntKind.i64.bits = 1 from rfl, show n * 2 ^ 1 = 2 * n by omega]
    exact w64 (by omega) (by omega)
  rw [e1]
  unfold zig
  by_cases hn : n < 0
  · have e2 : n.fdiv (2 ^ (min ((63 : Int)).toNat IntKind.i64.bits)) = -1 := by
      rw [show min ((63 : Int)).toNat IntKind.i64.bits = 63 from rfl, Int.fdiv_eq_ediv_of_nonneg _ (by decide)]
      omega
    rw [e2, if_pos hn]
    have e3 : IntKind.u64.wrap (2 * n) = ((18446744073709551616 + 2 * n).toNat : Int) := by rw [wu64]; omega
    have e4 : IntKind.u64.wrap (-1) = ((18446744073709551615 : Nat) : Int) := by decide
    rw [e3, e4]
    change IntKind.u64.wrap (((BitVec.ofInt 64 ((18446744073709551616 + 2 * n).toNat : Int) ^^^ BitVec.ofInt 64 ((18446744073709551615 : Nat) : Int)).toNat : Nat) : Int) = _
    have e5 : (BitVec.ofInt 64 ((18446744073709551615 : Nat) : Int)) = BitVec.allOnes 64 := by decide
    have e6 : (BitVec.ofInt 64 ((18446744073709551616 + 2 * n).toNat : Int)).toNat = (18446744073709551616 + 2 * n).toNat := by
      rw [BitVec.toNat_ofInt]; omega
    rw [e5, BitVec.xor_comm, BitVec.allOnes_xor, BitVec.toNat_not, e6, wu64]
    omega
  · have e2 : n.fdiv (2 ^ (min ((63 : Int)).toNat IntKind.i64.bits)) = 0 := by
      rw [show min ((63 : Int)).toNat IntKind.i64.bits = 63 from rfl, Int.fdiv_eq_ediv_of_nonneg _ (by decide)]
      omega
    rw [e2, if_neg hn]
    have e3 : IntKind.u64.wrap (2 * n) = ((2 * n).toNat : Int) := by rw [wu64]; omega
    have e4 : IntKind.u64.wrap 0 = 0 := by decide
    rw [e3, e4]
    change IntKind.u64.wrap (((BitVec.ofInt 64 ((2 * n).toNat : Int) ^^^ BitVec.ofInt 64 0).toNat : Nat) : Int) = _
    have e6 : (BitVec.ofInt 64 ((2 * n).toNat : Int)).toNat = (2 * n).toNat := by
      rw [BitVec.toNat_ofInt]; omega
    have e8 : BitVec.ofInt 64 0 = 0#64 := by decide
    rw [e8, BitVec.xor_zero, e6, wu64]
    omega
theorem zag_eq (n : Nat) (h : n < 4611686018427387904) :
    IntKind.i64.wrap ((BitVec.ofInt IntKind.i64.bits ((n / 2 : Nat) : Int) ^^^ BitVec.ofInt IntKind.i64.bits (-((n % 2 : Nat) : Int))).toNat : Int) = zag n := by
  unfold zag
  rw [if_pos h]
  change IntKind.i64.wrap (((BitVec.ofInt 64 ((n / 2 : Nat) : Int) ^^^ BitVec.ofInt 64 (-((n % 2 : Nat) : Int))).toNat : Nat) : Int) = _
  have e6 : (BitVec.ofInt 64 ((n / 2 : Nat) : Int)).toNat = n / 2 := by
    rw [BitVec.toNat_ofInt]; omega
  rcases Nat.mod_two_eq_zero_or_one n with hm | hm
  · rw [hm, if_neg (by decide)]
    have e8 : BitVec.ofInt 64 (-((0 : Nat) : Int)) = 0#64 := by decide
    rw [e8, BitVec.xor_zero, e6]
    exact w64 (by omega) (by omega)
  · rw [hm, if_pos rfl]
    have e8 : BitVec.ofInt 64 (-((1 : Nat) : Int)) = BitVec.allOnes 64 := by decide
    rw [e8, BitVec.xor_comm, BitVec.allOnes_xor, BitVec.toNat_not, e6]
    simp only [IntKind.wrap, IntKind.bits, IntKind.signed, Bool.true_and, ge_iff_le, decide_eq_true_eq, Nat.reduceSub, Int.reducePow, Nat.reducePow]
    split <;> omega
theorem zig_c (n : Int) (h : -9223372036854775808 ≤ n ∧ n ≤ 9223372036854775807) (hS : St M w Ls) :
    CallsR Tryz.prog 188 [.int .i64 n].toArray w fun v w' => v = zigV n ∧ St M w' Ls := by
  unfold zigV zigOk
  refine calls_of (c := _) (rs := _) (n := 19) Tryz.func188 rfl rfl rfl rfl rfl ?_
  refine wc_seq ?_
  refine wc_region ?_
  refine wl (y_assign rfl) rfl ?_
  refine wl (y_assign rfl) rfl ?_
  refine wl_nil ?_
  refine wc_seq ?_
  refine wc_region ?_
  refine wl (y_move rfl) rfl ?_
  refine wl (y_shl rfl rfl (by decide) rfl) rfl ?_
  refine wl (y_conv Tryz.underlying2 Tryz.underlying190 rfl rfl) rfl ?_
  refine wl (y_move rfl) rfl ?_
  refine wl (y_shr rfl rfl (by decide) rfl) rfl ?_
  refine wl (y_conv Tryz.underlying2 Tryz.underlying190 rfl rfl) rfl ?_
  refine wl (y_xor rfl rfl rfl) rfl ?_
  refine wl (y_assign rfl) rfl ?_
  refine wl_nil ?_
  refine wc_seq ?_
  refine wc_seq ?_
  refine wc_region ?_
  refine wl (y_move rfl) rfl ?_
  refine wl (y_lss rfl rfl) rfl ?_
  refine wl (y_move rfl) rfl ?_
  refine wl_cases (s := 14) rfl (fun hg14 => ?_) (fun hg14 => ?_)
  · try simp only [zq1, zq2, zq3, zq4, zq5, zq6, zq7] at hg14
    refine wl_off rfl rfl rfl rfl ?_
    refine wl_off rfl rfl rfl rfl ?_
    refine wl (y_pickT rfl rfl) rfl ?_
    refine wl_nil ?_
    refine wc_ifT rfl rfl ?_
    refine wc_seq ?_
    refine wc_region ?_
    refine wl (y_assign rfl) rfl ?_
    refine wl (y_assign rfl) rfl ?_
    refine wl_nil ?_
    refine wc_ret ?_
    refine wret (vs := [_, _]) (.tmp rfl (.tmp rfl .nil)) ?_
    first
    | exact ⟨rfl, hS⟩
    | (rw [decide_eq_false (by omega), if_neg (by decide)]; exact ⟨rfl, hS⟩)
  · try simp only [zq1, zq2, zq3, zq4, zq5, zq6, zq7] at hg14
    refine wl_on rfl rfl ?_
    refine wl (y_move rfl) rfl ?_
    refine wl_on rfl rfl ?_
    refine wl (y_geq rfl rfl) rfl ?_
    refine wl (y_pickF rfl rfl) rfl ?_
    refine wl_nil ?_
    refine wc_if rfl (fun hc17 => ?_) (fun hc17 => ?_)
    · try simp only [zq1, zq2, zq3, zq4, zq5, zq6, zq7] at hc17
      rw [decide_eq_false (by omega), if_neg (by decide)]
      refine wc_seq ?_
      refine wc_region ?_
      refine wl (y_assign rfl) rfl ?_
      refine wl (y_assign rfl) rfl ?_
      refine wl_nil ?_
      refine wc_ret ?_
      refine wret (vs := [_, _]) (.tmp rfl (.tmp rfl .nil)) ?_
      first
      | exact ⟨rfl, hS⟩
      | (rw [decide_eq_false (by omega), if_neg (by decide)]; exact ⟨rfl, hS⟩)
    · try simp only [zq1, zq2, zq3, zq4, zq5, zq6, zq7] at hc17
      rw [decide_eq_true (by omega), if_pos rfl, ← zig_eq n (by omega) (by omega)]
      refine wc_skip ?_
      refine wc_seq ?_
      refine wc_region ?_
      refine wl (y_move rfl) rfl ?_
      refine wl (y_assign rfl) rfl ?_
      refine wl (y_assign rfl) rfl ?_
      refine wl_nil ?_
      refine wc_ret ?_
      refine wret (vs := [_, _]) (.tmp rfl (.tmp rfl .nil)) ?_
      first
      | exact ⟨rfl, hS⟩
      | (rw [decide_eq_false (by omega), if_neg (by decide)]; exact ⟨rfl, hS⟩)
theorem zag_c (n : Nat) (hn : n < 18446744073709551616) (hS : St M w Ls) :
    CallsR Tryz.prog 192 [.int .u64 n].toArray w fun v w' => v = .int .i64 (zag n) ∧ St M w' Ls := by
  refine calls_of (c := _) (rs := _) (n := 13) Tryz.func192 rfl rfl rfl rfl rfl ?_
  refine wc_seq ?_
  refine wc_region ?_
  refine wl (y_assign rfl) rfl ?_
  refine wl_nil ?_
  refine wc_seq ?_
  refine wc_seq ?_
  refine wc_region ?_
  refine wl (y_move rfl) rfl ?_
  refine wl (y_geq rfl rfl) rfl ?_
  refine wl_nil ?_
  refine wc_if rfl (fun hc4 => ?_) (fun hc4 => ?_)
  · try simp only [zq1, zq2, zq3, zq4, zq5, zq6, zq7] at hc4
    have hz : zag n = 0 := by unfold zag; rw [if_neg (by omega)]
    rw [hz]
    refine wc_seq ?_
    refine wc_region ?_
    refine wl (y_assign rfl) rfl ?_
    refine wl_nil ?_
    refine wc_ret ?_
    refine wret (vs := [_]) (.tmp rfl .nil) ?_
    exact ⟨rfl, hS⟩
  · try simp only [zq1, zq2, zq3, zq4, zq5, zq6, zq7] at hc4
    rw [← zag_eq n (by omega)]
    have hand : IntKind.u64.wrap ((BitVec.ofInt IntKind.u64.bits (n : Int) &&& BitVec.ofInt IntKind.u64.bits 1).toNat : Int) = ((n % 2 : Nat) : Int) := by
      have e1 : (BitVec.ofInt IntKind.u64.bits (n : Int)).toNat = n := by
        show (BitVec.ofInt 64 (n : Int)).toNat = n
        rw [BitVec.toNat_ofInt]; omega
      have e2 : (BitVec.ofInt IntKind.u64.bits 1).toNat = 1 := rfl
      rw [BitVec.toNat_and, e1, e2, Nat.and_one_is_mod]
      exact natwrap64 _ (by omega)
    refine wc_skip ?_
    refine wc_seq ?_
    refine wc_region ?_
    refine wl (y_move rfl) rfl ?_
    refine wl (y_shr rfl rfl (by decide) (natshr64 n 1 (by decide))) rfl ?_
    refine wl (y_conv Tryz.underlying190 Tryz.underlying2 rfl (w64 (by omega) (by omega))) rfl ?_
    refine wl (y_move rfl) rfl ?_
    refine wl (y_and rfl rfl hand) rfl ?_
    refine wl (y_conv Tryz.underlying190 Tryz.underlying2 rfl (w64 (by omega) (by omega))) rfl ?_
    refine wl (y_neg rfl (w64 (by omega) (by omega))) rfl ?_
    refine wl (y_xor rfl rfl (by rw [Nat.pow_one, Int.zero_sub])) rfl ?_
    refine wl (y_assign rfl) rfl ?_
    refine wl_nil ?_
    refine wc_ret ?_
    refine wret (vs := [_]) (.tmp rfl .nil) ?_
    exact ⟨rfl, hS⟩
end
end Go.Proofs.YtndahppmjdbifaaGreatDoor.Pre

set_option linter.unusedVariables false
set_option linter.unusedSimpArgs false
namespace Go.Proofs.YtndahppmjdbifaaGreatDoor.Pak
open Go Go.Proofs Go.Proofs.YtndahppmjdbifaaGreatDoor.Eng Go.Proofs.YtndahppmjdbifaaGreatDoor.Pre

/-! ### the writer -/
def IsW (p : Nat) (bs : List UInt8) (wrong : Bool) (H : Chunk) : Prop :=
  ∃ a s Hs, (a = none ∨ a = some ⟨p, 0, none⟩) ∧ Own 5 encB s bs Hs ∧ H = (p, .cells #[.pointer a, s, .bool wrong] 177) :: Hs
section
variable {M : Mem} {w : World} {Ls : List Chunk}
theorem St.shape {b : Nat} {cs : Array Value} {T : TypeId} {fz : Nat × Nat} (hS : St M w Ls) [Has Ls b (.cells cs T fz)] : w.shape? b = some (T, cs.size) := by
  unfold World.shape?; rw [hS.has]

theorem copyCheck_c {p : Nat} {a : Option Addr} {s r : Value} (ha : a = none ∨ a = some ⟨p, 0, none⟩) (hS : St M w ([(p, .cells #[.pointer a, s, r] 177)] :: Ls)) :
    CallsR Tryz.prog 198 [.pointer (some ⟨p, 0, none⟩)].toArray w fun v w' => St M w' ([(p, .cells #[.pointer (some ⟨p, 0, none⟩), s, r] 177)] :: Ls) := by
  rcases ha with rfl | rfl
  · skip
    refine calls_of (c := _) (rs := _) (n := 20) Tryz.func198 rfl rfl rfl rfl rfl ?_
    refine wc_seq ?_
    refine wc_region ?_
    refine wl (y_move rfl) rfl ?_
    refine wl (y_nil rfl) rfl ?_
    refine wl (y_fld fl_175_0 rfl) rfl ?_
    refine wl (y_load pl_172 rfl (hS.cell rfl)) rfl ?_
    refine wl ((y_pnil Tryz.underlying172 rfl rfl).val (u := .bool true) (congrArg Value.bool (rfl))) rfl ?_
    refine wl_nil ?_
    refine wc_ifT rfl rfl ?_
    refine wc_region ?_
    refine wl (y_move rfl) rfl ?_
    refine wl (y_move rfl) rfl ?_
    refine wl (y_tounsafe Tryz.underlying172 Tryz.underlying264 (k := 1) sz_175 rfl (St.shape hS) (by show 0 < 3; decide)) rfl ?_
    refine wl_extern (e := Extern.AbiNoEscape.same) (vs := [_]) Tryz.func202 (by kernel_rfl) rfl (by kernel_rfl) (by kernel_rfl) (.cons rfl .nil) rfl rfl ?_
    refine wl (y_fromunsafe Tryz.underlying264 Tryz.underlying172 sz_175 rfl (St.shape hS) (by kernel_rfl)) rfl ?_
    refine wl (y_nil rfl) rfl ?_
    refine wl (y_fld fl_175_0 rfl) rfl ?_
    refine a_store sz_172 rfl rfl rfl hS (Nat.le_of_ble_eq_true rfl) fun w hS => ?_
    refine wl_nil ?_
    simp only [List.setIfInBounds_toArray, List.set_cons_zero, List.set_cons_succ, Nat.zero_add, Nat.add_zero, cells_agg, setCells] at hS
    refine wretN (vs := []) .nil ?_
    exact hS
  · skip
    refine calls_of (c := _) (rs := _) (n := 20) Tryz.func198 rfl rfl rfl rfl rfl ?_
    refine wc_seq ?_
    refine wc_region ?_
    refine wl (y_move rfl) rfl ?_
    refine wl (y_nil rfl) rfl ?_
    refine wl (y_fld fl_175_0 rfl) rfl ?_
    refine wl (y_load pl_172 rfl (hS.cell rfl)) rfl ?_
    refine wl ((y_pnil Tryz.underlying172 rfl rfl).val (u := .bool false) (congrArg Value.bool (rfl))) rfl ?_
    refine wl_nil ?_
    refine wc_ifF rfl rfl ?_
    refine wc_seq ?_
    refine wc_region ?_
    refine wl (y_move rfl) rfl ?_
    refine wl (y_nil rfl) rfl ?_
    refine wl (y_fld fl_175_0 rfl) rfl ?_
    refine wl (y_load pl_172 rfl (hS.cell rfl)) rfl ?_
    refine wl (y_move rfl) rfl ?_
    refine wl (y_pneqsame Tryz.underlying172 sz_175 rfl rfl) rfl ?_
    refine wl_nil ?_
    refine wc_ifF rfl rfl ?_
    refine wc_skip ?_
    refine wretN (vs := []) .nil ?_
    exact hS

theorem wstr_c {p : Nat} {bs : List UInt8} {wrong : Bool} {H : Chunk} (b : ByteArray) (hb : IsW p bs wrong H) (hs : bs.length + b.size ≤ 274877906944) (hS : St M w (H :: Ls)) :
    CallsR Tryz.prog 187 [.pointer (some ⟨p, 0, none⟩), .string b].toArray w fun v w' => ∃ H', IsW p (bs ++ b.data.toList) wrong H' ∧ St M w' (H' :: Ls) := by
  obtain ⟨a, s, Hs, ha, ho, rfl⟩ := hb
  obtain ⟨sa, sc, rfl⟩ := ho.slice
  refine calls_of (c := _) (rs := _) (n := 19) Tryz.func187 rfl rfl rfl rfl rfl ?_
  refine wc_seq ?_
  refine wc_region ?_
  refine wl (y_assign rfl) rfl ?_
  refine wl (y_assign rfl) rfl ?_
  refine wl_nil ?_
  refine wc_seq ?_
  refine wc_region ?_
  refine wl (y_move rfl) rfl ?_
  refine wl_call (.cons rfl .nil) (copyCheck_c ha hS.uncons) rfl ?_
  intro _ w hS
  refine wl_nil ?_
  refine wc_seq ?_
  refine wc_region ?_
  refine wl (y_move rfl) rfl ?_
  refine wl (y_move rfl) rfl ?_
  refine wl (y_nil rfl) rfl ?_
  refine wl (y_fld fl_175_1 rfl) rfl ?_
  refine wl (y_load pl_173 rfl (hS.cell rfl)) rfl ?_
  refine wl (y_move rfl) rfl ?_
  refine a_append_s Tryz.underlying173 Tryz.underlying9 sz_5 z_5 rfl by_5 (by decide) rfl rfl ho hS hs rfl fun s1 H1 w ho1 hS => ?_
  obtain ⟨sa1, sc1, rfl⟩ := ho1.slice
  refine wl (y_nil rfl) rfl ?_
  refine wl (y_fld fl_175_1 rfl) rfl ?_
  refine a_store sz_173 rfl rfl rfl hS (Nat.le_of_ble_eq_true rfl) fun w hS => ?_
  refine wl_nil ?_
  simp only [List.setIfInBounds_toArray, List.set_cons_zero, List.set_cons_succ, Nat.zero_add, Nat.add_zero, cells_agg, setCells] at hS
  refine wc_seq ?_
  refine wc_region ?_
  refine wl (y_move rfl) rfl ?_
  refine wl (y_len_s Tryz.underlying9 rfl) rfl ?_
  refine wl (y_assign rfl) rfl ?_
  refine wl (y_assign rfl) rfl ?_
  refine wl_nil ?_
  refine wc_ret ?_
  refine wret (vs := [_, _]) (.tmp rfl (.tmp rfl .nil)) ?_
  exact ⟨_, ⟨_, _, _, .inr rfl, ho1, rfl⟩, hS.keep⟩

/-! the text of a builder -/
theorem bstr_c {p : Nat} {bs : List UInt8} {wrong : Bool} {H : Chunk} (hb : IsW p bs wrong H) (hs : bs.length ≤ 274877906944) (hS : St M w (H :: Ls)) :
    CallsR Tryz.prog 164 [.pointer (some ⟨p, 0, none⟩)].toArray w fun v w' => v = .string (str bs) ∧ St M w' Ls := by
  obtain ⟨a, s, Hs, ha, ho, rfl⟩ := hb
  obtain ⟨sa, sc, rfl⟩ := ho.slice
  cases sa with
  | none =>
    have hnil : bs = [] := by
      rcases ho with ⟨h1, h2, _⟩ | ⟨b, off, cap, pre, sp, fz, h1, _⟩
      · exact h2
      · cases h1
    subst hnil
    refine calls_of (c := _) (rs := _) (n := 14) Tryz.func164 rfl rfl rfl rfl rfl ?_
    refine wc_seq ?_
    refine wc_region ?_
    refine wl (y_assign rfl) rfl ?_
    refine wl_nil ?_
    refine wc_seq ?_
    refine wc_draw (l0 := (lb 12 0)) (fun w => w.cell? ⟨p, 1, none⟩ = some (.slice none 0 sc)) [] wide_ rfl rfl fun w hw => ?_
    replace hS := hS.same hw; clear hw
    refine dr_pure (i := 0) (lb 12 1) rfl rfl (by kernel_rfl) (fun w => y_move rfl) ?_
    refine dr_pure (i := 1) (lb 12 3) rfl rfl (by kernel_rfl) (fun w => y_nil rfl) ?_
    refine dr_pure (i := 2) (lb 12 7) rfl rfl (by kernel_rfl) (fun w => y_fld fl_175_1 rfl) ?_
    refine dr_pure (i := 5) (lb 12 39) rfl rfl (by kernel_rfl) (fun w => y_move rfl) ?_
    refine dr_pure (i := 6) (lb 12 103) rfl rfl (by kernel_rfl) (fun w => y_nil rfl) ?_
    refine dr_pure (i := 7) (lb 12 231) rfl rfl (by kernel_rfl) (fun w => y_fld fl_175_1 rfl) ?_
    refine dr_read (i := 3) (lb 12 239) rfl rfl (by kernel_rfl) (hS.cell rfl) (fun w hS => y_load pl_173 rfl hS) ?_
    refine dr_pure (i := 4) (lb 12 255) rfl rfl (by kernel_rfl) (fun w => y_sdata_nil rfl) ?_
    refine dr_read (i := 8) (lb 12 511) rfl rfl (by kernel_rfl) (hS.cell rfl) (fun w hS => y_load pl_173 rfl hS) ?_
    refine dr_pure (i := 9) (lb 12 1023) rfl rfl (by kernel_rfl) (fun w => y_len_sl Tryz.underlying173 rfl) ?_
    refine dr_pure (i := 10) (lb 12 2047) rfl rfl (by kernel_rfl) (fun w => y_ustr0 rfl rfl) ?_
    refine dr_pure (i := 11) (lb 12 4095) rfl rfl (by kernel_rfl) (fun w => y_assign rfl) ?_
    refine dr_done (by kernel_rfl) ?_
    refine wc_ret ?_
    refine wret (vs := [_]) (.tmp rfl .nil) ?_
    exact ⟨rfl, hS.keep⟩
  | some ad =>
    obtain ⟨g, off, hg⟩ : ∃ g off, ad = ⟨g, off, none⟩ := by
      rcases ho with ⟨h1, _⟩ | ⟨b, off, cap, pre, sp, fz, h1, _⟩
      · cases h1
      · simp only [Value.slice.injEq, Option.some.injEq] at h1; exact ⟨b, off, h1.1⟩
    subst hg
    obtain ⟨_, hcap⟩ := ho.cap
    by_cases hne : bs = []
    · subst hne
      by_cases hc : sc = 0
      · subst hc
        obtain ⟨T0, cs0, fz0, hH⟩ : ∃ T0 cs0 fz0, Hs = [(g, .cells cs0 T0 fz0)] := by
          rcases ho with ⟨h1, _⟩ | ⟨b, off, cap, pre, sp, fz, h1, h2, _⟩
          · cases h1
          · simp only [Value.slice.injEq, Option.some.injEq, Addr.mk.injEq] at h1; obtain ⟨⟨rfl, _, _⟩, _, _⟩ := h1; exact ⟨_, _, _, h2⟩
        subst hH
        refine calls_of (c := _) (rs := _) (n := 14) Tryz.func164 rfl rfl rfl rfl rfl ?_
        refine wc_seq ?_
        refine wc_region ?_
        refine wl (y_assign rfl) rfl ?_
        refine wl_nil ?_
        refine wc_seq ?_
        refine wc_draw (l0 := (lb 12 0)) (fun w => w.cell? ⟨p, 1, none⟩ = some (.slice (some ⟨g, off, none⟩) 0 0)) [] wide_ rfl rfl fun w hw => ?_
        replace hS := hS.same hw; clear hw
        refine dr_pure (i := 0) (lb 12 1) rfl rfl (by kernel_rfl) (fun w => y_move rfl) ?_
        refine dr_pure (i := 1) (lb 12 3) rfl rfl (by kernel_rfl) (fun w => y_nil rfl) ?_
        refine dr_pure (i := 2) (lb 12 7) rfl rfl (by kernel_rfl) (fun w => y_fld fl_175_1 rfl) ?_
        refine dr_pure (i := 5) (lb 12 39) rfl rfl (by kernel_rfl) (fun w => y_move rfl) ?_
        refine dr_pure (i := 6) (lb 12 103) rfl rfl (by kernel_rfl) (fun w => y_nil rfl) ?_
        refine dr_pure (i := 7) (lb 12 231) rfl rfl (by kernel_rfl) (fun w => y_fld fl_175_1 rfl) ?_
        refine dr_read (i := 3) (lb 12 239) rfl rfl (by kernel_rfl) (hS.cell rfl) (fun w hS => y_load pl_173 rfl hS) ?_
        refine dr_read (i := 8) (lb 12 495) rfl rfl (by kernel_rfl) (hS.cell rfl) (fun w hS => y_load pl_173 rfl hS) ?_
        refine dr_pure (i := 9) (lb 12 1007) rfl rfl (by kernel_rfl) (fun w => y_len_sl Tryz.underlying173 rfl) ?_
        refine dr_do (i := 4) (lb 12 1023) rfl (by kernel_rfl) ?_
        refine a_sdata0 Tryz.underlying251 rfl (St.shape (b := g) hS.uncons) hS rfl fun q Hq w hS => ?_
        refine wl_nil ⟨fun _ _ => hS.cell rfl, ?_⟩
        refine dr_pure (i := 10) (lb 12 2047) rfl rfl (by kernel_rfl) (fun w => y_ustr0 rfl rfl) ?_
        refine dr_pure (i := 11) (lb 12 4095) rfl rfl (by kernel_rfl) (fun w => y_assign rfl) ?_
        refine dr_done (by kernel_rfl) ?_
        refine wc_ret ?_
        refine wret (vs := [_]) (.tmp rfl .nil) ?_
        exact ⟨rfl, hS.keep⟩
      · skip
        refine calls_of (c := _) (rs := _) (n := 14) Tryz.func164 rfl rfl rfl rfl rfl ?_
        refine wc_seq ?_
        refine wc_region ?_
        refine wl (y_assign rfl) rfl ?_
        refine wl_nil ?_
        refine wc_seq ?_
        refine wc_draw (l0 := (lb 12 0)) (fun w => w.cell? ⟨p, 1, none⟩ = some (.slice (some ⟨g, off, none⟩) 0 sc)) [] wide_ rfl rfl fun w hw => ?_
        replace hS := hS.same hw; clear hw
        refine dr_pure (i := 0) (lb 12 1) rfl rfl (by kernel_rfl) (fun w => y_move rfl) ?_
        refine dr_pure (i := 1) (lb 12 3) rfl rfl (by kernel_rfl) (fun w => y_nil rfl) ?_
        refine dr_pure (i := 2) (lb 12 7) rfl rfl (by kernel_rfl) (fun w => y_fld fl_175_1 rfl) ?_
        refine dr_pure (i := 5) (lb 12 39) rfl rfl (by kernel_rfl) (fun w => y_move rfl) ?_
        refine dr_pure (i := 6) (lb 12 103) rfl rfl (by kernel_rfl) (fun w => y_nil rfl) ?_
        refine dr_pure (i := 7) (lb 12 231) rfl rfl (by kernel_rfl) (fun w => y_fld fl_175_1 rfl) ?_
        refine dr_read (i := 3) (lb 12 239) rfl rfl (by kernel_rfl) (hS.cell rfl) (fun w hS => y_load pl_173 rfl hS) ?_
        refine dr_pure (i := 4) (lb 12 255) rfl rfl (by kernel_rfl) (fun w => y_sdata hc rfl) ?_
        refine dr_read (i := 8) (lb 12 511) rfl rfl (by kernel_rfl) (hS.cell rfl) (fun w hS => y_load pl_173 rfl hS) ?_
        refine dr_pure (i := 9) (lb 12 1023) rfl rfl (by kernel_rfl) (fun w => y_len_sl Tryz.underlying173 rfl) ?_
        refine dr_pure (i := 10) (lb 12 2047) rfl rfl (by kernel_rfl) (fun w => y_ustr0 rfl rfl) ?_
        refine dr_pure (i := 11) (lb 12 4095) rfl rfl (by kernel_rfl) (fun w => y_assign rfl) ?_
        refine dr_done (by kernel_rfl) ?_
        refine wc_ret ?_
        refine wret (vs := [_]) (.tmp rfl .nil) ?_
        exact ⟨rfl, hS.keep⟩
    · have hc : sc ≠ 0 := by have : bs.length ≠ 0 := by simpa using hne
                             omega
      refine calls_of (c := _) (rs := _) (n := 14) Tryz.func164 rfl rfl rfl rfl rfl ?_
      refine wc_seq ?_
      refine wc_region ?_
      refine wl (y_assign rfl) rfl ?_
      refine wl_nil ?_
      refine wc_seq ?_
      refine wc_draw (l0 := (lb 12 0)) (fun w => w.cell? ⟨p, 1, none⟩ = some (.slice (some ⟨g, off, none⟩) bs.length sc)) [10] wide_ rfl rfl fun w hw => ?_
      replace hS := hS.same hw; clear hw
      refine dr_pure (i := 0) (lb 12 1) rfl rfl (by kernel_rfl) (fun w => y_move rfl) ?_
      refine dr_pure (i := 1) (lb 12 3) rfl rfl (by kernel_rfl) (fun w => y_nil rfl) ?_
      refine dr_pure (i := 2) (lb 12 7) rfl rfl (by kernel_rfl) (fun w => y_fld fl_175_1 rfl) ?_
      refine dr_pure (i := 5) (lb 12 39) rfl rfl (by kernel_rfl) (fun w => y_move rfl) ?_
      refine dr_pure (i := 6) (lb 12 103) rfl rfl (by kernel_rfl) (fun w => y_nil rfl) ?_
      refine dr_pure (i := 7) (lb 12 231) rfl rfl (by kernel_rfl) (fun w => y_fld fl_175_1 rfl) ?_
      refine dr_read (i := 3) (lb 12 239) rfl rfl (by kernel_rfl) (hS.cell rfl) (fun w hS => y_load pl_173 rfl hS) ?_
      refine dr_pure (i := 4) (lb 12 255) rfl rfl (by kernel_rfl) (fun w => y_sdata hc rfl) ?_
      refine dr_read (i := 8) (lb 12 511) rfl rfl (by kernel_rfl) (hS.cell rfl) (fun w hS => y_load pl_173 rfl hS) ?_
      refine dr_pure (i := 9) (lb 12 1023) rfl rfl (by kernel_rfl) (fun w => y_len_sl Tryz.underlying173 rfl) ?_
      refine dr_do (i := 10) (lb 12 2047) rfl (by kernel_rfl) ?_
      refine a_ustr Tryz.underlying251 (by kernel_rfl) rfl rfl hne (by omega) ho hS rfl fun w hS => ?_
      refine wl_nil ⟨fun h => absurd (by decide) h, ?_⟩
      refine dr_pure (i := 11) (lb 12 4095) rfl rfl (by kernel_rfl) (fun w => y_assign rfl) ?_
      refine dr_done (by kernel_rfl) ?_
      refine wc_ret ?_
      refine wret (vs := [_]) (.tmp rfl .nil) ?_
      exact ⟨rfl, hS.keep⟩

/-! fields -/
theorem putw_c (hG : Bits M) {p : Nat} {bs : List UInt8} {H : Chunk} (n : Nat) (hn : n < 4611686018427387904) (hb : IsW p bs false H) (hs : bs.length ≤ 137438953472) (hS : St M w (H :: Ls)) :
    CallsR Tryz.prog 161 [.pointer (some ⟨p, 0, none⟩), .int .u64 n, .bool true].toArray w fun v w' => ∃ H', IsW p (bs ++ pput n) false H' ∧ St M w' (H' :: Ls) := by
  have hpl : (pput n).length ≤ 8 := by unfold pput; rw [be_length]; exact psize_le n
  have hpv : putV n = .tuple [.string (str (pput n)), .int .i64 0].toArray := by unfold putV; rw [if_pos hn]
  have hss : (str (pput n)).size = (pput n).length := by simp [str, ByteArray.size]
  obtain ⟨a, s, Hs, ha, ho, rfl⟩ := hb
  refine calls_of (c := _) (rs := _) (n := 33) Tryz.func161 rfl rfl rfl rfl rfl ?_
  refine wc_seq ?_
  refine wc_region ?_
  refine wl (y_move rfl) rfl ?_
  refine wl_call (.cons rfl .nil) (put_c hG n (by omega) hS) rfl ?_
  rintro _ w ⟨rfl, hS⟩
  rw [hpv]
  refine wl (y_move rfl) rfl ?_
  refine wl (y_extract (vs := [_, _]) rfl rfl) rfl ?_
  refine wl (y_extract (vs := [_, _]) rfl rfl) rfl ?_
  refine wl (y_assign rfl) rfl ?_
  refine wl (y_assign rfl) rfl ?_
  refine wl_nil ?_
  refine wc_seq ?_
  refine wc_region ?_
  refine wl (y_move rfl) rfl ?_
  refine wl (y_move rfl) rfl ?_
  refine wl (y_nil rfl) rfl ?_
  refine wl (y_fld fl_177_1 rfl) rfl ?_
  refine wl (y_load pl_4 rfl (hS.cell rfl)) rfl ?_
  refine wl (y_move rfl) rfl ?_
  refine wl_on rfl rfl ?_
  refine wl (y_move rfl) rfl ?_
  refine wl_on rfl rfl ?_
  refine wl (y_not rfl) rfl ?_
  refine wl (y_pickF rfl rfl) rfl ?_
  refine wl (y_move rfl) rfl ?_
  refine wl_on rfl rfl ?_
  refine wl (y_move rfl) rfl ?_
  refine wl_on rfl rfl ?_
  refine wl ((y_neq rfl rfl).val (u := .bool false) rfl) rfl ?_
  refine wl (y_pickF rfl rfl) rfl ?_
  refine wl (y_nil rfl) rfl ?_
  refine wl (y_fld fl_177_1 rfl) rfl ?_
  refine a_store sz_4 rfl rfl rfl hS (Nat.le_of_ble_eq_true rfl) fun w hS => ?_
  refine wl_nil ?_
  simp only [List.setIfInBounds_toArray, List.set_cons_zero, List.set_cons_succ, Nat.zero_add, Nat.add_zero, cells_agg, setCells] at hS
  refine wc_region ?_
  refine wl (y_move rfl) rfl ?_
  refine wl (y_nil rfl) rfl ?_
  refine wl (y_fld fl_177_0 rfl) rfl ?_
  refine wl (y_move rfl) rfl ?_
  refine wl_call (.cons rfl (.cons rfl .nil)) (wstr_c (str (pput n)) ⟨a, s, Hs, ha, ho, rfl⟩ (by rw [hss]; omega) hS) rfl ?_
  rintro _ w ⟨H', hb, hS⟩
  refine wl_nil ?_
  refine wretN (vs := []) .nil ?_
  exact ⟨_, hb, hS⟩
theorem wnum_c (hG : Bits M) {p : Nat} {bs : List UInt8} {H : Chunk} (n : Nat) (hn : n < 4611686018427387904) (hb : IsW p bs false H) (hs : bs.length ≤ 137438953472) (hS : St M w (H :: Ls)) :
    CallsR Tryz.prog 122 [.pointer (some ⟨p, 0, none⟩), .int .i64 n].toArray w fun v w' => ∃ H', IsW p (bs ++ pput n) false H' ∧ St M w' (H' :: Ls) := by
  refine calls_of (c := _) (rs := _) (n := 10) Tryz.func122 rfl rfl rfl rfl rfl ?_
  refine wc_region ?_
  refine wl (y_move rfl) rfl ?_
  refine wl (y_move rfl) rfl ?_
  refine wl (y_conv Tryz.underlying3 Tryz.underlying190 rfl (natwrap64 n (by omega))) rfl ?_
  refine wl (y_move rfl) rfl ?_
  refine wl ((y_geq rfl rfl).val (u := .bool true) (congrArg Value.bool (decide_eq_true (by omega)))) rfl ?_
  refine wl_call (.cons rfl (.cons rfl (.cons rfl .nil))) (putw_c hG n hn hb hs hS) rfl ?_
  rintro _ w ⟨H', hb, hS⟩
  refine wl_nil ?_
  refine wretN (vs := []) .nil ?_
  exact ⟨_, hb, hS⟩
theorem wsig_c (hG : Bits M) {p : Nat} {bs : List UInt8} {H : Chunk} (n : Int) (hn : -2305843009213693952 ≤ n ∧ n < 2305843009213693952) (hb : IsW p bs false H) (hs : bs.length ≤ 137438953472) (hS : St M w (H :: Ls)) :
    CallsR Tryz.prog 163 [.pointer (some ⟨p, 0, none⟩), .int .i64 n].toArray w fun v w' => ∃ H', IsW p (bs ++ pput (zig n)) false H' ∧ St M w' (H' :: Ls) := by
  have hz : zig n < 4611686018427387904 := by unfold zig; split <;> omega
  have hzv : zigV n = .tuple [.int .u64 (zig n), .bool true].toArray := by unfold zigV zigOk; rw [decide_eq_true hn, if_pos rfl]
  refine calls_of (c := _) (rs := _) (n := 10) Tryz.func163 rfl rfl rfl rfl rfl ?_
  refine wc_region ?_
  refine wl (y_move rfl) rfl ?_
  refine wl (y_move rfl) rfl ?_
  refine wl_call (.cons rfl .nil) (zig_c n (by omega) hS) rfl ?_
  rintro _ w ⟨rfl, hS⟩
  rw [hzv]
  refine wl (y_extract (vs := [_, _]) rfl rfl) rfl ?_
  refine wl (y_extract (vs := [_, _]) rfl rfl) rfl ?_
  refine wl_call (.cons rfl (.cons rfl (.cons rfl .nil))) (putw_c hG (zig n) hz hb hs hS) rfl ?_
  rintro _ w ⟨H', hb, hS⟩
  refine wl_nil ?_
  refine wretN (vs := []) .nil ?_
  exact ⟨_, hb, hS⟩
def ptext (b : ByteArray) : List UInt8 := pput b.size ++ b.data.toList
theorem wtext_c (hG : Bits M) {p : Nat} {bs : List UInt8} {H : Chunk} (b : ByteArray) (hn : b.size ≤ 1099511627776) (hb : IsW p bs false H) (hs : bs.length + b.size ≤ 68719476736) (hS : St M w (H :: Ls)) :
    CallsR Tryz.prog 162 [.pointer (some ⟨p, 0, none⟩), .string b].toArray w fun v w' => ∃ H', IsW p (bs ++ ptext b) false H' ∧ St M w' (H' :: Ls) := by
  have hpl : (pput b.size).length ≤ 8 := by unfold pput; rw [be_length]; exact psize_le _
  have he : bs ++ ptext b = (bs ++ pput b.size) ++ b.data.toList := by unfold ptext; rw [List.append_assoc]
  rw [he]
  refine calls_of (c := _) (rs := _) (n := 13) Tryz.func162 rfl rfl rfl rfl rfl ?_
  refine wc_seq ?_
  refine wc_region ?_
  refine wl (y_move rfl) rfl ?_
  refine wl (y_move rfl) rfl ?_
  refine wl (y_len_s Tryz.underlying9 rfl) rfl ?_
  refine wl_call (.cons rfl (.cons rfl .nil)) (wnum_c hG b.size (by omega) hb (by omega) hS) rfl ?_
  rintro _ w ⟨H', hb, hS⟩
  refine wl_nil ?_
  refine wc_region ?_
  refine wl (y_move rfl) rfl ?_
  refine wl (y_nil rfl) rfl ?_
  refine wl (y_fld fl_177_0 rfl) rfl ?_
  refine wl (y_move rfl) rfl ?_
  refine wl_call (.cons rfl (.cons rfl .nil)) (wstr_c b hb (by rw [List.length_append]; omega) hS) rfl ?_
  rintro _ w ⟨H', hb, hS⟩
  refine wl_nil ?_
  refine wretN (vs := []) .nil ?_
  exact ⟨_, hb, hS⟩
theorem wbytes_c {p : Nat} {bs : List UInt8} {H : Chunk} (hb : IsW p bs false H) (hs : bs.length ≤ 274877906944) (hS : St M w (H :: Ls)) :
    CallsR Tryz.prog 124 [.pointer (some ⟨p, 0, none⟩)].toArray w fun v w' => v = .tuple [.string (str bs), .int .i64 0].toArray ∧ St M w' Ls := by
  have hb0 := hb
  obtain ⟨a, s, Hs, ha, ho, rfl⟩ := hb
  refine calls_of (c := _) (rs := _) (n := 12) Tryz.func124 rfl rfl rfl rfl rfl ?_
  refine wc_seq ?_
  refine wc_region ?_
  refine wl (y_assign rfl) rfl ?_
  refine wl (y_assign rfl) rfl ?_
  refine wl_nil ?_
  refine wc_seq ?_
  refine wc_seq ?_
  refine wc_region ?_
  refine wl (y_move rfl) rfl ?_
  refine wl (y_nil rfl) rfl ?_
  refine wl (y_fld fl_177_1 rfl) rfl ?_
  refine wl (y_load pl_4 rfl (hS.cell rfl)) rfl ?_
  refine wl_nil ?_
  refine wc_ifF rfl rfl ?_
  refine wc_skip ?_
  refine wc_seq ?_
  refine wc_region ?_
  refine wl (y_move rfl) rfl ?_
  refine wl (y_nil rfl) rfl ?_
  refine wl (y_fld fl_177_0 rfl) rfl ?_
  refine wl_call (.cons rfl .nil) (bstr_c hb0 hs hS) rfl ?_
  rintro _ w ⟨rfl, hS⟩
  refine wl (y_assign rfl) rfl ?_
  refine wl (y_assign rfl) rfl ?_
  refine wl_nil ?_
  refine wc_ret ?_
  refine wret (vs := [_, _]) (.tmp rfl (.tmp rfl .nil)) ?_
  exact ⟨rfl, hS⟩
end
end Go.Proofs.YtndahppmjdbifaaGreatDoor.Pak

set_option linter.unusedVariables false
set_option linter.unusedSimpArgs false
namespace Go.Proofs.YtndahppmjdbifaaGreatDoor.Pak
open Go Go.Proofs Go.Proofs.YtndahppmjdbifaaGreatDoor.Eng Go.Proofs.YtndahppmjdbifaaGreatDoor.Pre

/-! ### the reader -/
structure Rdr where
  b : ByteArray
  at_ : Nat
  e : Nat
def Rdr.ok (r : Rdr) : Prop := r.at_ ≤ r.b.size ∧ r.b.size ≤ 140737488351232
def rest (r : Rdr) : List UInt8 := r.b.data.toList.drop r.at_
@[irreducible] def rraw (r : Rdr) : Nat × Rdr :=
  if r.e ≠ 0 then (0, r) else
  if (pget (rest r)).2.2 ≠ 0 then (0, ⟨r.b, r.at_, (pget (rest r)).2.2⟩) else ((pget (rest r)).1, ⟨r.b, r.at_ + (pget (rest r)).2.1, r.e⟩)
@[irreducible] def rfail (r : Rdr) (e : Nat) : Rdr := if r.e = 0 then ⟨r.b, r.at_, e⟩ else r
@[irreducible] def rnum (r : Rdr) (lim : Nat) : Nat × Rdr := if (rraw r).1 > lim then (0, rfail (rraw r).2 1) else rraw r
@[irreducible] def rsig (r : Rdr) : Int × Rdr := (zag (rraw r).1, (rraw r).2)
@[irreducible] def rtext (r : Rdr) (lim : Nat) : ByteArray × Rdr :=
  let x := rnum r lim
  if x.1 > x.2.b.size - x.2.at_ then (ByteArray.empty, rfail x.2 2) else (x.2.b.extract x.2.at_ (x.2.at_ + x.1), ⟨x.2.b, x.2.at_ + x.1, x.2.e⟩)
@[irreducible] def rend (r : Rdr) : Rdr := if r.at_ < r.b.size then rfail r 4 else r

theorem pget_ok (l : List UInt8) : (pget l).2.1 ≤ l.length ∧ (pget l).1 < 4611686018427387904 := by
  cases l with
  | nil => simp [pget]
  | cons c l =>
    simp only [pget]
    by_cases h : (c :: l).length < 2 ^ (c.toNat / 64)
    · rw [if_pos h]; simp
    · rw [if_neg h]
      by_cases h2 : psize (un (c.toNat % 64) (l.take (2 ^ (c.toNat / 64) - 1))) = 2 ^ (c.toNat / 64)
      · rw [if_pos h2]
        refine ⟨by simp only; omega, ?_⟩
        simp only
        rcases Nat.lt_or_ge (un (c.toNat % 64) (l.take (2 ^ (c.toNat / 64) - 1))) 4611686018427387904 with h3 | h3
        · exact h3
        · have : psize (un (c.toNat % 64) (l.take (2 ^ (c.toNat / 64) - 1))) = 0 := by unfold psize; rw [if_neg (by omega)]
          have hp : 0 < 2 ^ (c.toNat / 64) := Nat.pow_pos (by omega)
          omega
      · rw [if_neg h2]; simp
theorem pget_e (l : List UInt8) : (pget l).2.2 ≤ 3 := by
  cases l with
  | nil => simp [pget]
  | cons c l =>
    simp only [pget]
    split
    · simp
    · split <;> simp
theorem rest_length {r : Rdr} (h : r.ok) : (rest r).length = r.b.size - r.at_ := by unfold rest; rw [List.length_drop]; simp
theorem rraw_ok {r : Rdr} (h : r.ok) : (rraw r).2.ok ∧ (rraw r).1 < 4611686018427387904 ∧ (rraw r).2.b = r.b := by
  unfold rraw
  have hp := pget_ok (rest r)
  rw [rest_length h] at hp
  split
  · exact ⟨h, (by decide : 0 < 4611686018427387904), rfl⟩
  · split
    · exact ⟨h, (by decide : 0 < 4611686018427387904), rfl⟩
    · exact ⟨⟨by have := h.1; simp only; omega, h.2⟩, hp.2, rfl⟩
theorem rfail_ok {r : Rdr} (h : r.ok) (e : Nat) : (rfail r e).ok ∧ (rfail r e).b = r.b := by
  unfold rfail; split
  · exact ⟨h, rfl⟩
  · exact ⟨h, rfl⟩
theorem rnum_ok {r : Rdr} (h : r.ok) (lim : Nat) : (rnum r lim).2.ok ∧ (rnum r lim).1 ≤ lim ∧ (rnum r lim).2.b = r.b := by
  have h1 := rraw_ok h
  unfold rnum
  split
  · exact ⟨(rfail_ok h1.1 1).1, Nat.zero_le _, (rfail_ok h1.1 1).2.trans h1.2.2⟩
  · exact ⟨h1.1, by omega, h1.2.2⟩
theorem rtext_ok {r : Rdr} (h : r.ok) (lim : Nat) : (rtext r lim).2.ok ∧ (rtext r lim).1.size ≤ lim ∧ (rtext r lim).2.b = r.b := by
  have h1 := rnum_ok h lim
  unfold rtext
  simp only
  split
  · exact ⟨(rfail_ok h1.1 2).1, Nat.zero_le _, (rfail_ok h1.1 2).2.trans h1.2.2⟩
  · refine ⟨⟨?_, h1.1.2⟩, ?_, h1.2.2⟩
    · have := h1.1.1; simp only; omega
    · rw [ByteArray.size_extract]; have := h1.2.1; omega
theorem rend_ok {r : Rdr} (h : r.ok) : (rend r).ok := by
  unfold rend; split
  · exact (rfail_ok h 4).1
  · exact h

def rdrO (r : Rdr) : Obj := .cells #[.string r.b, .int .i64 r.at_, .int .i64 r.e] 189
section
variable {M : Mem} {w : World} {Ls : List Chunk}
theorem read_c (b : ByteArray) (hS : St M w Ls) : CallsR Tryz.prog 65 [.string b].toArray w fun v w' => ∃ p, v = .pointer (some ⟨p, 0, none⟩) ∧ St M w' ([(p, rdrO ⟨b, 0, 0⟩)] :: Ls) := by
  refine calls_of (c := _) (rs := _) (n := 6) Tryz.func65 rfl rfl rfl rfl rfl ?_
  refine wc_seq ?_
  refine wc_region ?_
  refine wl (y_assign rfl) rfl ?_
  refine wl_nil ?_
  refine wc_seq ?_
  refine wc_region ?_
  refine wl (y_move rfl) rfl ?_
  refine wl (y_build (is := [0]) (xs := [_]) (out := [_, _, _]) plc_189 z_189 (.cons rfl .nil) rfl) rfl ?_
  refine a_box rfl hS rfl fun b5 w hS => ?_
  refine wl (y_assign rfl) rfl ?_
  refine wl_nil ?_
  refine wc_ret ?_
  refine wret (vs := [_]) (.tmp rfl .nil) ?_
  exact ⟨_, rfl, hS⟩
theorem rfail_c {p : Nat} {r : Rdr} (e : Nat) (hS : St M w ([(p, rdrO r)] :: Ls)) :
    CallsR Tryz.prog 67 [.pointer (some ⟨p, 0, none⟩), .int .i64 e].toArray w fun v w' => St M w' ([(p, rdrO (rfail r e))] :: Ls) := by
  unfold rdrO at hS
  refine calls_of (c := _) (rs := _) (n := 13) Tryz.func67 rfl rfl rfl rfl rfl ?_
  refine wc_seq ?_
  refine wc_region ?_
  refine wl (y_move rfl) rfl ?_
  refine wl (y_nil rfl) rfl ?_
  refine wl (y_fld fl_189_2 rfl) rfl ?_
  refine wl (y_load pl_34 rfl (hS.cell rfl)) rfl ?_
  refine wl (y_eql rfl rfl) rfl ?_
  refine wl_nil ?_
  refine wc_if rfl (fun hc8 => ?_) (fun hc8 => ?_)
  · try simp only [zq1, zq2, zq3, zq4, zq5, zq6, zq7] at hc8
    have he : rfail r e = ⟨r.b, r.at_, e⟩ := by unfold rfail; rw [if_pos (by omega)]
    rw [he]
    refine wc_region ?_
    refine wl (y_move rfl) rfl ?_
    refine wl (y_move rfl) rfl ?_
    refine wl (y_nil rfl) rfl ?_
    refine wl (y_fld fl_189_2 rfl) rfl ?_
    refine a_store sz_34 rfl rfl rfl hS (Nat.le_of_ble_eq_true rfl) fun w hS => ?_
    refine wl_nil ?_
    simp only [List.setIfInBounds_toArray, List.set_cons_zero, List.set_cons_succ, Nat.zero_add, Nat.add_zero, cells_agg, setCells] at hS
    refine wretN (vs := []) .nil ?_
    exact hS
  · try simp only [zq1, zq2, zq3, zq4, zq5, zq6, zq7] at hc8
    have he : rfail r e = r := by unfold rfail; rw [if_neg (by omega)]
    rw [he]
    refine wc_skip ?_
    refine wretN (vs := []) .nil ?_
    exact hS
theorem rget_c (hG : Bits M) {p : Nat} {r : Rdr} (h : r.ok) (hS : St M w ([(p, rdrO r)] :: Ls)) :
    CallsR Tryz.prog 131 [.pointer (some ⟨p, 0, none⟩)].toArray w fun v w' => v = .int .u64 (rraw r).1 ∧ St M w' ([(p, rdrO (rraw r).2)] :: Ls) := by
  obtain ⟨h1, h2⟩ := h
  have hpe := pget_e (rest r)
  unfold rdrO at hS
  unfold rraw
  refine calls_of (c := _) (rs := _) (n := 35) Tryz.func131 rfl rfl rfl rfl rfl ?_
  refine wc_seq ?_
  refine wc_region ?_
  refine wl (y_assign rfl) rfl ?_
  refine wl_nil ?_
  refine wc_seq ?_
  refine wc_seq ?_
  refine wc_region ?_
  refine wl (y_move rfl) rfl ?_
  refine wl (y_nil rfl) rfl ?_
  refine wl (y_fld fl_189_2 rfl) rfl ?_
  refine wl (y_load pl_34 rfl (hS.cell rfl)) rfl ?_
  refine wl (y_neq rfl rfl) rfl ?_
  refine wl_nil ?_
  refine wc_if rfl (fun hc10 => ?_) (fun hc10 => ?_)
  · try simp only [zq1, zq2, zq3, zq4, zq5, zq6, zq7] at hc10
    rw [if_pos (by omega)]
    refine wc_seq ?_
    refine wc_region ?_
    refine wl (y_assign rfl) rfl ?_
    refine wl_nil ?_
    refine wc_ret ?_
    refine wret (vs := [_]) (.tmp rfl .nil) ?_
    exact ⟨rfl, hS⟩
  · try simp only [zq1, zq2, zq3, zq4, zq5, zq6, zq7] at hc10
    rw [if_neg (by omega)]
    refine wc_skip ?_
    refine wc_seq ?_
    refine wc_draw (l0 := (lb 16 0)) (fun w => w.cell? ⟨p, 0, none⟩ = some (.string r.b) ∧ w.cell? ⟨p, 1, none⟩ = some (.int .i64 r.at_)) [8] wide_ rfl rfl fun w hw => ?_
    replace hS := hS.same hw; clear hw
    refine dr_pure (i := 0) (lb 16 1) rfl rfl (by kernel_rfl) (fun w => y_move rfl) ?_
    refine dr_pure (i := 1) (lb 16 3) rfl rfl (by kernel_rfl) (fun w => y_nil rfl) ?_
    refine dr_pure (i := 2) (lb 16 7) rfl rfl (by kernel_rfl) (fun w => y_fld fl_189_0 rfl) ?_
    refine dr_pure (i := 4) (lb 16 23) rfl rfl (by kernel_rfl) (fun w => y_move rfl) ?_
    refine dr_pure (i := 5) (lb 16 55) rfl rfl (by kernel_rfl) (fun w => y_nil rfl) ?_
    refine dr_pure (i := 6) (lb 16 119) rfl rfl (by kernel_rfl) (fun w => y_fld fl_189_1 rfl) ?_
    refine dr_read (i := 3) (lb 16 127) rfl rfl (by kernel_rfl) ⟨hS.cell rfl, hS.cell rfl⟩ (fun w hS => y_load pl_9 rfl hS.1) ?_
    refine dr_read (i := 7) (lb 16 255) rfl rfl (by kernel_rfl) ⟨hS.cell rfl, hS.cell rfl⟩ (fun w hS => y_load pl_3 rfl hS.2) ?_
    refine dr_do (i := 8) (lb 16 511) rfl (by kernel_rfl) ?_
    refine wl_call (.cons rfl (.cons rfl .nil)) (get_c hG r.b r.at_ h2 h1 hS) rfl ?_
    rintro _ w ⟨rfl, hS⟩
    unfold getV
    refine wl_nil ⟨fun h => absurd (by decide) h, ?_⟩
    refine dr_pure (i := 9) (lb 16 1023) rfl rfl (by kernel_rfl) (fun w => y_move rfl) ?_
    refine dr_pure (i := 10) (lb 16 2047) rfl rfl (by kernel_rfl) (fun w => y_extract (vs := [_, _, _]) rfl rfl) ?_
    refine dr_pure (i := 11) (lb 16 4095) rfl rfl (by kernel_rfl) (fun w => y_extract (vs := [_, _, _]) rfl rfl) ?_
    refine dr_pure (i := 12) (lb 16 8191) rfl rfl (by kernel_rfl) (fun w => y_extract (vs := [_, _, _]) rfl rfl) ?_
    refine dr_pure (i := 13) (lb 16 16383) rfl rfl (by kernel_rfl) (fun w => y_assign rfl) ?_
    refine dr_pure (i := 14) (lb 16 32767) rfl rfl (by kernel_rfl) (fun w => y_assign rfl) ?_
    refine dr_pure (i := 15) (lb 16 65535) rfl rfl (by kernel_rfl) (fun w => y_assign rfl) ?_
    refine dr_done (by kernel_rfl) ?_
    refine wc_seq ?_
    refine wc_seq ?_
    refine wc_region ?_
    refine wl (y_move rfl) rfl ?_
    refine wl (y_neq rfl rfl) rfl ?_
    refine wl_nil ?_
    refine wc_if rfl (fun hc25 => ?_) (fun hc25 => ?_)
    · try simp only [zq1, zq2, zq3, zq4, zq5, zq6, zq7] at hc25
      rw [if_pos (by unfold rest; omega)]
      refine wc_seq ?_
      refine wc_region ?_
      refine wl (y_move rfl) rfl ?_
      refine wl (y_move rfl) rfl ?_
      refine wl (y_nil rfl) rfl ?_
      refine wl (y_fld fl_189_2 rfl) rfl ?_
      refine a_store sz_34 rfl rfl rfl hS (Nat.le_of_ble_eq_true rfl) fun w hS => ?_
      refine wl_nil ?_
      simp only [List.setIfInBounds_toArray, List.set_cons_zero, List.set_cons_succ, Nat.zero_add, Nat.add_zero, cells_agg, setCells] at hS
      refine wc_seq ?_
      refine wc_region ?_
      refine wl (y_assign rfl) rfl ?_
      refine wl_nil ?_
      refine wc_ret ?_
      refine wret (vs := [_]) (.tmp rfl .nil) ?_
      exact ⟨rfl, hS⟩
    · try simp only [zq1, zq2, zq3, zq4, zq5, zq6, zq7] at hc25
      have he0 : (pget (rest r)).2.2 = 0 := by unfold rest; omega
      rw [if_neg (by rw [he0]; decide)]
      have he1 : (pget (List.drop r.at_ r.b.data.toList)).2.2 = 0 := he0
      rw [if_pos he1]
      refine wc_skip ?_
      refine wc_seq ?_
      refine wc_region ?_
      refine wl (y_move rfl) rfl ?_
      refine wl (y_move rfl) rfl ?_
      refine wl (y_nil rfl) rfl ?_
      refine wl (y_fld fl_189_1 rfl) rfl ?_
      refine a_store sz_3 rfl rfl rfl hS (Nat.le_of_ble_eq_true rfl) fun w hS => ?_
      refine wl_nil ?_
      simp only [List.setIfInBounds_toArray, List.set_cons_zero, List.set_cons_succ, Nat.zero_add, Nat.add_zero, cells_agg, setCells] at hS
      refine wc_seq ?_
      refine wc_region ?_
      refine wl (y_move rfl) rfl ?_
      refine wl (y_assign rfl) rfl ?_
      refine wl_nil ?_
      refine wc_ret ?_
      refine wret (vs := [_]) (.tmp rfl .nil) ?_
      exact ⟨rfl, hS⟩
theorem rnum_c (hG : Bits M) {p : Nat} {r : Rdr} (lim : Nat) (hlim : lim ≤ 1152921504606846976) (h : r.ok) (hS : St M w ([(p, rdrO r)] :: Ls)) :
    CallsR Tryz.prog 66 [.pointer (some ⟨p, 0, none⟩), .int .i64 lim].toArray w fun v w' => v = .int .i64 (rnum r lim).1 ∧ St M w' ([(p, rdrO (rnum r lim).2)] :: Ls) := by
  have hok := rraw_ok h
  unfold rnum
  refine calls_of (c := _) (rs := _) (n := 18) Tryz.func66 rfl rfl rfl rfl rfl ?_
  refine wc_seq ?_
  refine wc_region ?_
  refine wl (y_assign rfl) rfl ?_
  refine wl_nil ?_
  refine wc_seq ?_
  refine wc_region ?_
  refine wl (y_move rfl) rfl ?_
  refine wl_call (.cons rfl .nil) (rget_c hG h hS) rfl ?_
  rintro _ w ⟨rfl, hS⟩
  refine wl (y_assign rfl) rfl ?_
  refine wl_nil ?_
  refine wc_seq ?_
  refine wc_seq ?_
  refine wc_region ?_
  refine wl (y_move rfl) rfl ?_
  refine wl (y_move rfl) rfl ?_
  refine wl ((y_max rfl rfl).val (u := .int .i64 lim) (congrArg (Value.int .i64) (by omega))) rfl ?_
  refine wl ((y_min rfl rfl).val (u := .int .i64 lim) (congrArg (Value.int .i64) (by omega))) rfl ?_
  refine wl (y_conv Tryz.underlying3 Tryz.underlying190 rfl (natwrap64 lim (by omega))) rfl ?_
  refine wl (y_gtr rfl rfl) rfl ?_
  refine wl_nil ?_
  refine wc_if rfl (fun hc13 => ?_) (fun hc13 => ?_)
  · try simp only [zq1, zq2, zq3, zq4, zq5, zq6, zq7] at hc13
    rw [if_pos (by omega)]
    refine wc_seq ?_
    refine wc_region ?_
    refine wl (y_move rfl) rfl ?_
    refine wl_call (.cons rfl (.cons rfl .nil)) (rfail_c 1 hS) rfl ?_
    intro _ w hS
    refine wl_nil ?_
    refine wc_seq ?_
    refine wc_region ?_
    refine wl (y_assign rfl) rfl ?_
    refine wl_nil ?_
    refine wc_ret ?_
    refine wret (vs := [_]) (.tmp rfl .nil) ?_
    exact ⟨rfl, hS⟩
  · try simp only [zq1, zq2, zq3, zq4, zq5, zq6, zq7] at hc13
    rw [if_neg (by omega)]
    refine wc_skip ?_
    refine wc_seq ?_
    refine wc_region ?_
    refine wl (y_move rfl) rfl ?_
    refine wl (y_conv Tryz.underlying190 Tryz.underlying3 rfl (w64 (by omega) (by omega))) rfl ?_
    refine wl (y_assign rfl) rfl ?_
    refine wl_nil ?_
    refine wc_ret ?_
    refine wret (vs := [_]) (.tmp rfl .nil) ?_
    exact ⟨rfl, hS⟩
theorem rsig_c (hG : Bits M) {p : Nat} {r : Rdr} (h : r.ok) (hS : St M w ([(p, rdrO r)] :: Ls)) :
    CallsR Tryz.prog 175 [.pointer (some ⟨p, 0, none⟩)].toArray w fun v w' => v = .int .i64 (rsig r).1 ∧ St M w' ([(p, rdrO (rsig r).2)] :: Ls) := by
  have hok := rraw_ok h
  unfold rsig
  refine calls_of (c := _) (rs := _) (n := 6) Tryz.func175 rfl rfl rfl rfl rfl ?_
  refine wc_seq ?_
  refine wc_region ?_
  refine wl (y_assign rfl) rfl ?_
  refine wl_nil ?_
  refine wc_seq ?_
  refine wc_region ?_
  refine wl (y_move rfl) rfl ?_
  refine wl_call (.cons rfl .nil) (rget_c hG h hS) rfl ?_
  rintro _ w ⟨rfl, hS⟩
  refine wl_call (.cons rfl .nil) (zag_c (rraw r).1 (by omega) hS) rfl ?_
  rintro _ w ⟨rfl, hS⟩
  refine wl (y_assign rfl) rfl ?_
  refine wl_nil ?_
  refine wc_ret ?_
  refine wret (vs := [_]) (.tmp rfl .nil) ?_
  exact ⟨rfl, hS⟩
theorem rerr_c {p : Nat} {r : Rdr} (hS : St M w ([(p, rdrO r)] :: Ls)) :
    CallsR Tryz.prog 176 [.pointer (some ⟨p, 0, none⟩)].toArray w fun v w' => v = .int .i64 r.e ∧ St M w' ([(p, rdrO r)] :: Ls) := by
  unfold rdrO at hS
  refine calls_of (c := _) (rs := _) (n := 7) Tryz.func176 rfl rfl rfl rfl rfl ?_
  refine wc_seq ?_
  refine wc_region ?_
  refine wl (y_assign rfl) rfl ?_
  refine wl_nil ?_
  refine wc_seq ?_
  refine wc_region ?_
  refine wl (y_move rfl) rfl ?_
  refine wl (y_nil rfl) rfl ?_
  refine wl (y_fld fl_189_2 rfl) rfl ?_
  refine wl (y_load pl_34 rfl (hS.cell rfl)) rfl ?_
  refine wl (y_assign rfl) rfl ?_
  refine wl_nil ?_
  refine wc_ret ?_
  refine wret (vs := [_]) (.tmp rfl .nil) ?_
  exact ⟨rfl, hS⟩
theorem rend_c {p : Nat} {r : Rdr} (hS : St M w ([(p, rdrO r)] :: Ls)) :
    CallsR Tryz.prog 69 [.pointer (some ⟨p, 0, none⟩)].toArray w fun v w' => v = .int .i64 (rend r).e ∧ St M w' ([(p, rdrO (rend r))] :: Ls) := by
  unfold rend
  refine calls_of (c := _) (rs := _) (n := 19) Tryz.func69 rfl rfl rfl rfl rfl ?_
  refine wc_seq ?_
  refine wc_region ?_
  refine wl (y_assign rfl) rfl ?_
  refine wl_nil ?_
  refine wc_seq ?_
  refine wc_seq ?_
  unfold rdrO at hS
  refine wc_draw (l0 := (lb 10 0)) (fun w => w.cell? ⟨p, 0, none⟩ = some (.string r.b) ∧ w.cell? ⟨p, 1, none⟩ = some (.int .i64 r.at_)) [] wide_ rfl rfl fun w hw => ?_
  replace hS := hS.same hw; clear hw
  refine dr_pure (i := 0) (lb 10 1) rfl rfl (by kernel_rfl) (fun w => y_move rfl) ?_
  refine dr_pure (i := 1) (lb 10 3) rfl rfl (by kernel_rfl) (fun w => y_nil rfl) ?_
  refine dr_pure (i := 2) (lb 10 7) rfl rfl (by kernel_rfl) (fun w => y_fld fl_189_1 rfl) ?_
  refine dr_pure (i := 4) (lb 10 23) rfl rfl (by kernel_rfl) (fun w => y_move rfl) ?_
  refine dr_pure (i := 5) (lb 10 55) rfl rfl (by kernel_rfl) (fun w => y_nil rfl) ?_
  refine dr_pure (i := 6) (lb 10 119) rfl rfl (by kernel_rfl) (fun w => y_fld fl_189_0 rfl) ?_
  refine dr_read (i := 3) (lb 10 127) rfl rfl (by kernel_rfl) ⟨hS.cell rfl, hS.cell rfl⟩ (fun w hS => y_load pl_3 rfl hS.2) ?_
  refine dr_read (i := 7) (lb 10 255) rfl rfl (by kernel_rfl) ⟨hS.cell rfl, hS.cell rfl⟩ (fun w hS => y_load pl_9 rfl hS.1) ?_
  refine dr_pure (i := 8) (lb 10 511) rfl rfl (by kernel_rfl) (fun w => y_len_s Tryz.underlying9 rfl) ?_
  refine dr_pure (i := 9) (lb 10 1023) rfl rfl (by kernel_rfl) (fun w => y_lss rfl rfl) ?_
  refine dr_done (by kernel_rfl) ?_
  refine wc_if rfl (fun hc12 => ?_) (fun hc12 => ?_)
  · try simp only [zq1, zq2, zq3, zq4, zq5, zq6, zq7] at hc12
    rw [if_pos (by omega)]
    refine wc_region ?_
    refine wl (y_move rfl) rfl ?_
    refine wl_call (.cons rfl (.cons rfl .nil)) (rfail_c 4 hS) rfl ?_
    intro _ w hS
    unfold rdrO at hS
    refine wl_nil ?_
    refine wc_seq ?_
    refine wc_region ?_
    refine wl (y_move rfl) rfl ?_
    refine wl (y_nil rfl) rfl ?_
    refine wl (y_fld fl_189_2 rfl) rfl ?_
    refine wl (y_load pl_34 rfl (hS.cell rfl)) rfl ?_
    refine wl (y_assign rfl) rfl ?_
    refine wl_nil ?_
    refine wc_ret ?_
    refine wret (vs := [_]) (.tmp rfl .nil) ?_
    exact ⟨rfl, hS⟩
  · try simp only [zq1, zq2, zq3, zq4, zq5, zq6, zq7] at hc12
    rw [if_neg (by omega)]
    refine wc_skip ?_
    refine wc_seq ?_
    refine wc_region ?_
    refine wl (y_move rfl) rfl ?_
    refine wl (y_nil rfl) rfl ?_
    refine wl (y_fld fl_189_2 rfl) rfl ?_
    refine wl (y_load pl_34 rfl (hS.cell rfl)) rfl ?_
    refine wl (y_assign rfl) rfl ?_
    refine wl_nil ?_
    refine wc_ret ?_
    refine wret (vs := [_]) (.tmp rfl .nil) ?_
    exact ⟨rfl, hS⟩
theorem rtext_c (hG : Bits M) {p : Nat} {r : Rdr} (lim : Nat) (hlim : lim ≤ 1152921504606846976) (h : r.ok) (hS : St M w ([(p, rdrO r)] :: Ls)) :
    CallsR Tryz.prog 68 [.pointer (some ⟨p, 0, none⟩), .int .i64 lim].toArray w fun v w' => v = .string (rtext r lim).1 ∧ St M w' ([(p, rdrO (rtext r lim).2)] :: Ls) := by
  have hok := rnum_ok h lim
  have hsz := hok.1.2
  have hat := hok.1.1
  unfold rtext
  simp only
  refine calls_of (c := _) (rs := _) (n := 48) Tryz.func68 rfl rfl rfl rfl rfl ?_
  refine wc_seq ?_
  refine wc_region ?_
  refine wl (y_assign rfl) rfl ?_
  refine wl_nil ?_
  refine wc_seq ?_
  refine wc_region ?_
  refine wl (y_move rfl) rfl ?_
  refine wl (y_move rfl) rfl ?_
  refine wl_call (.cons rfl (.cons rfl .nil)) (rnum_c hG lim hlim h hS) rfl ?_
  rintro _ w ⟨rfl, hS⟩
  refine wl (y_assign rfl) rfl ?_
  refine wl_nil ?_
  refine wc_seq ?_
  refine wc_seq ?_
  refine wc_draw (l0 := (lb 12 0)) (fun w => w.cell? ⟨p, 0, none⟩ = some (.string (rnum r lim).2.b) ∧ w.cell? ⟨p, 1, none⟩ = some (.int .i64 (rnum r lim).2.at_)) [] wide_ rfl rfl fun w hw => ?_
  replace hS := hS.same hw; clear hw
  unfold rdrO at hS
  refine dr_pure (i := 0) (lb 12 1) rfl rfl (by kernel_rfl) (fun w => y_move rfl) ?_
  refine dr_pure (i := 1) (lb 12 3) rfl rfl (by kernel_rfl) (fun w => y_move rfl) ?_
  refine dr_pure (i := 2) (lb 12 7) rfl rfl (by kernel_rfl) (fun w => y_nil rfl) ?_
  refine dr_pure (i := 3) (lb 12 15) rfl rfl (by kernel_rfl) (fun w => y_fld fl_189_0 rfl) ?_
  refine dr_pure (i := 6) (lb 12 79) rfl rfl (by kernel_rfl) (fun w => y_move rfl) ?_
  refine dr_pure (i := 7) (lb 12 207) rfl rfl (by kernel_rfl) (fun w => y_nil rfl) ?_
  refine dr_pure (i := 8) (lb 12 463) rfl rfl (by kernel_rfl) (fun w => y_fld fl_189_1 rfl) ?_
  refine dr_read (i := 4) (lb 12 479) rfl rfl (by kernel_rfl) ⟨hS.cell rfl, hS.cell rfl⟩ (fun w hS => y_load pl_9 rfl hS.1) ?_
  refine dr_pure (i := 5) (lb 12 511) rfl rfl (by kernel_rfl) (fun w => y_len_s Tryz.underlying9 rfl) ?_
  refine dr_read (i := 9) (lb 12 1023) rfl rfl (by kernel_rfl) ⟨hS.cell rfl, hS.cell rfl⟩ (fun w hS => y_load pl_3 rfl hS.2) ?_
  refine dr_pure (i := 10) (lb 12 2047) rfl rfl (by kernel_rfl) (fun w => y_sub rfl rfl (w64 (by omega) (by omega))) ?_
  refine dr_pure (i := 11) (lb 12 4095) rfl rfl (by kernel_rfl) (fun w => y_gtr rfl rfl) ?_
  refine dr_done (by kernel_rfl) ?_
  refine wc_if rfl (fun hc21 => ?_) (fun hc21 => ?_)
  · try simp only [zq1, zq2, zq3, zq4, zq5, zq6, zq7] at hc21
    rw [if_pos (by omega)]
    refine wc_seq ?_
    refine wc_region ?_
    refine wl (y_move rfl) rfl ?_
    refine wl_call (.cons rfl (.cons rfl .nil)) (rfail_c 2 hS) rfl ?_
    intro _ w hS
    refine wl_nil ?_
    refine wc_seq ?_
    refine wc_region ?_
    refine wl (y_assign rfl) rfl ?_
    refine wl_nil ?_
    refine wc_ret ?_
    refine wret (vs := [_]) (.tmp rfl .nil) ?_
    first
    | exact ⟨rfl, hS⟩
    | (rw [← Int.natCast_add] at hS; exact ⟨rfl, hS⟩)
  · try simp only [zq1, zq2, zq3, zq4, zq5, zq6, zq7] at hc21
    rw [if_neg (by omega)]
    refine wc_skip ?_
    refine wc_seq ?_
    refine wc_draw (l0 := (lb 16 0)) (fun w => w.cell? ⟨p, 0, none⟩ = some (.string (rnum r lim).2.b) ∧ w.cell? ⟨p, 1, none⟩ = some (.int .i64 (rnum r lim).2.at_)) [] wide_ rfl rfl fun w hw => ?_
    replace hS := hS.same hw; clear hw
    refine dr_pure (i := 0) (lb 16 1) rfl rfl (by kernel_rfl) (fun w => y_move rfl) ?_
    refine dr_pure (i := 1) (lb 16 3) rfl rfl (by kernel_rfl) (fun w => y_nil rfl) ?_
    refine dr_pure (i := 2) (lb 16 7) rfl rfl (by kernel_rfl) (fun w => y_fld fl_189_0 rfl) ?_
    refine dr_pure (i := 4) (lb 16 23) rfl rfl (by kernel_rfl) (fun w => y_move rfl) ?_
    refine dr_pure (i := 5) (lb 16 55) rfl rfl (by kernel_rfl) (fun w => y_nil rfl) ?_
    refine dr_pure (i := 6) (lb 16 119) rfl rfl (by kernel_rfl) (fun w => y_fld fl_189_1 rfl) ?_
    refine dr_pure (i := 8) (lb 16 375) rfl rfl (by kernel_rfl) (fun w => y_move rfl) ?_
    refine dr_pure (i := 9) (lb 16 887) rfl rfl (by kernel_rfl) (fun w => y_nil rfl) ?_
    refine dr_pure (i := 10) (lb 16 1911) rfl rfl (by kernel_rfl) (fun w => y_fld fl_189_1 rfl) ?_
    refine dr_pure (i := 12) (lb 16 6007) rfl rfl (by kernel_rfl) (fun w => y_move rfl) ?_
    refine dr_read (i := 3) (lb 16 6015) rfl rfl (by kernel_rfl) ⟨hS.cell rfl, hS.cell rfl⟩ (fun w hS => y_load pl_9 rfl hS.1) ?_
    refine dr_read (i := 7) (lb 16 6143) rfl rfl (by kernel_rfl) ⟨hS.cell rfl, hS.cell rfl⟩ (fun w hS => y_load pl_3 rfl hS.2) ?_
    refine dr_read (i := 11) (lb 16 8191) rfl rfl (by kernel_rfl) ⟨hS.cell rfl, hS.cell rfl⟩ (fun w hS => y_load pl_3 rfl hS.2) ?_
    refine dr_pure (i := 13) (lb 16 16383) rfl rfl (by kernel_rfl) (fun w => y_add rfl rfl (w64 (by omega) (by omega))) ?_
    refine dr_pure (i := 14) (lb 16 32767) rfl rfl (by kernel_rfl) (fun w => y_sl_s Tryz.underlying9 rfl (lv := (rnum r lim).2.at_) (hv := (rnum r lim).2.at_ + (rnum r lim).1) ⟨_, _, rfl, by omega, by omega⟩ ⟨_, _, rfl, by omega, by omega⟩ (by omega) (by omega) rfl) ?_
    refine dr_pure (i := 15) (lb 16 65535) rfl rfl (by kernel_rfl) (fun w => y_assign rfl) ?_
    refine dr_done (by kernel_rfl) ?_
    refine wc_seq ?_
    refine wc_region ?_
    refine wl (y_move rfl) rfl ?_
    refine wl (y_nil rfl) rfl ?_
    refine wl (y_fld fl_189_1 rfl) rfl ?_
    refine wl (y_load pl_3 rfl (hS.cell rfl)) rfl ?_
    refine wl (y_move rfl) rfl ?_
    refine wl (y_add rfl rfl (w64 (by omega) (by omega))) rfl ?_
    refine wl (y_nil rfl) rfl ?_
    refine wl (y_fld fl_189_1 rfl) rfl ?_
    refine a_store sz_3 rfl rfl rfl hS (Nat.le_of_ble_eq_true rfl) fun w hS => ?_
    refine wl_nil ?_
    simp only [List.setIfInBounds_toArray, List.set_cons_zero, List.set_cons_succ, Nat.zero_add, Nat.add_zero, cells_agg, setCells] at hS
    refine wc_seq ?_
    refine wc_region ?_
    refine wl (y_move rfl) rfl ?_
    refine wl (y_assign rfl) rfl ?_
    refine wl_nil ?_
    refine wc_ret ?_
    refine wret (vs := [_]) (.tmp rfl .nil) ?_
    first
    | exact ⟨rfl, hS⟩
    | (rw [← Int.natCast_add] at hS; exact ⟨rfl, hS⟩)
end
end Go.Proofs.YtndahppmjdbifaaGreatDoor.Pak

set_option linter.unusedVariables false
set_option linter.unusedSimpArgs false
namespace Go.Proofs.YtndahppmjdbifaaGreatDoor.Val
open Go Go.Proofs Go.Proofs.YtndahppmjdbifaaGreatDoor.Eng Go.Proofs.YtndahppmjdbifaaGreatDoor.Pre Go.Proofs.YtndahppmjdbifaaGreatDoor.Pak

structure Upd where
  key : ByteArray
  kind : Int
  n : Int
  s : ByteArray
deriving DecidableEq
structure Valu where
  kind : Int
  n : Int
  s : ByteArray
deriving DecidableEq
def encU : Enc Upd := ⟨4, fun u => [.string u.key, .int .i64 u.kind, .int .i64 u.n, .string u.s], fun _ => rfl, by simp [oneC]⟩
def uv (u : Upd) : Value := .agg [.string u.key, .int .i64 u.kind, .int .i64 u.n, .string u.s].toArray
def vv (x : Valu) : Value := .agg [.int .i64 x.kind, .int .i64 x.n, .string x.s].toArray
def upd0 : Upd := ⟨ByteArray.empty, 0, 0, ByteArray.empty⟩
def val0 : Valu := ⟨0, 0, ByteArray.empty⟩

@[irreducible] def mayU (u : Upd) : Nat :=
  if (u.key.size : Int) < 1 then 1 else if (u.key.size : Int) > 16 then 1 else
  if u.kind = 1 ∨ u.kind = 3 then (if ¬ u.s = (⟨#[]⟩ : ByteArray) then 13 else if u.n < -2305843009213693952 then 1 else if u.n ≥ 2305843009213693952 then 1 else 0)
  else if u.kind = 2 ∨ u.kind = 4 then (if ¬ u.n = 0 then 13 else if (u.s.size : Int) > 32 then 1 else 0)
  else if u.kind = 5 then (if ¬ u.n = 0 then 13 else if ¬ u.s = (⟨#[]⟩ : ByteArray) then 13 else 0)
  else 5
def num (n : Int) : Valu := ⟨1, n, ByteArray.empty⟩
def txt (s : ByteArray) : Valu := ⟨2, 0, s⟩
def clean (x : Valu) : Valu := if x.kind = 1 then num x.n else if x.kind = 2 then txt x.s else val0
/-- behind clean -/
def app (x : Valu) (u : Upd) : Valu :=
  if u.kind = 1 then num u.n else if u.kind = 2 then txt u.s else if u.kind = 5 then val0 else
  if u.kind = 3 then (if ¬ x.kind = 2 then num (IntKind.i64.wrap (x.n + u.n)) else x) else
  if u.kind = 4 then (if x.kind = 0 then txt u.s else if x.kind = 2 then (if (x.s.size : Int) + (u.s.size : Int) ≤ 1024 then txt (x.s ++ u.s) else x) else x) else x
def apply (x : Valu) (u : Upd) : Valu := app (clean x) u
section
variable {M : Mem} {w : World} {Ls : List Chunk}
theorem may_c (u : Upd) (hS : St M w Ls) : CallsR Tryz.prog 146 [uv u].toArray w fun v w' => v = .int .i64 (mayU u) ∧ St M w' Ls := by
  refine calls_of (c := _) (rs := _) (n := 49) Tryz.func146 rfl rfl rfl rfl rfl ?_
  refine wc_seq ?_
  refine wc_region ?_
  refine a_box rfl hS rfl fun b1 w hS => ?_
  refine wl (y_assign rfl) rfl ?_
  refine wl_nil ?_
  refine wc_seq ?_
  refine wc_seq ?_
  refine wc_region ?_
  refine wl (y_fld fl_59_0 rfl) rfl ?_
  refine wl (y_load pl_9 rfl (hS.cell rfl)) rfl ?_
  refine wl (y_len_s Tryz.underlying9 rfl) rfl ?_
  refine wl (y_lss rfl rfl) rfl ?_
  refine wl (y_move rfl) rfl ?_
  refine wl_cases (s := 7) rfl (fun hg7 => ?_) (fun hg7 => ?_)
  · try simp only [zq1, zq2, zq3, zq4, zq5, zq6, zq7] at hg7
    refine wl_off rfl rfl rfl rfl ?_
    refine wl_off rfl rfl rfl rfl ?_
    refine wl_off rfl rfl rfl rfl ?_
    refine wl_off rfl rfl rfl rfl ?_
    refine wl (y_pickT rfl rfl) rfl ?_
    refine wl_nil ?_
    refine wc_ifT rfl rfl ?_
    refine wc_seq ?_
    refine wc_region ?_
    refine wl (y_assign rfl) rfl ?_
    refine wl_nil ?_
    refine wc_ret ?_
    refine wret (vs := [_]) (.tmp rfl .nil) ?_
    exact ⟨congrArg (Value.int .i64) (by simp [mayU, *]), hS.keep⟩
  · try simp only [zq1, zq2, zq3, zq4, zq5, zq6, zq7] at hg7
    refine wl_on rfl rfl ?_
    refine wl (y_fld fl_59_0 rfl) rfl ?_
    refine wl_on rfl rfl ?_
    refine wl (y_load pl_9 rfl (hS.cell rfl)) rfl ?_
    refine wl_on rfl rfl ?_
    refine wl (y_len_s Tryz.underlying9 rfl) rfl ?_
    refine wl_on rfl rfl ?_
    refine wl (y_gtr rfl rfl) rfl ?_
    refine wl (y_pickF rfl rfl) rfl ?_
    refine wl_nil ?_
    refine wc_if rfl (fun hc12 => ?_) (fun hc12 => ?_)
    · try simp only [zq1, zq2, zq3, zq4, zq5, zq6, zq7] at hc12
      refine wc_seq ?_
      refine wc_region ?_
      refine wl (y_assign rfl) rfl ?_
      refine wl_nil ?_
      refine wc_ret ?_
      refine wret (vs := [_]) (.tmp rfl .nil) ?_
      exact ⟨congrArg (Value.int .i64) (by simp [mayU, *]), hS.keep⟩
    · try simp only [zq1, zq2, zq3, zq4, zq5, zq6, zq7] at hc12
      refine wc_skip ?_
      refine wc_seq ?_
      refine wc_seq ?_
      refine wc_region ?_
      refine wl (y_fld fl_59_1 rfl) rfl ?_
      refine wl (y_load pl_3 rfl (hS.cell rfl)) rfl ?_
      refine wl_nil ?_
      refine wc_block ?_
      refine wc_seq ?_
      refine wc_seq ?_
      refine wc_region ?_
      refine wl (y_eql rfl rfl) rfl ?_
      refine wl (y_assign rfl) rfl ?_
      refine wl_nil ?_
      refine wc_case rfl (fun hc15 => ?_) (fun hc15 => ?_)
      · try simp only [zq1, zq2, zq3, zq4, zq5, zq6, zq7] at hc15
        refine wc_skip ?_
        refine wc_ifT rfl rfl ?_
        refine wc_seq ?_
        refine wc_seq ?_
        refine wc_region ?_
        refine wl (y_fld fl_59_3 rfl) rfl ?_
        refine wl (y_load pl_9 rfl (hS.cell rfl)) rfl ?_
        refine wl (y_sneq rfl rfl) rfl ?_
        refine wl_nil ?_
        refine wc_if rfl (fun hc20 => ?_) (fun hc20 => ?_)
        · try simp only [zq1, zq2, zq3, zq4, zq5, zq6, zq7] at hc20
          refine wc_seq ?_
          refine wc_region ?_
          refine wl (y_assign rfl) rfl ?_
          refine wl_nil ?_
          refine wc_ret ?_
          refine wret (vs := [_]) (.tmp rfl .nil) ?_
          exact ⟨congrArg (Value.int .i64) (by simp [mayU, *]), hS.keep⟩
        · try simp only [zq1, zq2, zq3, zq4, zq5, zq6, zq7] at hc20
          refine wc_skip ?_
          refine wc_seq ?_
          refine wc_region ?_
          refine wl (y_fld fl_59_2 rfl) rfl ?_
          refine wl (y_load pl_2 rfl (hS.cell rfl)) rfl ?_
          refine wl (y_lss rfl rfl) rfl ?_
          refine wl (y_move rfl) rfl ?_
          refine wl_cases (s := 24) rfl (fun hg24 => ?_) (fun hg24 => ?_)
          · try simp only [zq1, zq2, zq3, zq4, zq5, zq6, zq7] at hg24
            refine wl_off rfl rfl rfl rfl ?_
            refine wl_off rfl rfl rfl rfl ?_
            refine wl_off rfl rfl rfl rfl ?_
            refine wl (y_pickT rfl rfl) rfl ?_
            refine wl_nil ?_
            refine wc_ifT rfl rfl ?_
            refine wc_seq ?_
            refine wc_region ?_
            refine wl (y_assign rfl) rfl ?_
            refine wl_nil ?_
            refine wc_ret ?_
            refine wret (vs := [_]) (.tmp rfl .nil) ?_
            exact ⟨congrArg (Value.int .i64) (by simp [mayU, *]), hS.keep⟩
          · try simp only [zq1, zq2, zq3, zq4, zq5, zq6, zq7] at hg24
            refine wl_on rfl rfl ?_
            refine wl (y_fld fl_59_2 rfl) rfl ?_
            refine wl_on rfl rfl ?_
            refine wl (y_load pl_2 rfl (hS.cell rfl)) rfl ?_
            refine wl_on rfl rfl ?_
            refine wl (y_geq rfl rfl) rfl ?_
            refine wl (y_pickF rfl rfl) rfl ?_
            refine wl_nil ?_
            refine wc_if rfl (fun hc28 => ?_) (fun hc28 => ?_)
            · try simp only [zq1, zq2, zq3, zq4, zq5, zq6, zq7] at hc28
              refine wc_seq ?_
              refine wc_region ?_
              refine wl (y_assign rfl) rfl ?_
              refine wl_nil ?_
              refine wc_ret ?_
              refine wret (vs := [_]) (.tmp rfl .nil) ?_
              exact ⟨congrArg (Value.int .i64) (by simp [mayU, *]), hS.keep⟩
            · try simp only [zq1, zq2, zq3, zq4, zq5, zq6, zq7] at hc28
              refine wc_skip ?_
              refine wc_seq ?_
              refine wc_region ?_
              refine wl (y_assign rfl) rfl ?_
              refine wl_nil ?_
              refine wc_ret ?_
              refine wret (vs := [_]) (.tmp rfl .nil) ?_
              exact ⟨congrArg (Value.int .i64) (by simp [mayU, *]), hS.keep⟩
      · try simp only [zq1, zq2, zq3, zq4, zq5, zq6, zq7] at hc15
        refine wc_region ?_
        refine wl (y_eql rfl rfl) rfl ?_
        refine wl (y_assign rfl) rfl ?_
        refine wl_nil ?_
        refine wc_case rfl (fun hc15 => ?_) (fun hc15 => ?_)
        · try simp only [zq1, zq2, zq3, zq4, zq5, zq6, zq7] at hc15
          refine wc_seq ?_
          refine wc_seq ?_
          refine wc_region ?_
          refine wl (y_fld fl_59_3 rfl) rfl ?_
          refine wl (y_load pl_9 rfl (hS.cell rfl)) rfl ?_
          refine wl (y_sneq rfl rfl) rfl ?_
          refine wl_nil ?_
          refine wc_if rfl (fun hc20 => ?_) (fun hc20 => ?_)
          · try simp only [zq1, zq2, zq3, zq4, zq5, zq6, zq7] at hc20
            refine wc_seq ?_
            refine wc_region ?_
            refine wl (y_assign rfl) rfl ?_
            refine wl_nil ?_
            refine wc_ret ?_
            refine wret (vs := [_]) (.tmp rfl .nil) ?_
            exact ⟨congrArg (Value.int .i64) (by simp [mayU, *]), hS.keep⟩
          · try simp only [zq1, zq2, zq3, zq4, zq5, zq6, zq7] at hc20
            refine wc_skip ?_
            refine wc_seq ?_
            refine wc_region ?_
            refine wl (y_fld fl_59_2 rfl) rfl ?_
            refine wl (y_load pl_2 rfl (hS.cell rfl)) rfl ?_
            refine wl (y_lss rfl rfl) rfl ?_
            refine wl (y_move rfl) rfl ?_
            refine wl_cases (s := 24) rfl (fun hg24 => ?_) (fun hg24 => ?_)
            · try simp only [zq1, zq2, zq3, zq4, zq5, zq6, zq7] at hg24
              refine wl_off rfl rfl rfl rfl ?_
              refine wl_off rfl rfl rfl rfl ?_
              refine wl_off rfl rfl rfl rfl ?_
              refine wl (y_pickT rfl rfl) rfl ?_
              refine wl_nil ?_
              refine wc_ifT rfl rfl ?_
              refine wc_seq ?_
              refine wc_region ?_
              refine wl (y_assign rfl) rfl ?_
              refine wl_nil ?_
              refine wc_ret ?_
              refine wret (vs := [_]) (.tmp rfl .nil) ?_
              exact ⟨congrArg (Value.int .i64) (by simp [mayU, *]), hS.keep⟩
            · try simp only [zq1, zq2, zq3, zq4, zq5, zq6, zq7] at hg24
              refine wl_on rfl rfl ?_
              refine wl (y_fld fl_59_2 rfl) rfl ?_
              refine wl_on rfl rfl ?_
              refine wl (y_load pl_2 rfl (hS.cell rfl)) rfl ?_
              refine wl_on rfl rfl ?_
              refine wl (y_geq rfl rfl) rfl ?_
              refine wl (y_pickF rfl rfl) rfl ?_
              refine wl_nil ?_
              refine wc_if rfl (fun hc28 => ?_) (fun hc28 => ?_)
              · try simp only [zq1, zq2, zq3, zq4, zq5, zq6, zq7] at hc28
                refine wc_seq ?_
                refine wc_region ?_
                refine wl (y_assign rfl) rfl ?_
                refine wl_nil ?_
                refine wc_ret ?_
                refine wret (vs := [_]) (.tmp rfl .nil) ?_
                exact ⟨congrArg (Value.int .i64) (by simp [mayU, *]), hS.keep⟩
              · try simp only [zq1, zq2, zq3, zq4, zq5, zq6, zq7] at hc28
                refine wc_skip ?_
                refine wc_seq ?_
                refine wc_region ?_
                refine wl (y_assign rfl) rfl ?_
                refine wl_nil ?_
                refine wc_ret ?_
                refine wret (vs := [_]) (.tmp rfl .nil) ?_
                exact ⟨congrArg (Value.int .i64) (by simp [mayU, *]), hS.keep⟩
        · try simp only [zq1, zq2, zq3, zq4, zq5, zq6, zq7] at hc15
          refine wc_seq ?_
          refine wc_seq ?_
          refine wc_region ?_
          refine wl (y_eql rfl rfl) rfl ?_
          refine wl (y_assign rfl) rfl ?_
          refine wl_nil ?_
          refine wc_case rfl (fun hc29 => ?_) (fun hc29 => ?_)
          · try simp only [zq1, zq2, zq3, zq4, zq5, zq6, zq7] at hc29
            refine wc_skip ?_
            refine wc_ifT rfl rfl ?_
            refine wc_seq ?_
            refine wc_seq ?_
            refine wc_region ?_
            refine wl (y_fld fl_59_2 rfl) rfl ?_
            refine wl (y_load pl_2 rfl (hS.cell rfl)) rfl ?_
            refine wl (y_neq rfl rfl) rfl ?_
            refine wl_nil ?_
            refine wc_if rfl (fun hc34 => ?_) (fun hc34 => ?_)
            · try simp only [zq1, zq2, zq3, zq4, zq5, zq6, zq7] at hc34
              refine wc_seq ?_
              refine wc_region ?_
              refine wl (y_assign rfl) rfl ?_
              refine wl_nil ?_
              refine wc_ret ?_
              refine wret (vs := [_]) (.tmp rfl .nil) ?_
              exact ⟨congrArg (Value.int .i64) (by simp [mayU, *]), hS.keep⟩
            · try simp only [zq1, zq2, zq3, zq4, zq5, zq6, zq7] at hc34
              refine wc_skip ?_
              refine wc_seq ?_
              refine wc_region ?_
              refine wl (y_fld fl_59_3 rfl) rfl ?_
              refine wl (y_load pl_9 rfl (hS.cell rfl)) rfl ?_
              refine wl (y_len_s Tryz.underlying9 rfl) rfl ?_
              refine wl (y_gtr rfl rfl) rfl ?_
              refine wl_nil ?_
              refine wc_if rfl (fun hc38 => ?_) (fun hc38 => ?_)
              · try simp only [zq1, zq2, zq3, zq4, zq5, zq6, zq7] at hc38
                refine wc_seq ?_
                refine wc_region ?_
                refine wl (y_assign rfl) rfl ?_
                refine wl_nil ?_
                refine wc_ret ?_
                refine wret (vs := [_]) (.tmp rfl .nil) ?_
                exact ⟨congrArg (Value.int .i64) (by simp [mayU, *]), hS.keep⟩
              · try simp only [zq1, zq2, zq3, zq4, zq5, zq6, zq7] at hc38
                refine wc_skip ?_
                refine wc_seq ?_
                refine wc_region ?_
                refine wl (y_assign rfl) rfl ?_
                refine wl_nil ?_
                refine wc_ret ?_
                refine wret (vs := [_]) (.tmp rfl .nil) ?_
                exact ⟨congrArg (Value.int .i64) (by simp [mayU, *]), hS.keep⟩
          · try simp only [zq1, zq2, zq3, zq4, zq5, zq6, zq7] at hc29
            refine wc_region ?_
            refine wl (y_eql rfl rfl) rfl ?_
            refine wl (y_assign rfl) rfl ?_
            refine wl_nil ?_
            refine wc_case rfl (fun hc29 => ?_) (fun hc29 => ?_)
            · try simp only [zq1, zq2, zq3, zq4, zq5, zq6, zq7] at hc29
              refine wc_seq ?_
              refine wc_seq ?_
              refine wc_region ?_
              refine wl (y_fld fl_59_2 rfl) rfl ?_
              refine wl (y_load pl_2 rfl (hS.cell rfl)) rfl ?_
              refine wl (y_neq rfl rfl) rfl ?_
              refine wl_nil ?_
              refine wc_if rfl (fun hc34 => ?_) (fun hc34 => ?_)
              · try simp only [zq1, zq2, zq3, zq4, zq5, zq6, zq7] at hc34
                refine wc_seq ?_
                refine wc_region ?_
                refine wl (y_assign rfl) rfl ?_
                refine wl_nil ?_
                refine wc_ret ?_
                refine wret (vs := [_]) (.tmp rfl .nil) ?_
                exact ⟨congrArg (Value.int .i64) (by simp [mayU, *]), hS.keep⟩
              · try simp only [zq1, zq2, zq3, zq4, zq5, zq6, zq7] at hc34
                refine wc_skip ?_
                refine wc_seq ?_
                refine wc_region ?_
                refine wl (y_fld fl_59_3 rfl) rfl ?_
                refine wl (y_load pl_9 rfl (hS.cell rfl)) rfl ?_
                refine wl (y_len_s Tryz.underlying9 rfl) rfl ?_
                refine wl (y_gtr rfl rfl) rfl ?_
                refine wl_nil ?_
                refine wc_if rfl (fun hc38 => ?_) (fun hc38 => ?_)
                · try simp only [zq1, zq2, zq3, zq4, zq5, zq6, zq7] at hc38
                  refine wc_seq ?_
                  refine wc_region ?_
                  refine wl (y_assign rfl) rfl ?_
                  refine wl_nil ?_
                  refine wc_ret ?_
                  refine wret (vs := [_]) (.tmp rfl .nil) ?_
                  exact ⟨congrArg (Value.int .i64) (by simp [mayU, *]), hS.keep⟩
                · try simp only [zq1, zq2, zq3, zq4, zq5, zq6, zq7] at hc38
                  refine wc_skip ?_
                  refine wc_seq ?_
                  refine wc_region ?_
                  refine wl (y_assign rfl) rfl ?_
                  refine wl_nil ?_
                  refine wc_ret ?_
                  refine wret (vs := [_]) (.tmp rfl .nil) ?_
                  exact ⟨congrArg (Value.int .i64) (by simp [mayU, *]), hS.keep⟩
            · try simp only [zq1, zq2, zq3, zq4, zq5, zq6, zq7] at hc29
              refine wc_seq ?_
              refine wc_region ?_
              refine wl (y_eql rfl rfl) rfl ?_
              refine wl (y_assign rfl) rfl ?_
              refine wl_nil ?_
              refine wc_if rfl (fun hc39 => ?_) (fun hc39 => ?_)
              · try simp only [zq1, zq2, zq3, zq4, zq5, zq6, zq7] at hc39
                refine wc_seq ?_
                refine wc_region ?_
                refine wl (y_fld fl_59_2 rfl) rfl ?_
                refine wl (y_load pl_2 rfl (hS.cell rfl)) rfl ?_
                refine wl (y_neq rfl rfl) rfl ?_
                refine wl (y_move rfl) rfl ?_
                refine wl_cases (s := 44) rfl (fun hg44 => ?_) (fun hg44 => ?_)
                · try simp only [zq1, zq2, zq3, zq4, zq5, zq6, zq7] at hg44
                  refine wl_off rfl rfl rfl rfl ?_
                  refine wl_off rfl rfl rfl rfl ?_
                  refine wl_off rfl rfl rfl rfl ?_
                  refine wl (y_pickT rfl rfl) rfl ?_
                  refine wl_nil ?_
                  refine wc_ifT rfl rfl ?_
                  refine wc_seq ?_
                  refine wc_region ?_
                  refine wl (y_assign rfl) rfl ?_
                  refine wl_nil ?_
                  refine wc_ret ?_
                  refine wret (vs := [_]) (.tmp rfl .nil) ?_
                  exact ⟨congrArg (Value.int .i64) (by simp [mayU, *]), hS.keep⟩
                · try simp only [zq1, zq2, zq3, zq4, zq5, zq6, zq7] at hg44
                  refine wl_on rfl rfl ?_
                  refine wl (y_fld fl_59_3 rfl) rfl ?_
                  refine wl_on rfl rfl ?_
                  refine wl (y_load pl_9 rfl (hS.cell rfl)) rfl ?_
                  refine wl_on rfl rfl ?_
                  refine wl (y_sneq rfl rfl) rfl ?_
                  refine wl (y_pickF rfl rfl) rfl ?_
                  refine wl_nil ?_
                  refine wc_if rfl (fun hc48 => ?_) (fun hc48 => ?_)
                  · try simp only [zq1, zq2, zq3, zq4, zq5, zq6, zq7] at hc48
                    refine wc_seq ?_
                    refine wc_region ?_
                    refine wl (y_assign rfl) rfl ?_
                    refine wl_nil ?_
                    refine wc_ret ?_
                    refine wret (vs := [_]) (.tmp rfl .nil) ?_
                    exact ⟨congrArg (Value.int .i64) (by simp [mayU, *]), hS.keep⟩
                  · try simp only [zq1, zq2, zq3, zq4, zq5, zq6, zq7] at hc48
                    refine wc_skip ?_
                    refine wc_seq ?_
                    refine wc_region ?_
                    refine wl (y_assign rfl) rfl ?_
                    refine wl_nil ?_
                    refine wc_ret ?_
                    refine wret (vs := [_]) (.tmp rfl .nil) ?_
                    exact ⟨congrArg (Value.int .i64) (by simp [mayU, *]), hS.keep⟩
              · try simp only [zq1, zq2, zq3, zq4, zq5, zq6, zq7] at hc39
                refine wc_seq ?_
                refine wc_region ?_
                refine wl (y_assign rfl) rfl ?_
                refine wl_nil ?_
                refine wc_ret ?_
                refine wret (vs := [_]) (.tmp rfl .nil) ?_
                exact ⟨congrArg (Value.int .i64) (by simp [mayU, *]), hS.keep⟩
theorem num_c (n : Int) (hS : St M w Ls) : CallsR Tryz.prog 205 [.int .i64 n].toArray w fun v w' => v = vv (num n) ∧ St M w' Ls := by
  refine calls_of (c := _) (rs := _) (n := 5) Tryz.func205 rfl rfl rfl rfl rfl ?_
  refine wc_seq ?_
  refine wc_region ?_
  refine a_alloc z_65 hS rfl fun b2 w hS => ?_
  refine wl_nil ?_
  refine wc_seq ?_
  refine wc_region ?_
  refine wl (y_move rfl) rfl ?_
  refine wl (y_build (is := [0, 1]) (xs := [_, _]) (out := [_, _, _]) plc_65 z_65 (.cons rfl (.cons rfl .nil)) rfl) rfl ?_
  refine a_storeS (vs := [_, _, _]) sz_65 rfl rfl rfl rfl hS (Nat.le_of_ble_eq_true rfl) fun w hS => ?_
  refine wl_nil ?_
  refine wc_ret ?_
  refine wret (vs := [_]) (.cell rfl (loadVar_struct st_65 sz_65 (vs := [_, _, _]) rfl (hS.cells rfl)) .nil) ?_
  exact ⟨rfl, hS.keep⟩
theorem txt_c (s : ByteArray) (hS : St M w Ls) : CallsR Tryz.prog 206 [.string s].toArray w fun v w' => v = vv (txt s) ∧ St M w' Ls := by
  refine calls_of (c := _) (rs := _) (n := 5) Tryz.func206 rfl rfl rfl rfl rfl ?_
  refine wc_seq ?_
  refine wc_region ?_
  refine a_alloc z_65 hS rfl fun b2 w hS => ?_
  refine wl_nil ?_
  refine wc_seq ?_
  refine wc_region ?_
  refine wl (y_move rfl) rfl ?_
  refine wl (y_build (is := [0, 2]) (xs := [_, _]) (out := [_, _, _]) plc_65 z_65 (.cons rfl (.cons rfl .nil)) rfl) rfl ?_
  refine a_storeS (vs := [_, _, _]) sz_65 rfl rfl rfl rfl hS (Nat.le_of_ble_eq_true rfl) fun w hS => ?_
  refine wl_nil ?_
  refine wc_ret ?_
  refine wret (vs := [_]) (.cell rfl (loadVar_struct st_65 sz_65 (vs := [_, _, _]) rfl (hS.cells rfl)) .nil) ?_
  exact ⟨rfl, hS.keep⟩
theorem clean_c (x : Valu) (hS : St M w Ls) : CallsR Tryz.prog 204 [vv x].toArray w fun v w' => v = vv (clean x) ∧ St M w' Ls := by
  refine calls_of (c := _) (rs := _) (n := 16) Tryz.func204 rfl rfl rfl rfl rfl ?_
  refine wc_seq ?_
  refine wc_region ?_
  refine a_box rfl hS rfl fun b1 w hS => ?_
  refine a_alloc z_65 hS rfl fun b2 w hS => ?_
  refine wl_nil ?_
  refine wc_seq ?_
  refine wc_seq ?_
  refine wc_region ?_
  refine wl (y_fld fl_65_0 rfl) rfl ?_
  refine wl (y_load pl_3 rfl (hS.cell rfl)) rfl ?_
  refine wl_nil ?_
  refine wc_block ?_
  refine wc_seq ?_
  refine wc_region ?_
  refine wl (y_eql rfl rfl) rfl ?_
  refine wl (y_assign rfl) rfl ?_
  refine wl_nil ?_
  refine wc_if rfl (fun hc5 => ?_) (fun hc5 => ?_)
  · try simp only [zq1, zq2, zq3, zq4, zq5, zq6, zq7] at hc5
    refine wc_seq ?_
    refine wc_region ?_
    refine wl (y_fld fl_65_1 rfl) rfl ?_
    refine wl (y_load pl_2 rfl (hS.cell rfl)) rfl ?_
    refine wl_call (.cons rfl .nil) (num_c x.n hS) rfl ?_
    rintro _ w ⟨rfl, hS⟩
    refine a_storeS (vs := [_, _, _]) sz_65 rfl rfl rfl rfl hS (Nat.le_of_ble_eq_true rfl) fun w hS => ?_
    refine wl_nil ?_
    refine wc_ret ?_
    refine wret (vs := [_]) (.cell rfl (loadVar_struct st_65 sz_65 (vs := [_, _, _]) rfl (hS.cells rfl)) .nil) ?_
    first
    | exact ⟨by simp only [clean, *, if_true, if_false]; rfl, hS.keep⟩
    | exact ⟨by simp [clean, *]; rfl, hS.keep⟩
  · try simp only [zq1, zq2, zq3, zq4, zq5, zq6, zq7] at hc5
    refine wc_seq ?_
    refine wc_region ?_
    refine wl (y_eql rfl rfl) rfl ?_
    refine wl (y_assign rfl) rfl ?_
    refine wl_nil ?_
    refine wc_if rfl (fun hc10 => ?_) (fun hc10 => ?_)
    · try simp only [zq1, zq2, zq3, zq4, zq5, zq6, zq7] at hc10
      refine wc_seq ?_
      refine wc_region ?_
      refine wl (y_fld fl_65_2 rfl) rfl ?_
      refine wl (y_load pl_9 rfl (hS.cell rfl)) rfl ?_
      refine wl_call (.cons rfl .nil) (txt_c x.s hS) rfl ?_
      rintro _ w ⟨rfl, hS⟩
      refine a_storeS (vs := [_, _, _]) sz_65 rfl rfl rfl rfl hS (Nat.le_of_ble_eq_true rfl) fun w hS => ?_
      refine wl_nil ?_
      refine wc_ret ?_
      refine wret (vs := [_]) (.cell rfl (loadVar_struct st_65 sz_65 (vs := [_, _, _]) rfl (hS.cells rfl)) .nil) ?_
      first
      | exact ⟨by simp only [clean, *, if_true, if_false]; rfl, hS.keep⟩
      | exact ⟨by simp [clean, *]; rfl, hS.keep⟩
    · try simp only [zq1, zq2, zq3, zq4, zq5, zq6, zq7] at hc10
      refine wc_skip ?_
      refine wc_seq ?_
      refine wc_region ?_
      refine wl (y_build (is := []) (xs := []) (out := [_, _, _]) plc_65 z_65 .nil rfl) rfl ?_
      refine a_storeS (vs := [_, _, _]) sz_65 rfl rfl rfl rfl hS (Nat.le_of_ble_eq_true rfl) fun w hS => ?_
      refine wl_nil ?_
      refine wc_ret ?_
      refine wret (vs := [_]) (.cell rfl (loadVar_struct st_65 sz_65 (vs := [_, _, _]) rfl (hS.cells rfl)) .nil) ?_
      first
      | exact ⟨by simp only [clean, *, if_true, if_false]; rfl, hS.keep⟩
      | exact ⟨by simp [clean, *]; rfl, hS.keep⟩
theorem apply_c (x : Valu) (u : Upd) (hu : u.s.size ≤ 2305843009213693952) (hx : x.s.size ≤ 2305843009213693952) (hS : St M w Ls) : CallsR Tryz.prog 201 [vv x, uv u].toArray w fun v w' => v = vv (apply x u) ∧ St M w' Ls := by
  have hcs : (clean x).s.size ≤ 2305843009213693952 := by unfold clean; split <;> (try split) <;> simp [num, txt, val0] <;> omega
  unfold apply
  refine calls_of (c := _) (rs := _) (n := 63) Tryz.func201 rfl rfl rfl rfl rfl ?_
  refine wc_seq ?_
  refine wc_region ?_
  refine a_box rfl hS rfl fun b2 w hS => ?_
  refine a_box rfl hS rfl fun b3 w hS => ?_
  refine a_alloc z_65 hS rfl fun b4 w hS => ?_
  refine wl_nil ?_
  refine wc_seq ?_
  refine wc_region ?_
  refine wl (y_loadS st_65 sz_65 rfl (hS.cells (vs := [_, _, _]) rfl) rfl) rfl ?_
  refine wl_call (.cons rfl .nil) (clean_c x hS) rfl ?_
  rintro _ w ⟨rfl, hS⟩
  obtain ⟨y, hy⟩ : ∃ y, clean x = y := ⟨_, rfl⟩
  rw [hy] at hcs ⊢
  refine a_storeS (vs := [_, _, _]) sz_65 rfl rfl rfl rfl hS (Nat.le_of_ble_eq_true rfl) fun w hS => ?_
  refine wl_nil ?_
  refine wc_seq ?_
  refine wc_seq ?_
  refine wc_region ?_
  refine wl (y_fld fl_59_1 rfl) rfl ?_
  refine wl (y_load pl_3 rfl (hS.cell rfl)) rfl ?_
  refine wl_nil ?_
  refine wc_block ?_
  refine wc_seq ?_
  refine wc_region ?_
  refine wl (y_eql rfl rfl) rfl ?_
  refine wl (y_assign rfl) rfl ?_
  refine wl_nil ?_
  refine wc_if rfl (fun hc9 => ?_) (fun hc9 => ?_)
  · try simp only [zq1, zq2, zq3, zq4, zq5, zq6, zq7] at hc9
    refine wc_seq ?_
    refine wc_region ?_
    refine wl (y_fld fl_59_2 rfl) rfl ?_
    refine wl (y_load pl_2 rfl (hS.cell rfl)) rfl ?_
    refine wl_call (.cons rfl .nil) (num_c _ hS) rfl ?_
    rintro _ w ⟨rfl, hS⟩
    refine a_storeS (vs := [_, _, _]) sz_65 rfl rfl rfl rfl hS (Nat.le_of_ble_eq_true rfl) fun w hS => ?_
    refine wl_nil ?_
    refine wc_ret ?_
    refine wret (vs := [_]) (.cell rfl (loadVar_struct st_65 sz_65 (vs := [_, _, _]) rfl (hS.cells rfl)) .nil) ?_
    refine ⟨?_, hS.keep⟩
    unfold app
    repeat (first | rw [if_pos (by first | assumption | omega)] | rw [if_neg (by first | assumption | omega)])
    all_goals rfl
  · try simp only [zq1, zq2, zq3, zq4, zq5, zq6, zq7] at hc9
    refine wc_seq ?_
    refine wc_region ?_
    refine wl (y_eql rfl rfl) rfl ?_
    refine wl (y_assign rfl) rfl ?_
    refine wl_nil ?_
    refine wc_if rfl (fun hc14 => ?_) (fun hc14 => ?_)
    · try simp only [zq1, zq2, zq3, zq4, zq5, zq6, zq7] at hc14
      refine wc_seq ?_
      refine wc_region ?_
      refine wl (y_fld fl_59_3 rfl) rfl ?_
      refine wl (y_load pl_9 rfl (hS.cell rfl)) rfl ?_
      refine wl_call (.cons rfl .nil) (txt_c _ hS) rfl ?_
      rintro _ w ⟨rfl, hS⟩
      refine a_storeS (vs := [_, _, _]) sz_65 rfl rfl rfl rfl hS (Nat.le_of_ble_eq_true rfl) fun w hS => ?_
      refine wl_nil ?_
      refine wc_ret ?_
      refine wret (vs := [_]) (.cell rfl (loadVar_struct st_65 sz_65 (vs := [_, _, _]) rfl (hS.cells rfl)) .nil) ?_
      refine ⟨?_, hS.keep⟩
      unfold app
      repeat (first | rw [if_pos (by first | assumption | omega)] | rw [if_neg (by first | assumption | omega)])
      all_goals rfl
    · try simp only [zq1, zq2, zq3, zq4, zq5, zq6, zq7] at hc14
      refine wc_seq ?_
      refine wc_region ?_
      refine wl (y_eql rfl rfl) rfl ?_
      refine wl (y_assign rfl) rfl ?_
      refine wl_nil ?_
      refine wc_if rfl (fun hc19 => ?_) (fun hc19 => ?_)
      · try simp only [zq1, zq2, zq3, zq4, zq5, zq6, zq7] at hc19
        refine wc_seq ?_
        refine wc_region ?_
        refine wl (y_build (is := []) (xs := []) (out := [_, _, _]) plc_65 z_65 .nil rfl) rfl ?_
        refine a_storeS (vs := [_, _, _]) sz_65 rfl rfl rfl rfl hS (Nat.le_of_ble_eq_true rfl) fun w hS => ?_
        refine wl_nil ?_
        refine wc_ret ?_
        refine wret (vs := [_]) (.cell rfl (loadVar_struct st_65 sz_65 (vs := [_, _, _]) rfl (hS.cells rfl)) .nil) ?_
        refine ⟨?_, hS.keep⟩
        unfold app
        repeat (first | rw [if_pos (by first | assumption | omega)] | rw [if_neg (by first | assumption | omega)])
        all_goals rfl
      · try simp only [zq1, zq2, zq3, zq4, zq5, zq6, zq7] at hc19
        refine wc_seq ?_
        refine wc_region ?_
        refine wl (y_eql rfl rfl) rfl ?_
        refine wl (y_assign rfl) rfl ?_
        refine wl_nil ?_
        refine wc_if rfl (fun hc22 => ?_) (fun hc22 => ?_)
        · try simp only [zq1, zq2, zq3, zq4, zq5, zq6, zq7] at hc22
          refine wc_seq ?_
          refine wc_region ?_
          refine wl (y_fld fl_65_0 rfl) rfl ?_
          refine wl (y_load pl_3 rfl (hS.cell rfl)) rfl ?_
          refine wl (y_neq rfl rfl) rfl ?_
          refine wl_nil ?_
          refine wc_if rfl (fun hc26 => ?_) (fun hc26 => ?_)
          · try simp only [zq1, zq2, zq3, zq4, zq5, zq6, zq7] at hc26
            refine wc_seq ?_
            refine wc_region ?_
            refine wl (y_fld fl_65_1 rfl) rfl ?_
            refine wl (y_load pl_2 rfl (hS.cell rfl)) rfl ?_
            refine wl (y_fld fl_59_2 rfl) rfl ?_
            refine wl (y_load pl_2 rfl (hS.cell rfl)) rfl ?_
            refine wl (y_add rfl rfl rfl) rfl ?_
            refine wl_call (.cons rfl .nil) (num_c _ hS) rfl ?_
            rintro _ w ⟨rfl, hS⟩
            refine a_storeS (vs := [_, _, _]) sz_65 rfl rfl rfl rfl hS (Nat.le_of_ble_eq_true rfl) fun w hS => ?_
            refine wl_nil ?_
            refine wc_ret ?_
            refine wret (vs := [_]) (.cell rfl (loadVar_struct st_65 sz_65 (vs := [_, _, _]) rfl (hS.cells rfl)) .nil) ?_
            refine ⟨?_, hS.keep⟩
            unfold app
            repeat (first | rw [if_pos (by first | assumption | omega)] | rw [if_neg (by first | assumption | omega)])
            all_goals rfl
          · try simp only [zq1, zq2, zq3, zq4, zq5, zq6, zq7] at hc26
            refine wc_skip ?_
            refine wc_seq ?_
            refine wc_region ?_
            refine wl (y_loadS st_65 sz_65 rfl (hS.cells (vs := [_, _, _]) rfl) rfl) rfl ?_
            refine a_storeS (vs := [_, _, _]) sz_65 rfl rfl rfl rfl hS (Nat.le_of_ble_eq_true rfl) fun w hS => ?_
            refine wl_nil ?_
            refine wc_ret ?_
            refine wret (vs := [_]) (.cell rfl (loadVar_struct st_65 sz_65 (vs := [_, _, _]) rfl (hS.cells rfl)) .nil) ?_
            refine ⟨?_, hS.keep⟩
            unfold app
            repeat (first | rw [if_pos (by first | assumption | omega)] | rw [if_neg (by first | assumption | omega)])
            all_goals rfl
        · try simp only [zq1, zq2, zq3, zq4, zq5, zq6, zq7] at hc22
          refine wc_seq ?_
          refine wc_region ?_
          refine wl (y_eql rfl rfl) rfl ?_
          refine wl (y_assign rfl) rfl ?_
          refine wl_nil ?_
          refine wc_if rfl (fun hc33 => ?_) (fun hc33 => ?_)
          · try simp only [zq1, zq2, zq3, zq4, zq5, zq6, zq7] at hc33
            refine wc_block ?_
            refine wc_seq ?_
            refine wc_region ?_
            refine wl (y_fld fl_65_0 rfl) rfl ?_
            refine wl (y_load pl_3 rfl (hS.cell rfl)) rfl ?_
            refine wl (y_eql rfl rfl) rfl ?_
            refine wl (y_assign rfl) rfl ?_
            refine wl_nil ?_
            refine wc_if rfl (fun hc35 => ?_) (fun hc35 => ?_)
            · try simp only [zq1, zq2, zq3, zq4, zq5, zq6, zq7] at hc35
              refine wc_seq ?_
              refine wc_region ?_
              refine wl (y_fld fl_59_3 rfl) rfl ?_
              refine wl (y_load pl_9 rfl (hS.cell rfl)) rfl ?_
              refine wl_call (.cons rfl .nil) (txt_c _ hS) rfl ?_
              rintro _ w ⟨rfl, hS⟩
              refine a_storeS (vs := [_, _, _]) sz_65 rfl rfl rfl rfl hS (Nat.le_of_ble_eq_true rfl) fun w hS => ?_
              refine wl_nil ?_
              refine wc_ret ?_
              refine wret (vs := [_]) (.cell rfl (loadVar_struct st_65 sz_65 (vs := [_, _, _]) rfl (hS.cells rfl)) .nil) ?_
              refine ⟨?_, hS.keep⟩
              unfold app
              repeat (first | rw [if_pos (by first | assumption | omega)] | rw [if_neg (by first | assumption | omega)])
              all_goals rfl
            · try simp only [zq1, zq2, zq3, zq4, zq5, zq6, zq7] at hc35
              refine wc_seq ?_
              refine wc_region ?_
              refine wl (y_fld fl_65_0 rfl) rfl ?_
              refine wl (y_load pl_3 rfl (hS.cell rfl)) rfl ?_
              refine wl (y_eql rfl rfl) rfl ?_
              refine wl (y_move rfl) rfl ?_
              refine wl_cases (s := 46) rfl (fun hg46 => ?_) (fun hg46 => ?_)
              · try simp only [zq1, zq2, zq3, zq4, zq5, zq6, zq7] at hg46
                refine wl_on rfl rfl ?_
                refine wl (y_fld fl_65_2 rfl) rfl ?_
                refine wl_on rfl rfl ?_
                refine wl (y_load pl_9 rfl (hS.cell rfl)) rfl ?_
                refine wl_on rfl rfl ?_
                refine wl (y_len_s Tryz.underlying9 rfl) rfl ?_
                refine wl_on rfl rfl ?_
                refine wl (y_fld fl_59_3 rfl) rfl ?_
                refine wl_on rfl rfl ?_
                refine wl (y_load pl_9 rfl (hS.cell rfl)) rfl ?_
                refine wl_on rfl rfl ?_
                refine wl (y_len_s Tryz.underlying9 rfl) rfl ?_
                refine wl_on rfl rfl ?_
                refine wl (y_add rfl rfl (w64 (by omega) (by omega))) rfl ?_
                refine wl_on rfl rfl ?_
                refine wl (y_leq rfl rfl) rfl ?_
                refine wl (y_pickT rfl rfl) rfl ?_
                refine wl (y_assign rfl) rfl ?_
                refine wl_nil ?_
                refine wc_if rfl (fun hc42 => ?_) (fun hc42 => ?_)
                · try simp only [zq1, zq2, zq3, zq4, zq5, zq6, zq7] at hc42
                  refine wc_seq ?_
                  refine wc_region ?_
                  refine wl (y_fld fl_65_2 rfl) rfl ?_
                  refine wl (y_load pl_9 rfl (hS.cell rfl)) rfl ?_
                  refine wl (y_fld fl_59_3 rfl) rfl ?_
                  refine wl (y_load pl_9 rfl (hS.cell rfl)) rfl ?_
                  refine wl (y_sadd rfl rfl (by omega)) rfl ?_
                  refine wl_call (.cons rfl .nil) (txt_c _ hS) rfl ?_
                  rintro _ w ⟨rfl, hS⟩
                  refine a_storeS (vs := [_, _, _]) sz_65 rfl rfl rfl rfl hS (Nat.le_of_ble_eq_true rfl) fun w hS => ?_
                  refine wl_nil ?_
                  refine wc_ret ?_
                  refine wret (vs := [_]) (.cell rfl (loadVar_struct st_65 sz_65 (vs := [_, _, _]) rfl (hS.cells rfl)) .nil) ?_
                  refine ⟨?_, hS.keep⟩
                  unfold app
                  repeat (first | rw [if_pos (by first | assumption | omega)] | rw [if_neg (by first | assumption | omega)])
                  all_goals rfl
                · try simp only [zq1, zq2, zq3, zq4, zq5, zq6, zq7] at hc42
                  refine wc_skip ?_
                  refine wc_seq ?_
                  refine wc_region ?_
                  refine wl (y_loadS st_65 sz_65 rfl (hS.cells (vs := [_, _, _]) rfl) rfl) rfl ?_
                  refine a_storeS (vs := [_, _, _]) sz_65 rfl rfl rfl rfl hS (Nat.le_of_ble_eq_true rfl) fun w hS => ?_
                  refine wl_nil ?_
                  refine wc_ret ?_
                  refine wret (vs := [_]) (.cell rfl (loadVar_struct st_65 sz_65 (vs := [_, _, _]) rfl (hS.cells rfl)) .nil) ?_
                  refine ⟨?_, hS.keep⟩
                  unfold app
                  repeat (first | rw [if_pos (by first | assumption | omega)] | rw [if_neg (by first | assumption | omega)])
                  all_goals rfl
              · try simp only [zq1, zq2, zq3, zq4, zq5, zq6, zq7] at hg46
                refine wl_off rfl rfl rfl rfl ?_
                refine wl_off rfl rfl rfl rfl ?_
                refine wl_off rfl rfl rfl rfl ?_
                refine wl_off rfl rfl rfl rfl ?_
                refine wl_off rfl rfl rfl rfl ?_
                refine wl_off rfl rfl rfl rfl ?_
                refine wl_off rfl rfl rfl rfl ?_
                refine wl_off rfl rfl rfl rfl ?_
                refine wl (y_pickF rfl rfl) rfl ?_
                refine wl (y_assign rfl) rfl ?_
                refine wl_nil ?_
                refine wc_ifF rfl rfl ?_
                refine wc_skip ?_
                refine wc_seq ?_
                refine wc_region ?_
                refine wl (y_loadS st_65 sz_65 rfl (hS.cells (vs := [_, _, _]) rfl) rfl) rfl ?_
                refine a_storeS (vs := [_, _, _]) sz_65 rfl rfl rfl rfl hS (Nat.le_of_ble_eq_true rfl) fun w hS => ?_
                refine wl_nil ?_
                refine wc_ret ?_
                refine wret (vs := [_]) (.cell rfl (loadVar_struct st_65 sz_65 (vs := [_, _, _]) rfl (hS.cells rfl)) .nil) ?_
                refine ⟨?_, hS.keep⟩
                unfold app
                repeat (first | rw [if_pos (by first | assumption | omega)] | rw [if_neg (by first | assumption | omega)])
                all_goals rfl
          · try simp only [zq1, zq2, zq3, zq4, zq5, zq6, zq7] at hc33
            refine wc_skip ?_
            refine wc_seq ?_
            refine wc_region ?_
            refine wl (y_loadS st_65 sz_65 rfl (hS.cells (vs := [_, _, _]) rfl) rfl) rfl ?_
            refine a_storeS (vs := [_, _, _]) sz_65 rfl rfl rfl rfl hS (Nat.le_of_ble_eq_true rfl) fun w hS => ?_
            refine wl_nil ?_
            refine wc_ret ?_
            refine wret (vs := [_]) (.cell rfl (loadVar_struct st_65 sz_65 (vs := [_, _, _]) rfl (hS.cells rfl)) .nil) ?_
            refine ⟨?_, hS.keep⟩
            unfold app
            repeat (first | rw [if_pos (by first | assumption | omega)] | rw [if_neg (by first | assumption | omega)])
            all_goals rfl
end
end Go.Proofs.YtndahppmjdbifaaGreatDoor.Val

