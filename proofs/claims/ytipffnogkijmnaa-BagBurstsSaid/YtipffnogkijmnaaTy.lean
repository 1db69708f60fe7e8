import Derived.Test.YtipffnogkijmnaaEng9
import Derived.Test.YtipffnogkijmnaaProg
namespace Go.Proofs.Ytipffnogkijmnaa.Eng
open Go Go.Proofs
theorem sz_2 : Size Try.prog 2 1 := size_of (by kernel_rfl)
theorem pl_2 : Plain Try.prog 2 := plain_of Try.underlying2 rfl
theorem z_2 : Zero Try.prog 2 (.int .i64 0) := zero_of (by kernel_rfl)
theorem by_2 : Bytes Try.prog 2 8 := bytes_of (by kernel_rfl)
theorem sz_3 : Size Try.prog 3 1 := size_of (by kernel_rfl)
theorem pl_3 : Plain Try.prog 3 := plain_of Try.underlying3 rfl
theorem z_3 : Zero Try.prog 3 (.int .i64 0) := zero_of (by kernel_rfl)
theorem by_3 : Bytes Try.prog 3 8 := bytes_of (by kernel_rfl)
theorem sz_4 : Size Try.prog 4 1 := size_of (by kernel_rfl)
theorem pl_4 : Plain Try.prog 4 := plain_of Try.underlying4 rfl
theorem z_4 : Zero Try.prog 4 (.bool false) := zero_of (by kernel_rfl)
theorem by_4 : Bytes Try.prog 4 1 := bytes_of (by kernel_rfl)
theorem sz_5 : Size Try.prog 5 1 := size_of (by kernel_rfl)
theorem pl_5 : Plain Try.prog 5 := plain_of Try.underlying5 rfl
theorem z_5 : Zero Try.prog 5 (.int .u8 0) := zero_of (by kernel_rfl)
theorem by_5 : Bytes Try.prog 5 1 := bytes_of (by kernel_rfl)
theorem sz_9 : Size Try.prog 9 1 := size_of (by kernel_rfl)
theorem pl_9 : Plain Try.prog 9 := plain_of Try.underlying9 rfl
theorem z_9 : Zero Try.prog 9 (.string ByteArray.empty) := zero_of (by kernel_rfl)
theorem by_9 : Bytes Try.prog 9 16 := bytes_of (by kernel_rfl)
theorem sz_12 : Size Try.prog 12 1 := size_of (by kernel_rfl)
theorem pl_12 : Plain Try.prog 12 := plain_of Try.underlying12 rfl
theorem z_12 : Zero Try.prog 12 (.int .u64 0) := zero_of (by kernel_rfl)
theorem by_12 : Bytes Try.prog 12 8 := bytes_of (by kernel_rfl)
theorem sz_13 : Size Try.prog 13 2 := size_of (by kernel_rfl)
theorem z_13 : Zero Try.prog 13 (.agg #[.string ByteArray.empty, .int .u64 0]) := zero_of (by kernel_rfl)
theorem by_13 : Bytes Try.prog 13 24 := bytes_of (by kernel_rfl)
theorem sz_19 : Size Try.prog 19 1 := size_of (by kernel_rfl)
theorem z_19 : Zero Try.prog 19 (.agg #[.pointer none]) := zero_of (by kernel_rfl)
theorem by_19 : Bytes Try.prog 19 8 := bytes_of (by kernel_rfl)
theorem sz_21 : Size Try.prog 21 1 := size_of (by kernel_rfl)
theorem pl_21 : Plain Try.prog 21 := plain_of Try.underlying21 rfl
theorem z_21 : Zero Try.prog 21 (.int .i32 0) := zero_of (by kernel_rfl)
theorem by_21 : Bytes Try.prog 21 4 := bytes_of (by kernel_rfl)
theorem sz_23 : Size Try.prog 23 1 := size_of (by kernel_rfl)
theorem pl_23 : Plain Try.prog 23 := plain_of Try.underlying23 rfl
theorem z_23 : Zero Try.prog 23 (.int .u32 0) := zero_of (by kernel_rfl)
theorem by_23 : Bytes Try.prog 23 4 := bytes_of (by kernel_rfl)
theorem sz_33 : Size Try.prog 33 1 := size_of (by kernel_rfl)
theorem pl_33 : Plain Try.prog 33 := plain_of Try.underlying33 rfl
theorem z_33 : Zero Try.prog 33 (.slice none 0 0) := zero_of (by kernel_rfl)
theorem by_33 : Bytes Try.prog 33 24 := bytes_of (by kernel_rfl)
theorem sz_35 : Size Try.prog 35 1 := size_of (by kernel_rfl)
theorem pl_35 : Plain Try.prog 35 := plain_of Try.underlying35 rfl
theorem z_35 : Zero Try.prog 35 (.pointer none) := zero_of (by kernel_rfl)
theorem by_35 : Bytes Try.prog 35 8 := bytes_of (by kernel_rfl)
theorem sz_38 : Size Try.prog 38 3 := size_of (by kernel_rfl)
theorem z_38 : Zero Try.prog 38 (.agg #[.int .i64 0, .int .i64 0, .string ByteArray.empty]) := zero_of (by kernel_rfl)
theorem by_38 : Bytes Try.prog 38 32 := bytes_of (by kernel_rfl)
theorem sz_39 : Size Try.prog 39 3 := size_of (by kernel_rfl)
theorem z_39 : Zero Try.prog 39 (.agg #[.int .i64 0, .int .i64 0, .string ByteArray.empty]) := zero_of (by kernel_rfl)
theorem by_39 : Bytes Try.prog 39 32 := bytes_of (by kernel_rfl)
theorem sz_40 : Size Try.prog 40 1 := size_of (by kernel_rfl)
theorem pl_40 : Plain Try.prog 40 := plain_of Try.underlying40 rfl
theorem z_40 : Zero Try.prog 40 (.int .i64 0) := zero_of (by kernel_rfl)
theorem by_40 : Bytes Try.prog 40 8 := bytes_of (by kernel_rfl)
theorem sz_44 : Size Try.prog 44 1 := size_of (by kernel_rfl)
theorem pl_44 : Plain Try.prog 44 := plain_of Try.underlying44 rfl
theorem z_44 : Zero Try.prog 44 (.int .u64 0) := zero_of (by kernel_rfl)
theorem by_44 : Bytes Try.prog 44 8 := bytes_of (by kernel_rfl)
theorem sz_45 : Size Try.prog 45 256 := size_of (by kernel_rfl)
theorem z_45 : Zero Try.prog 45 (.agg (List.replicate 256 (.int .u32 0 : Value)).toArray) := zero_of (by kernel_rfl)
theorem by_45 : Bytes Try.prog 45 1024 := bytes_of (by kernel_rfl)
theorem sz_48 : Size Try.prog 48 1 := size_of (by kernel_rfl)
theorem pl_48 : Plain Try.prog 48 := plain_of Try.underlying48 rfl
theorem z_48 : Zero Try.prog 48 (.slice none 0 0) := zero_of (by kernel_rfl)
theorem by_48 : Bytes Try.prog 48 24 := bytes_of (by kernel_rfl)
theorem sz_49 : Size Try.prog 49 1 := size_of (by kernel_rfl)
theorem z_49 : Zero Try.prog 49 (.agg #[.slice none 0 0]) := zero_of (by kernel_rfl)
theorem by_49 : Bytes Try.prog 49 24 := bytes_of (by kernel_rfl)
theorem sz_50 : Size Try.prog 50 1 := size_of (by kernel_rfl)
theorem z_50 : Zero Try.prog 50 (.agg #[.slice none 0 0]) := zero_of (by kernel_rfl)
theorem by_50 : Bytes Try.prog 50 24 := bytes_of (by kernel_rfl)
theorem sz_53 : Size Try.prog 53 1 := size_of (by kernel_rfl)
theorem pl_53 : Plain Try.prog 53 := plain_of Try.underlying53 rfl
theorem z_53 : Zero Try.prog 53 (.slice none 0 0) := zero_of (by kernel_rfl)
theorem by_53 : Bytes Try.prog 53 24 := bytes_of (by kernel_rfl)
theorem sz_54 : Size Try.prog 54 4 := size_of (by kernel_rfl)
theorem z_54 : Zero Try.prog 54 (.agg #[.int .i64 0, .int .i64 0, .string ByteArray.empty, .bool false]) := zero_of (by kernel_rfl)
theorem by_54 : Bytes Try.prog 54 40 := bytes_of (by kernel_rfl)
theorem sz_55 : Size Try.prog 55 4 := size_of (by kernel_rfl)
theorem z_55 : Zero Try.prog 55 (.agg #[.int .i64 0, .int .i64 0, .string ByteArray.empty, .bool false]) := zero_of (by kernel_rfl)
theorem by_55 : Bytes Try.prog 55 40 := bytes_of (by kernel_rfl)
theorem sz_57 : Size Try.prog 57 1 := size_of (by kernel_rfl)
theorem pl_57 : Plain Try.prog 57 := plain_of Try.underlying57 rfl
theorem z_57 : Zero Try.prog 57 (.pointer none) := zero_of (by kernel_rfl)
theorem by_57 : Bytes Try.prog 57 8 := bytes_of (by kernel_rfl)
theorem sz_69 : Size Try.prog 69 1 := size_of (by kernel_rfl)
theorem pl_69 : Plain Try.prog 69 := plain_of Try.underlying69 rfl
theorem z_69 : Zero Try.prog 69 (.pointer none) := zero_of (by kernel_rfl)
theorem by_69 : Bytes Try.prog 69 8 := bytes_of (by kernel_rfl)
theorem st_13 : IsStruct Try.prog 13 := ⟨_, Try.underlying13⟩
theorem fl_13_0 : Fld Try.prog 13 0 9 0 1 := fld_of Try.underlying13 (by kernel_rfl) sz_9
theorem fl_13_1 : Fld Try.prog 13 1 12 1 1 := fld_of Try.underlying13 (by kernel_rfl) sz_12
theorem st_19 : IsStruct Try.prog 19 := ⟨_, Try.underlying19⟩
theorem st_38 : IsStruct Try.prog 38 := ⟨_, Try.underlying38⟩
theorem fl_38_0 : Fld Try.prog 38 0 3 0 1 := fld_of Try.underlying38 (by kernel_rfl) sz_3
theorem fl_38_1 : Fld Try.prog 38 1 3 1 1 := fld_of Try.underlying38 (by kernel_rfl) sz_3
theorem fl_38_2 : Fld Try.prog 38 2 9 2 1 := fld_of Try.underlying38 (by kernel_rfl) sz_9
theorem st_39 : IsStruct Try.prog 39 := ⟨_, Try.underlying39⟩
theorem fl_39_0 : Fld Try.prog 39 0 3 0 1 := fld_of Try.underlying39 (by kernel_rfl) sz_3
theorem fl_39_1 : Fld Try.prog 39 1 3 1 1 := fld_of Try.underlying39 (by kernel_rfl) sz_3
theorem fl_39_2 : Fld Try.prog 39 2 9 2 1 := fld_of Try.underlying39 (by kernel_rfl) sz_9
theorem st_49 : IsStruct Try.prog 49 := ⟨_, Try.underlying49⟩
theorem fl_49_0 : Fld Try.prog 49 0 48 0 1 := fld_of Try.underlying49 (by kernel_rfl) sz_48
theorem st_50 : IsStruct Try.prog 50 := ⟨_, Try.underlying50⟩
theorem fl_50_0 : Fld Try.prog 50 0 48 0 1 := fld_of Try.underlying50 (by kernel_rfl) sz_48
theorem st_54 : IsStruct Try.prog 54 := ⟨_, Try.underlying54⟩
theorem fl_54_0 : Fld Try.prog 54 0 39 0 3 := fld_of Try.underlying54 (by kernel_rfl) sz_39
theorem fl_54_1 : Fld Try.prog 54 1 4 3 1 := fld_of Try.underlying54 (by kernel_rfl) sz_4
theorem st_55 : IsStruct Try.prog 55 := ⟨_, Try.underlying55⟩
theorem fl_55_0 : Fld Try.prog 55 0 39 0 3 := fld_of Try.underlying55 (by kernel_rfl) sz_39
theorem fl_55_1 : Fld Try.prog 55 1 4 3 1 := fld_of Try.underlying55 (by kernel_rfl) sz_4
theorem plc_13 : ∃ fs, Try.prog.underlying 13 = some (.struct fs.toArray) ∧ Plc Try.prog fs [(0, 1), (1, 1)] := ⟨[_, _], Try.underlying13, .cons sz_9 (.cons sz_12 (.nil))⟩
theorem plc_38 : ∃ fs, Try.prog.underlying 38 = some (.struct fs.toArray) ∧ Plc Try.prog fs [(0, 1), (1, 1), (2, 1)] := ⟨[_, _, _], Try.underlying38, .cons sz_3 (.cons sz_3 (.cons sz_9 (.nil)))⟩
theorem plc_39 : ∃ fs, Try.prog.underlying 39 = some (.struct fs.toArray) ∧ Plc Try.prog fs [(0, 1), (1, 1), (2, 1)] := ⟨[_, _, _], Try.underlying39, .cons sz_3 (.cons sz_3 (.cons sz_9 (.nil)))⟩
theorem eq_39 {d : Nat} (a0 b0 : Int) (a1 b1 : Int) (a2 b2 : ByteArray) : EqIn Try.prog (d + 2) 39 (.agg [.int .i64 a0, .int .i64 a1, .string a2].toArray) (.agg [.int .i64 b0, .int .i64 b1, .string b2].toArray) (decide (a0 = b0) && (decide (a1 = b1) && (decide (a2 = b2) && true))) := eq_st Try.underlying39 Try.stoodInHeld39 (vs := [.int .i64 a0, .int .i64 a1, .string a2]) (us := [.int .i64 b0, .int .i64 b1, .string b2]) (eqf_p rfl pl_3 rfl rfl (eq_i Try.underlying3) (eqf_p rfl pl_3 rfl rfl (eq_i Try.underlying3) (eqf_p rfl pl_9 rfl rfl (eq_s Try.underlying9) (eqf_nil))))
theorem plc_49 : ∃ fs, Try.prog.underlying 49 = some (.struct fs.toArray) ∧ Plc Try.prog fs [(0, 1)] := ⟨[_], Try.underlying49, .cons sz_48 (.nil)⟩
theorem plc_50 : ∃ fs, Try.prog.underlying 50 = some (.struct fs.toArray) ∧ Plc Try.prog fs [(0, 1)] := ⟨[_], Try.underlying50, .cons sz_48 (.nil)⟩
theorem plc_54 : ∃ fs, Try.prog.underlying 54 = some (.struct fs.toArray) ∧ Plc Try.prog fs [(0, 3), (3, 1)] := ⟨[_, _], Try.underlying54, .cons sz_39 (.cons sz_4 (.nil))⟩
theorem plc_55 : ∃ fs, Try.prog.underlying 55 = some (.struct fs.toArray) ∧ Plc Try.prog fs [(0, 3), (3, 1)] := ⟨[_, _], Try.underlying55, .cons sz_39 (.cons sz_4 (.nil))⟩
theorem eq_55 {d : Nat} (a0 b0 : Int) (a1 b1 : Int) (a2 b2 : ByteArray) (a3 b3 : Bool) : EqIn Try.prog (d + 3) 55 (.agg [.int .i64 a0, .int .i64 a1, .string a2, .bool a3].toArray) (.agg [.int .i64 b0, .int .i64 b1, .string b2, .bool b3].toArray) ((decide (a0 = b0) && (decide (a1 = b1) && (decide (a2 = b2) && true))) && (decide (a3 = b3) && true)) := eq_st Try.underlying55 Try.stoodInHeld55 (vs := [.int .i64 a0, .int .i64 a1, .string a2, .bool a3]) (us := [.int .i64 b0, .int .i64 b1, .string b2, .bool b3]) (eqf_st rfl st_39 sz_39 rfl rfl (eq_39 _ _ _ _ _ _) (eqf_p rfl pl_4 rfl rfl (eq_b Try.underlying4) (eqf_nil)))
theorem wide_ : Try.prog.follows .mixedOrders = true := by kernel_rfl
end Go.Proofs.Ytipffnogkijmnaa.Eng
