import Derived.Test.YtipffnogkijmnaaCrcP
set_option linter.unusedVariables false
set_option linter.unusedSimpArgs false
namespace Go.Proofs.Ytipffnogkijmnaa.Crc
open Go Go.Proofs Go.Proofs.Ytipffnogkijmnaa.Eng

theorem eqT {m : Nat} {x y : BitVec m} (h : x = y) : decide ((x.toNat : Int) = (y.toNat : Int)) = true := by simp [h]
theorem decT {p : Prop} [Decidable p] (h : p) : decide p = true := by simp [h]
theorem abc_open : open_ (seal_ ⟨#[97, 98, 99]⟩) = some ⟨#[97, 98, 99]⟩ := open_seal _
theorem abc_not : open_ ⟨#[97, 98, 99]⟩ = none := by decide +kernel
theorem digits_sum : sum ⟨#[49, 50, 51, 52, 53, 54, 55, 56, 57]⟩ = 3808858755#32 := by decide +kernel
theorem none_sum : sum ⟨#[]⟩ = 0#32 := by decide +kernel
theorem digits_more : more (sum ⟨#[49, 50, 51, 52]⟩) ⟨#[53, 54, 55, 56, 57]⟩ = 3808858755#32 := by decide +kernel

theorem awake_c {M : Mem} {w : World} {Ls : List Chunk} (hS : St M w Ls) :
    CallsR Try.prog 9 [].toArray w fun v w' => v = .bool true ∧ St M w' Ls := by
  refine calls_of (c := _) (rs := _) (n := 41) Try.func9 rfl rfl rfl rfl rfl ?_
  refine wc_seq ?_
  -- region 0
  refine wc_region ?_
  refine wl (y_assign rfl) rfl ?_
  refine wl_nil ?_
  refine wc_seq ?_
  -- region 1
  refine wc_region ?_
  refine wl_call (.cons rfl .nil) (seal_c _ (by decide) hS) rfl ?_
  rintro _ w ⟨rfl, hS⟩
  refine wl_call (.cons rfl .nil) (open_c _ (by rw [seal_size]; decide) hS) rfl ?_
  rintro _ w ⟨rfl, hS⟩
  rw [abc_open]
  refine wl (y_move rfl) rfl ?_
  refine wl (y_extract (vs := [_, _]) rfl rfl) rfl ?_
  refine wl (y_extract (vs := [_, _]) rfl rfl) rfl ?_
  refine wl (y_assign rfl) rfl ?_
  refine wl (y_assign rfl) rfl ?_
  refine wl_nil ?_
  refine wc_seq ?_
  -- region 2
  refine wc_region ?_
  refine wl_call (.cons rfl .nil) (open_c _ (by decide) hS) rfl ?_
  rintro _ w ⟨rfl, hS⟩
  rw [abc_not]
  refine wl (y_move rfl) rfl ?_
  refine wl (y_extract (vs := [_, _]) rfl rfl) rfl ?_
  refine wl (y_extract (vs := [_, _]) rfl rfl) rfl ?_
  refine wl (y_assign rfl) rfl ?_
  refine wl (y_assign rfl) rfl ?_
  refine wl_nil ?_
  refine wc_seq ?_
  -- region 3
  refine wc_region ?_
  refine wl_call (.cons rfl .nil) (sum_c _ (by decide) hS) rfl ?_
  rintro _ w ⟨rfl, hS⟩
  rw [digits_sum]
  refine wl ((y_eql rfl rfl).val (u := .bool true) (congrArg Value.bool (rfl))) rfl ?_
  refine wl (y_move rfl) rfl ?_
  refine wl_on rfl rfl ?_
  refine wl_call (.cons rfl .nil) (sum_c _ (by decide) hS) rfl ?_
  rintro _ w ⟨rfl, hS⟩
  rw [none_sum]
  refine wl_on rfl rfl ?_
  refine wl ((y_eql rfl rfl).val (u := .bool true) (congrArg Value.bool (rfl))) rfl ?_
  refine wl (y_pickT rfl rfl) rfl ?_
  refine wl (y_move rfl) rfl ?_
  refine wl_on rfl rfl ?_
  refine wl_call (.cons rfl .nil) (sum_c _ (by decide) hS) rfl ?_
  rintro _ w ⟨rfl, hS⟩
  refine wl_on rfl rfl ?_
  refine wl_call (.cons rfl (.cons rfl .nil)) (more_c _ _ (by decide) hS) rfl ?_
  rintro _ w ⟨rfl, hS⟩
  rw [digits_more]
  refine wl_on rfl rfl ?_
  refine wl ((y_eql rfl rfl).val (u := .bool true) (congrArg Value.bool (rfl))) rfl ?_
  refine wl (y_pickT rfl rfl) rfl ?_
  refine wl (y_move rfl) rfl ?_
  refine wl_on rfl rfl ?_
  refine wl (y_move rfl) rfl ?_
  refine wl_on rfl rfl ?_
  refine wl ((y_seql rfl rfl).val (u := .bool true) (congrArg Value.bool (decT rfl))) rfl ?_
  refine wl (y_pickT rfl rfl) rfl ?_
  refine wl (y_move rfl) rfl ?_
  refine wl_on rfl rfl ?_
  refine wl (y_move rfl) rfl ?_
  refine wl (y_pickT rfl rfl) rfl ?_
  refine wl (y_move rfl) rfl ?_
  refine wl_on rfl rfl ?_
  refine wl (y_move rfl) rfl ?_
  refine wl_on rfl rfl ?_
  refine wl (y_not rfl) rfl ?_
  refine wl (y_pickT rfl rfl) rfl ?_
  refine wl (y_move rfl) rfl ?_
  refine wl_on rfl rfl ?_
  refine wl_call (.cons rfl .nil) (seal_c _ (by decide) hS) rfl ?_
  rintro _ w ⟨rfl, hS⟩
  refine wl_on rfl rfl ?_
  refine wl (y_len_s Try.underlying9 rfl) rfl ?_
  refine wl_on rfl rfl ?_
  refine wl ((y_eql rfl rfl).val (u := .bool true) (congrArg Value.bool (decT (by rw [seal_size]; rfl)))) rfl ?_
  refine wl (y_pickT rfl rfl) rfl ?_
  refine wl (y_assign rfl) rfl ?_
  refine wl_nil ?_
  refine wc_ret ?_
  refine wret (vs := [_]) (.tmp rfl .nil) ?_
  exact ⟨rfl, hS⟩

theorem CrcSums_c {M : Mem} {w : World} {Ls : List Chunk} (b : ByteArray) (hb : b.size ≤ 9223372036854775807) (hS : St M w Ls) :
    CallsR Try.prog 3 [.string b].toArray w fun v w' => v = .bool true ∧ St M w' Ls := by
  refine calls_of (c := _) (rs := _) (n := 16) Try.func3 rfl rfl rfl rfl rfl ?_
  refine wc_seq ?_
  -- region 0
  refine wc_region ?_
  refine wl (y_assign rfl) rfl ?_
  refine wl_nil ?_
  refine wc_seq ?_
  refine wc_seq ?_
  -- region 1
  refine wc_region ?_
  refine wl_call .nil (awake_c hS) rfl ?_
  rintro _ w ⟨rfl, hS⟩
  refine wl (y_not rfl) rfl ?_
  refine wl (y_move rfl) rfl ?_
  refine wl_on rfl rfl ?_
  refine wl (y_move rfl) rfl ?_
  refine wl_on rfl rfl ?_
  refine wl (y_len_s Try.underlying9 rfl) rfl ?_
  refine wl_on rfl rfl ?_
  refine wl (y_gtr rfl rfl) rfl ?_
  refine wl (y_pickF rfl rfl) rfl ?_
  refine wl_nil ?_
  refine wc_if rfl (fun hc9 => ?_) (fun hc9 => ?_)
  · try simp only [decide_eq_true_eq, decide_eq_false_iff_not, Bool.not_eq_true', Bool.not_eq_false', Bool.not_true, Bool.not_false, Bool.not_eq_eq_eq_not] at hc9
    refine wc_seq ?_
    -- region 2
    refine wc_region ?_
    refine wl_call .nil (awake_c hS) rfl ?_
    rintro _ w ⟨rfl, hS⟩
    refine wl (y_assign rfl) rfl ?_
    refine wl_nil ?_
    refine wc_ret ?_
    refine wret (vs := [_]) (.tmp rfl .nil) ?_
    exact ⟨rfl, hS⟩
  · try simp only [decide_eq_true_eq, decide_eq_false_iff_not, Bool.not_eq_true', Bool.not_eq_false', Bool.not_true, Bool.not_false, Bool.not_eq_eq_eq_not] at hc9
    refine wc_skip ?_
    refine wc_seq ?_
    -- region 3
    refine wc_region ?_
    refine wl (y_move rfl) rfl ?_
    refine wl_call (.cons rfl .nil) (sum_c b (by omega) hS) rfl ?_
    rintro _ w ⟨rfl, hS⟩
    refine wl (y_move rfl) rfl ?_
    refine wl_call (.cons rfl .nil) (rsum_c b (by omega) hS) rfl ?_
    rintro _ w ⟨rfl, hS⟩
    rw [rsum_eq]
    refine wl ((y_eql rfl rfl).val (u := .bool true) (congrArg Value.bool (decT rfl))) rfl ?_
    refine wl (y_assign rfl) rfl ?_
    refine wl_nil ?_
    refine wc_ret ?_
    refine wret (vs := [_]) (.tmp rfl .nil) ?_
    exact ⟨rfl, hS⟩

theorem CrcParts_c {M : Mem} {w : World} {Ls : List Chunk} (s : BitVec 32) (a b : ByteArray) (ha : a.size ≤ 9223372036854775807) (hb : b.size ≤ 9223372036854775807) (hS : St M w Ls) :
    CallsR Try.prog 4 [.int .u32 (s.toNat : Int), .string a, .string b].toArray w fun v w' => v = .bool true ∧ St M w' Ls := by
  refine calls_of (c := _) (rs := _) (n := 48) Try.func4 rfl rfl rfl rfl rfl ?_
  refine wc_seq ?_
  -- region 0
  refine wc_region ?_
  refine wl (y_assign rfl) rfl ?_
  refine wl_nil ?_
  refine wc_seq ?_
  refine wc_seq ?_
  -- region 1
  refine wc_region ?_
  refine wl_call .nil (awake_c hS) rfl ?_
  rintro _ w ⟨rfl, hS⟩
  refine wl (y_not rfl) rfl ?_
  refine wl (y_move rfl) rfl ?_
  refine wl_on rfl rfl ?_
  refine wl (y_move rfl) rfl ?_
  refine wl_on rfl rfl ?_
  refine wl (y_len_s Try.underlying9 rfl) rfl ?_
  refine wl_on rfl rfl ?_
  refine wl (y_gtr rfl rfl) rfl ?_
  refine wl (y_pickF rfl rfl) rfl ?_
  refine wl (y_move rfl) rfl ?_
  refine wl_cases (s := 14) rfl (fun hg14 => ?_) (fun hg14 => ?_)
  · try simp only [decide_eq_true_eq, decide_eq_false_iff_not, Bool.not_eq_true', Bool.not_eq_false', Bool.not_true, Bool.not_false, Bool.not_eq_eq_eq_not] at hg14
    refine wl_off rfl rfl rfl rfl ?_
    refine wl_off rfl rfl rfl rfl ?_
    refine wl_off rfl rfl rfl rfl ?_
    refine wl (y_pickT rfl rfl) rfl ?_
    refine wl_nil ?_
    refine wc_ifT rfl rfl ?_
    refine wc_seq ?_
    -- region 2
    refine wc_region ?_
    refine wl_call .nil (awake_c hS) rfl ?_
    rintro _ w ⟨rfl, hS⟩
    refine wl (y_assign rfl) rfl ?_
    refine wl_nil ?_
    refine wc_ret ?_
    refine wret (vs := [_]) (.tmp rfl .nil) ?_
    exact ⟨rfl, hS⟩
  · try simp only [decide_eq_true_eq, decide_eq_false_iff_not, Bool.not_eq_true', Bool.not_eq_false', Bool.not_true, Bool.not_false, Bool.not_eq_eq_eq_not] at hg14
    refine wl_on rfl rfl ?_
    refine wl (y_move rfl) rfl ?_
    refine wl_on rfl rfl ?_
    refine wl (y_len_s Try.underlying9 rfl) rfl ?_
    refine wl_on rfl rfl ?_
    refine wl (y_gtr rfl rfl) rfl ?_
    refine wl (y_pickF rfl rfl) rfl ?_
    refine wl_nil ?_
    refine wc_if rfl (fun hc18 => ?_) (fun hc18 => ?_)
    · try simp only [decide_eq_true_eq, decide_eq_false_iff_not, Bool.not_eq_true', Bool.not_eq_false', Bool.not_true, Bool.not_false, Bool.not_eq_eq_eq_not] at hc18
      refine wc_seq ?_
      -- region 2
      refine wc_region ?_
      refine wl_call .nil (awake_c hS) rfl ?_
      rintro _ w ⟨rfl, hS⟩
      refine wl (y_assign rfl) rfl ?_
      refine wl_nil ?_
      refine wc_ret ?_
      refine wret (vs := [_]) (.tmp rfl .nil) ?_
      exact ⟨rfl, hS⟩
    · try simp only [decide_eq_true_eq, decide_eq_false_iff_not, Bool.not_eq_true', Bool.not_eq_false', Bool.not_true, Bool.not_false, Bool.not_eq_eq_eq_not] at hc18
      refine wc_skip ?_
      refine wc_seq ?_
      -- region 3
      refine wc_region ?_
      refine wl (y_move rfl) rfl ?_
      refine wl (y_move rfl) rfl ?_
      refine wl (y_move rfl) rfl ?_
      refine wl (y_sadd rfl rfl (by omega)) rfl ?_
      refine wl_call (.cons rfl (.cons rfl .nil)) (more_c _ _ (by rw [ByteArray.size_append]; omega) hS) rfl ?_
      rintro _ w ⟨rfl, hS⟩
      rw [more_append]
      refine wl (y_move rfl) rfl ?_
      refine wl (y_move rfl) rfl ?_
      refine wl_call (.cons rfl (.cons rfl .nil)) (more_c _ _ (by first | omega | decide) hS) rfl ?_
      rintro _ w ⟨rfl, hS⟩
      refine wl (y_move rfl) rfl ?_
      refine wl_call (.cons rfl (.cons rfl .nil)) (more_c _ _ (by first | omega | decide) hS) rfl ?_
      rintro _ w ⟨rfl, hS⟩
      refine wl ((y_eql rfl rfl).val (u := .bool true) (congrArg Value.bool (decT rfl))) rfl ?_
      refine wl (y_move rfl) rfl ?_
      refine wl_on rfl rfl ?_
      refine wl (y_move rfl) rfl ?_
      refine wl_on rfl rfl ?_
      refine wl_call (.cons rfl (.cons rfl .nil)) (more_c s ByteArray.empty (by decide) hS) rfl ?_
      rintro _ w ⟨rfl, hS⟩
      rw [more_empty]
      refine wl_on rfl rfl ?_
      refine wl (y_move rfl) rfl ?_
      refine wl_on rfl rfl ?_
      refine wl ((y_eql rfl rfl).val (u := .bool true) (congrArg Value.bool (decT rfl))) rfl ?_
      refine wl (y_pickT rfl rfl) rfl ?_
      refine wl (y_move rfl) rfl ?_
      refine wl_on rfl rfl ?_
      refine wl (y_move rfl) rfl ?_
      refine wl_on rfl rfl ?_
      refine wl (y_move rfl) rfl ?_
      refine wl_on rfl rfl ?_
      refine wl (y_sadd rfl rfl (by omega)) rfl ?_
      refine wl_on rfl rfl ?_
      refine wl_call (.cons rfl .nil) (sum_c _ (by rw [ByteArray.size_append]; omega) hS) rfl ?_
      rintro _ w ⟨rfl, hS⟩
      rw [sum, more_append]
      refine wl_on rfl rfl ?_
      refine wl (y_move rfl) rfl ?_
      refine wl_on rfl rfl ?_
      refine wl_call (.cons rfl .nil) (sum_c _ (by omega) hS) rfl ?_
      rintro _ w ⟨rfl, hS⟩
      refine wl_on rfl rfl ?_
      refine wl (y_move rfl) rfl ?_
      refine wl_on rfl rfl ?_
      refine wl_call (.cons rfl (.cons rfl .nil)) (more_c _ _ (by first | omega | decide) hS) rfl ?_
      rintro _ w ⟨rfl, hS⟩
      refine wl_on rfl rfl ?_
      refine wl ((y_eql rfl rfl).val (u := .bool true) (congrArg Value.bool (decT rfl))) rfl ?_
      refine wl (y_pickT rfl rfl) rfl ?_
      refine wl (y_assign rfl) rfl ?_
      refine wl_nil ?_
      refine wc_ret ?_
      refine wret (vs := [_]) (.tmp rfl .nil) ?_
      exact ⟨rfl, hS⟩

theorem openV_some (s : ByteArray) : openV (some s) = .tuple #[.string s, .bool true] := rfl
def openS : Option ByteArray → ByteArray
  | none => ByteArray.empty
  | some s => s
theorem openV_eq (o : Option ByteArray) : openV o = .tuple #[.string (openS o), .bool o.isSome] := by cases o <;> rfl
theorem CrcSealed_c {M : Mem} {w : World} {Ls : List Chunk} (b : ByteArray) (hb : b.size ≤ 9223372036854775807) (hS : St M w Ls) :
    CallsR Try.prog 5 [.string b].toArray w fun v w' => v = .bool true ∧ St M w' Ls := by
  refine calls_of (c := _) (rs := _) (n := 56) Try.func5 rfl rfl rfl rfl rfl ?_
  refine wc_seq ?_
  -- region 0
  refine wc_region ?_
  refine wl (y_assign rfl) rfl ?_
  refine wl_nil ?_
  refine wc_seq ?_
  refine wc_seq ?_
  -- region 1
  refine wc_region ?_
  refine wl_call .nil (awake_c hS) rfl ?_
  rintro _ w ⟨rfl, hS⟩
  refine wl (y_not rfl) rfl ?_
  refine wl (y_move rfl) rfl ?_
  refine wl_on rfl rfl ?_
  refine wl (y_move rfl) rfl ?_
  refine wl_on rfl rfl ?_
  refine wl (y_len_s Try.underlying9 rfl) rfl ?_
  refine wl_on rfl rfl ?_
  refine wl (y_gtr rfl rfl) rfl ?_
  refine wl (y_pickF rfl rfl) rfl ?_
  refine wl_nil ?_
  refine wc_if rfl (fun hc15 => ?_) (fun hc15 => ?_)
  · try simp only [decide_eq_true_eq, decide_eq_false_iff_not, Bool.not_eq_true', Bool.not_eq_false', Bool.not_true, Bool.not_false, Bool.not_eq_eq_eq_not] at hc15
    refine wc_seq ?_
    -- region 2
    refine wc_region ?_
    refine wl_call .nil (awake_c hS) rfl ?_
    rintro _ w ⟨rfl, hS⟩
    refine wl (y_assign rfl) rfl ?_
    refine wl_nil ?_
    refine wc_ret ?_
    refine wret (vs := [_]) (.tmp rfl .nil) ?_
    exact ⟨rfl, hS⟩
  · try simp only [decide_eq_true_eq, decide_eq_false_iff_not, Bool.not_eq_true', Bool.not_eq_false', Bool.not_true, Bool.not_false, Bool.not_eq_eq_eq_not] at hc15
    refine wc_skip ?_
    refine wc_seq ?_
    -- region 3
    refine wc_region ?_
    refine wl (y_move rfl) rfl ?_
    refine wl_call (.cons rfl .nil) (open_c b (by omega) hS) rfl ?_
    rintro _ w ⟨rfl, hS⟩
    rw [openV_eq]
    refine wl (y_move rfl) rfl ?_
    refine wl (y_extract (vs := [_, _]) rfl rfl) rfl ?_
    refine wl (y_extract (vs := [_, _]) rfl rfl) rfl ?_
    refine wl (y_assign rfl) rfl ?_
    refine wl (y_assign rfl) rfl ?_
    refine wl_nil ?_
    refine wc_seq ?_
    -- region 4
    refine wc_region ?_
    refine wl (y_move rfl) rfl ?_
    refine wl_call (.cons rfl .nil) (ropen_c b (by omega) hS) rfl ?_
    rintro _ w ⟨rfl, hS⟩
    rw [openV_eq, ropen_eq]
    refine wl (y_move rfl) rfl ?_
    refine wl (y_extract (vs := [_, _]) rfl rfl) rfl ?_
    refine wl (y_extract (vs := [_, _]) rfl rfl) rfl ?_
    refine wl (y_assign rfl) rfl ?_
    refine wl (y_assign rfl) rfl ?_
    refine wl_nil ?_
    refine wc_seq ?_
    -- region 5
    refine wc_region ?_
    refine wl (y_move rfl) rfl ?_
    refine wl_call (.cons rfl .nil) (seal_c b (by omega) hS) rfl ?_
    rintro _ w ⟨rfl, hS⟩
    refine wl_call (.cons rfl .nil) (open_c _ (by rw [seal_size]; omega) hS) rfl ?_
    rintro _ w ⟨rfl, hS⟩
    rw [open_seal, openV_some]
    refine wl (y_move rfl) rfl ?_
    refine wl (y_extract (vs := [_, _]) rfl rfl) rfl ?_
    refine wl (y_extract (vs := [_, _]) rfl rfl) rfl ?_
    refine wl (y_assign rfl) rfl ?_
    refine wl (y_assign rfl) rfl ?_
    refine wl_nil ?_
    refine wc_seq ?_
    -- region 6
    refine wc_region ?_
    refine wl (y_move rfl) rfl ?_
    refine wl_call (.cons rfl .nil) (seal_c b (by omega) hS) rfl ?_
    rintro _ w ⟨rfl, hS⟩
    refine wl (y_move rfl) rfl ?_
    refine wl_call (.cons rfl .nil) (rseal_c b (by omega) hS) rfl ?_
    rintro _ w ⟨rfl, hS⟩
    rw [rseal_eq]
    refine wl ((y_seql rfl rfl).val (u := .bool true) (congrArg Value.bool (decT rfl))) rfl ?_
    refine wl (y_move rfl) rfl ?_
    refine wl_on rfl rfl ?_
    refine wl (y_move rfl) rfl ?_
    refine wl_on rfl rfl ?_
    refine wl (y_move rfl) rfl ?_
    refine wl_on rfl rfl ?_
    refine wl ((y_seql rfl rfl).val (u := .bool true) (congrArg Value.bool (decT rfl))) rfl ?_
    refine wl (y_pickT rfl rfl) rfl ?_
    refine wl (y_move rfl) rfl ?_
    refine wl_on rfl rfl ?_
    refine wl (y_move rfl) rfl ?_
    refine wl_on rfl rfl ?_
    refine wl (y_move rfl) rfl ?_
    refine wl_on rfl rfl ?_
    refine wl (y_beqT Try.underlying4 rfl rfl) rfl ?_
    refine wl (y_pickT rfl rfl) rfl ?_
    refine wl (y_move rfl) rfl ?_
    refine wl_on rfl rfl ?_
    refine wl (y_move rfl) rfl ?_
    refine wl_on rfl rfl ?_
    refine wl (y_move rfl) rfl ?_
    refine wl_on rfl rfl ?_
    refine wl ((y_seql rfl rfl).val (u := .bool true) (congrArg Value.bool (decT rfl))) rfl ?_
    refine wl (y_pickT rfl rfl) rfl ?_
    refine wl (y_move rfl) rfl ?_
    refine wl_on rfl rfl ?_
    refine wl (y_move rfl) rfl ?_
    refine wl (y_pickT rfl rfl) rfl ?_
    refine wl (y_assign rfl) rfl ?_
    refine wl_nil ?_
    refine wc_ret ?_
    refine wret (vs := [_]) (.tmp rfl .nil) ?_
    exact ⟨rfl, hS⟩

end Go.Proofs.Ytipffnogkijmnaa.Crc
