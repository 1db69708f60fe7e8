import Derived.Test.YtipffnogkijmnaaBagC
import Derived.Test.YtipffnogkijmnaaCrcX
set_option linter.unusedVariables false
set_option linter.unusedSimpArgs false
namespace Go.Proofs.Ytipffnogkijmnaa.Bag
open Go Go.Proofs Go.Proofs.Ytipffnogkijmnaa.Eng Go.Proofs.Ytipffnogkijmnaa.Crc

def bP : ByteArray := ⟨#[112]⟩
def bQ : ByteArray := ⟨#[113]⟩
def kP : Pkt := ⟨1, 0, bP⟩
def kQ : Pkt := ⟨0, 1, bQ⟩
def kR : Pkt := ⟨1, 0, bQ⟩
section
variable {M : Mem} {w : World} {Ls : List Chunk}
theorem aw1 : addL [] [kP, kQ] = [⟨kP, false⟩, ⟨kQ, false⟩] := rfl
theorem aw4 : spoilL [⟨kP, false⟩, ⟨kP, false⟩] 0 0 1#32 = [⟨kR, true⟩, ⟨kP, false⟩] := by decide +kernel
theorem awake_c (hS : St M w Ls) : CallsR Try.prog 19 [].toArray w fun v w' => v = .bool true ∧ St M w' Ls := by
  refine calls_of (c := _) (rs := _) (n := 80) Try.func19 rfl rfl rfl rfl rfl ?_
  refine wc_seq ?_
  -- region 0
  refine wc_region ?_
  refine wl (y_assign rfl) rfl ?_
  refine wl_nil ?_
  refine wc_seq ?_
  -- region 1
  refine wc_region ?_
  refine wl_call .nil (new_c hS) rfl ?_
  rintro _ w ⟨b, H, rfl, hb, hS⟩
  refine wl (y_assign rfl) rfl ?_
  refine wl_nil ?_
  refine wc_seq ?_
  refine wc_seq ?_
  -- region 2
  refine wc_region ?_
  refine wl (y_move rfl) rfl ?_
  refine wl ((y_pnil Try.underlying35 rfl rfl).val (u := .bool false) (congrArg Value.bool (rfl))) rfl ?_
  refine wl_nil ?_
  refine wc_ifF rfl rfl ?_
  refine wc_skip ?_
  refine wc_seq ?_
  -- region 4
  refine wc_region ?_
  refine wl (y_build (is := [0, 2]) (xs := [_, _]) (out := [_, _, _]) plc_39 z_39 (.cons rfl (.cons rfl .nil)) rfl) rfl ?_
  refine wl (y_build (is := [1, 2]) (xs := [_, _]) (out := [_, _, _]) plc_39 z_39 (.cons rfl (.cons rfl .nil)) rfl) rfl ?_
  refine a_alloc z_39 hS rfl fun b2 w hS => ?_
  refine a_alloc z_39 hS rfl fun b3 w hS => ?_
  refine a_storeS (vs := [_, _, _]) sz_39 rfl rfl rfl rfl hS (Nat.le_of_ble_eq_true rfl) fun w hS => ?_
  refine a_storeS (vs := [_, _, _]) sz_39 rfl rfl rfl rfl hS (Nat.le_of_ble_eq_true rfl) fun w hS => ?_
  refine wl_nil ?_
  refine wc_seq ?_
  -- region 5
  refine wc_region ?_
  refine wl (y_move rfl) rfl ?_
  refine wl (y_loadS st_39 sz_39 rfl (hS.cells (vs := [_, _, _]) rfl) rfl) rfl ?_
  refine wl (y_loadS st_39 sz_39 rfl (hS.cells (vs := [_, _, _]) rfl) rfl) rfl ?_
  refine a_bslice encP [kP, kQ] Try.underlying53 sz_39 z_39 rfl (.cons rfl (.cons rfl .nil)) rfl rfl rfl (by decide) hS rfl fun u Hu w hou hS => ?_
  refine wl_call (.cons rfl (.cons rfl .nil)) (add_c u [kP, kQ] (by decide) (by decide) hb (fun a m c e => by subst e; have := hou.cap; omega) (fun w H hS => hou.holds (hS.pull Hu)) (hS.pull H)) rfl ?_
  rintro _ w ⟨rfl, H1, hb, hS⟩
  rw [aw1] at hb
  refine wl (y_assign rfl) rfl ?_
  refine wl_nil ?_
  refine wc_seq ?_
  -- region 6
  refine wc_region ?_
  refine wl (y_move rfl) rfl ?_
  refine wl_call (.cons rfl (.cons rfl .nil)) (twice_c 0 (by decide) hb hS) rfl ?_
  rintro _ w ⟨rfl, H2, hb, hS⟩
  replace hb : IsBag b [⟨kP, false⟩, ⟨kQ, false⟩, ⟨kP, false⟩] H2 := hb
  refine wl (y_assign rfl) rfl ?_
  refine wl_nil ?_
  refine wc_seq ?_
  -- region 7
  refine wc_region ?_
  refine wl (y_move rfl) rfl ?_
  refine wl_call (.cons rfl (.cons rfl .nil)) (take_c 1 (by decide) hb hS) rfl ?_
  rintro _ w ⟨rfl, H3, hb, hS⟩
  replace hb : IsBag b [⟨kP, false⟩, ⟨kP, false⟩] H3 := hb
  refine wl (y_move rfl) rfl ?_
  refine wl (y_extract (vs := [_, _]) rfl rfl) rfl ?_
  refine wl (y_extract (vs := [_, _]) rfl rfl) rfl ?_
  refine a_alloc z_39 hS rfl fun b6 w hS => ?_
  refine a_storeS (vs := [_, _, _]) sz_39 rfl rfl rfl rfl hS (Nat.le_of_ble_eq_true rfl) fun w hS => ?_
  refine wl (y_assign rfl) rfl ?_
  refine wl_nil ?_
  refine wc_seq ?_
  -- region 8
  refine wc_region ?_
  refine wl (y_move rfl) rfl ?_
  refine wl_call (.cons rfl (.cons rfl (.cons rfl (.cons rfl .nil)))) (spoil_c 0 0 1#32 (by decide) (by decide) (by decide) hb (hS.pull H3)) rfl ?_
  rintro _ w ⟨rfl, H4, hb, hS⟩
  rw [aw4] at hb
  refine wl (y_move rfl) rfl ?_
  refine wl_call (.cons rfl (.cons rfl (.cons rfl (.cons rfl .nil)))) (spoil_c 0 0 1#32 (by decide) (by decide) (by decide) hb hS) rfl ?_
  rintro _ w ⟨rfl, H5, hb, hS⟩
  replace hb : IsBag b [⟨kR, true⟩, ⟨kP, false⟩] H5 := hb
  refine wl (y_move rfl) rfl ?_
  refine wl_call (.cons rfl (.cons rfl (.cons rfl (.cons rfl .nil)))) (spoil_c 5 0 1#32 (by decide) (by decide) (by decide) hb hS) rfl ?_
  rintro _ w ⟨rfl, H6, hb, hS⟩
  replace hb : IsBag b [⟨kR, true⟩, ⟨kP, false⟩] H6 := hb
  refine wl (y_assign rfl) rfl ?_
  refine wl (y_assign rfl) rfl ?_
  refine wl (y_assign rfl) rfl ?_
  refine wl_nil ?_
  refine wc_seq ?_
  -- region 9
  refine wc_region ?_
  refine wl (y_move rfl) rfl ?_
  refine wl_call (.cons rfl (.cons rfl .nil)) (at_c' 0 hb hS) rfl ?_
  rintro _ w ⟨rfl, hS⟩
  refine wl (y_move rfl) rfl ?_
  refine wl (y_extract (vs := [_, _]) rfl rfl) rfl ?_
  refine wl (y_extract (vs := [_, _]) rfl rfl) rfl ?_
  refine a_alloc z_39 hS rfl fun b11 w hS => ?_
  refine a_storeS (vs := [_, _, _]) sz_39 rfl rfl rfl rfl hS (Nat.le_of_ble_eq_true rfl) fun w hS => ?_
  refine wl (y_assign rfl) rfl ?_
  refine wl_nil ?_
  refine wc_seq ?_
  -- region 10
  refine wc_region ?_
  refine wl (y_move rfl) rfl ?_
  refine wl ((y_eql rfl rfl).val (u := .bool true) (congrArg Value.bool (rfl))) rfl ?_
  refine wl (y_move rfl) rfl ?_
  refine wl_on rfl rfl ?_
  refine wl (y_move rfl) rfl ?_
  refine wl_on rfl rfl ?_
  refine wl ((y_eql rfl rfl).val (u := .bool true) (congrArg Value.bool (rfl))) rfl ?_
  refine wl (y_pickT rfl rfl) rfl ?_
  refine wl (y_move rfl) rfl ?_
  refine wl_on rfl rfl ?_
  refine wl (y_loadS st_39 sz_39 rfl (hS.cells (vs := [_, _, _]) rfl) rfl) rfl ?_
  refine wl_on rfl rfl ?_
  refine wl (y_loadS st_39 sz_39 rfl (hS.cells (vs := [_, _, _]) rfl) rfl) rfl ?_
  refine wl_on rfl rfl ?_
  refine wl ((y_eqS Try.eqGuardType39 rfl rfl (eq_39 _ _ _ _ _ _)).val (u := .bool true) (congrArg Value.bool (rfl))) rfl ?_
  refine wl (y_pickT rfl rfl) rfl ?_
  refine wl (y_move rfl) rfl ?_
  refine wl_on rfl rfl ?_
  refine wl (y_move rfl) rfl ?_
  refine wl (y_pickT rfl rfl) rfl ?_
  refine wl (y_move rfl) rfl ?_
  refine wl_on rfl rfl ?_
  refine wl (y_move rfl) rfl ?_
  refine wl_on rfl rfl ?_
  refine wl ((y_eql rfl rfl).val (u := .bool true) (congrArg Value.bool (rfl))) rfl ?_
  refine wl (y_pickT rfl rfl) rfl ?_
  refine wl (y_move rfl) rfl ?_
  refine wl_on rfl rfl ?_
  refine wl (y_move rfl) rfl ?_
  refine wl_on rfl rfl ?_
  refine wl ((y_eql rfl rfl).val (u := .bool true) (congrArg Value.bool (rfl))) rfl ?_
  refine wl (y_pickT rfl rfl) rfl ?_
  refine wl (y_move rfl) rfl ?_
  refine wl_on rfl rfl ?_
  refine wl (y_move rfl) rfl ?_
  refine wl_on rfl rfl ?_
  refine wl ((y_eql rfl rfl).val (u := .bool true) (congrArg Value.bool (rfl))) rfl ?_
  refine wl (y_pickT rfl rfl) rfl ?_
  refine wl (y_move rfl) rfl ?_
  refine wl_on rfl rfl ?_
  refine wl (y_fld fl_39_2 rfl) rfl ?_
  refine wl_on rfl rfl ?_
  refine wl (y_load pl_9 rfl (hS.cell rfl)) rfl ?_
  refine wl_on rfl rfl ?_
  refine wl ((y_seql rfl rfl).val (u := .bool true) (congrArg Value.bool (rfl))) rfl ?_
  refine wl (y_pickT rfl rfl) rfl ?_
  refine wl (y_move rfl) rfl ?_
  refine wl_on rfl rfl ?_
  refine wl (y_move rfl) rfl ?_
  refine wl (y_pickT rfl rfl) rfl ?_
  refine wl (y_move rfl) rfl ?_
  refine wl_on rfl rfl ?_
  refine wl (y_move rfl) rfl ?_
  refine wl_on rfl rfl ?_
  refine wl_call (.cons rfl .nil) (len_c hb (hS.pull H6)) rfl ?_
  rintro _ w ⟨rfl, hS⟩
  refine wl_on rfl rfl ?_
  refine wl ((y_eql rfl rfl).val (u := .bool true) (congrArg Value.bool (rfl))) rfl ?_
  refine wl (y_pickT rfl rfl) rfl ?_
  refine wl (y_assign rfl) rfl ?_
  refine wl_nil ?_
  refine wc_ret ?_
  refine wret (vs := [_]) (.tmp rfl .nil) ?_
  exact ⟨rfl, hS.keep⟩

theorem spoilB_size (b : ByteArray) (bit : Int) (mask : BitVec 32) : (⟨(spoilB b bit mask 32).toArray⟩ : ByteArray).size = b.size := by
  show (spoilB b bit mask 32).toArray.size = _
  rw [List.size_toArray, spoilB_length]
theorem spoil_found (b : ByteArray) (bit : Int) (mask : BitVec 32) (hok : 4 ≤ b.size) (ho : (open_ b).isSome = true) :
    (open_ ⟨(spoilB b bit mask 32).toArray⟩).isSome = decide ((⟨(spoilB b bit mask 32).toArray⟩ : ByteArray) = b) := by
  unfold spoilB
  by_cases h : -32 ≤ bit ∧ bit < 8 * b.size
  · simp only [if_pos h]
    exact burst_found b bit mask h.1 hok ho
  · simp only [if_neg h]
    have e : (⟨b.data.toList.toArray⟩ : ByteArray) = b := by cases b; simp
    rw [e, ho]; simp
theorem BagBursts_c (s : ByteArray) (bit : Int) (mask : BitVec 32) (hs : s.size ≤ 9223372036854775807) (hbit : -9223372036854775808 ≤ bit ∧ bit ≤ 9223372036854775807) (hS : St M w Ls) :
    CallsR Try.prog 8 [.string s, .int .i64 bit, .int .u32 (mask.toNat : Int)].toArray w fun v w' => v = .bool true ∧ St M w' Ls := by
  refine calls_of (c := _) (rs := _) (n := 64) Try.func8 rfl rfl rfl rfl rfl ?_
  refine wc_seq ?_
  -- region 0
  refine wc_region ?_
  refine wl (y_assign rfl) rfl ?_
  refine wl_nil ?_
  refine wc_seq ?_
  -- region 1
  refine wc_region ?_
  refine wl_call .nil (new_c hS) rfl ?_
  rintro _ w ⟨b, H, rfl, hb, hS⟩
  refine wl (y_assign rfl) rfl ?_
  refine wl_nil ?_
  refine wc_seq ?_
  refine wc_seq ?_
  -- region 2
  refine wc_region ?_
  refine wl_call .nil (awake_c hS) rfl ?_
  rintro _ w ⟨rfl, hS⟩
  refine wl (y_not rfl) rfl ?_
  refine wl (y_move rfl) rfl ?_
  refine wl_on rfl rfl ?_
  refine wl (y_move rfl) rfl ?_
  refine wl_on rfl rfl ?_
  refine wl ((y_pnil Try.underlying35 rfl rfl).val (u := .bool false) (congrArg Value.bool (rfl))) rfl ?_
  refine wl (y_pickF rfl rfl) rfl ?_
  refine wl (y_move rfl) rfl ?_
  refine wl_on rfl rfl ?_
  refine wl (y_move rfl) rfl ?_
  refine wl_on rfl rfl ?_
  refine wl (y_len_s Try.underlying9 rfl) rfl ?_
  refine wl_on rfl rfl ?_
  refine wl (y_gtr rfl rfl) rfl ?_
  refine wl (y_pickF rfl rfl) rfl ?_
  refine wl_nil ?_
  refine wc_if rfl (fun hc24 => ?_) (fun hc24 => ?_)
  · try simp only [decide_eq_true_eq, decide_eq_false_iff_not, Bool.not_eq_true', Bool.not_eq_false', Bool.not_true, Bool.not_false, Bool.not_eq_eq_eq_not] at hc24
    refine wc_seq ?_
    -- region 3
    refine wc_region ?_
    refine wl_call .nil (awake_c hS) rfl ?_
    rintro _ w ⟨rfl, hS⟩
    refine wl (y_assign rfl) rfl ?_
    refine wl_nil ?_
    refine wc_ret ?_
    refine wret (vs := [_]) (.tmp rfl .nil) ?_
    exact ⟨rfl, hS.keep⟩
  · try simp only [decide_eq_true_eq, decide_eq_false_iff_not, Bool.not_eq_true', Bool.not_eq_false', Bool.not_true, Bool.not_false, Bool.not_eq_eq_eq_not] at hc24
    refine wc_skip ?_
    refine wc_seq ?_
    -- region 4
    refine wc_region ?_
    refine wl (y_move rfl) rfl ?_
    refine wl_call (.cons rfl .nil) (rseal_c s (by omega) hS) rfl ?_
    rintro _ w ⟨rfl, hS⟩
    rw [rseal_eq]
    refine wl (y_assign rfl) rfl ?_
    refine wl_nil ?_
    refine wc_seq ?_
    -- region 5
    refine wc_region ?_
    refine wl (y_move rfl) rfl ?_
    refine wl (y_move rfl) rfl ?_
    refine wl (y_build (is := [2]) (xs := [_]) (out := [_, _, _]) plc_39 z_39 (.cons rfl .nil) rfl) rfl ?_
    refine a_bslice encP [⟨0, 0, seal_ s⟩] Try.underlying53 sz_39 z_39 rfl (.cons rfl .nil) rfl rfl rfl (by decide) hS rfl fun u Hu w hou hS => ?_
    refine wl_call (.cons rfl (.cons rfl .nil)) (add_c u [⟨0, 0, seal_ s⟩] (by decide) (by simp) hb (fun a m c e => by subst e; have := hou.cap; omega) (fun w H hS => hou.holds (hS.pull Hu)) (hS.pull H)) rfl ?_
    rintro _ w ⟨_, H1, hb, hS⟩
    replace hb : IsBag b [⟨⟨0, 0, seal_ s⟩, false⟩] H1 := hb
    have hsz := seal_size s
    refine wl_nil ?_
    refine wc_seq ?_
    -- region 6
    refine wc_region ?_
    refine wl (y_move rfl) rfl ?_
    refine wl (y_move rfl) rfl ?_
    refine wl (y_move rfl) rfl ?_
    refine wl_call (.cons rfl (.cons rfl (.cons rfl (.cons rfl .nil)))) (spoil_c 0 bit mask (by simp) hbit (by simp; omega) hb hS) rfl ?_
    rintro _ w ⟨_, H2, hb, hS⟩
    replace hb : IsBag b [spoilI ⟨⟨0, 0, seal_ s⟩, false⟩ bit mask] H2 := hb
    refine wl_nil ?_
    refine wc_seq ?_
    -- region 7
    refine wc_region ?_
    refine wl (y_move rfl) rfl ?_
    refine wl_call (.cons rfl (.cons rfl .nil)) (at_c' 0 hb hS) rfl ?_
    rintro _ w ⟨rfl, hS⟩
    have hss := spoilB_size (seal_ s) bit mask
    have hsf := spoil_found (seal_ s) bit mask (by omega) (by rw [open_seal]; rfl)
    refine wl (y_move rfl) rfl ?_
    refine wl (y_extract (vs := [_, _]) rfl rfl) rfl ?_
    refine wl (y_extract (vs := [_, _]) rfl rfl) rfl ?_
    refine a_alloc z_39 hS rfl fun b9 w hS => ?_
    refine a_storeS (vs := [_, _, _]) sz_39 rfl rfl rfl rfl hS (Nat.le_of_ble_eq_true rfl) fun w hS => ?_
    refine wl (y_assign rfl) rfl ?_
    refine wl_nil ?_
    refine wc_seq ?_
    refine wc_seq ?_
    -- region 8
    refine wc_region ?_
    refine wl (y_move rfl) rfl ?_
    refine wl (y_not rfl) rfl ?_
    refine wl (y_move rfl) rfl ?_
    refine wl_on rfl rfl ?_
    refine wl (y_fld fl_39_2 rfl) rfl ?_
    refine wl_on rfl rfl ?_
    refine wl (y_load pl_9 rfl (hS.cell rfl)) rfl ?_
    refine wl_on rfl rfl ?_
    refine wl (y_len_s Try.underlying9 rfl) rfl ?_
    refine wl_on rfl rfl ?_
    refine wl (y_move rfl) rfl ?_
    refine wl_on rfl rfl ?_
    refine wl (y_len_s Try.underlying9 rfl) rfl ?_
    refine wl_on rfl rfl ?_
    refine wl ((y_neq rfl rfl).val (u := .bool false) (congrArg Value.bool (by simp only [Bool.not_eq_false', decide_eq_true_eq]; exact congrArg (fun n : Nat => (n : Int)) hss))) rfl ?_
    refine wl (y_pickF rfl rfl) rfl ?_
    refine wl_nil ?_
    refine wc_ifF rfl rfl ?_
    refine wc_skip ?_
    refine wc_seq ?_
    -- region 10
    refine wc_region ?_
    refine wl (y_fld fl_39_2 rfl) rfl ?_
    refine wl (y_load pl_9 rfl (hS.cell rfl)) rfl ?_
    refine wl_call (.cons rfl .nil) (open_c (⟨(spoilB (seal_ s) bit mask 32).toArray⟩ : ByteArray) (by rw [hss]; omega) hS) rfl ?_
    rintro _ w ⟨rfl, hS⟩
    rw [openV_eq, hsf]
    refine wl (y_move rfl) rfl ?_
    refine wl (y_extract (vs := [_, _]) rfl rfl) rfl ?_
    refine wl (y_extract (vs := [_, _]) rfl rfl) rfl ?_
    refine wl (y_assign rfl) rfl ?_
    refine wl (y_assign rfl) rfl ?_
    refine wl_nil ?_
    refine wc_seq ?_
    -- region 11
    refine wc_region ?_
    refine wl (y_move rfl) rfl ?_
    refine wl (y_fld fl_39_2 rfl) rfl ?_
    refine wl (y_load pl_9 rfl (hS.cell rfl)) rfl ?_
    refine wl (y_move rfl) rfl ?_
    refine wl (y_seql rfl rfl) rfl ?_
    refine wl (y_beqT Try.underlying4 rfl rfl) rfl ?_
    refine wl (y_assign rfl) rfl ?_
    refine wl_nil ?_
    refine wc_ret ?_
    refine wret (vs := [_]) (.tmp rfl .nil) ?_
    exact ⟨rfl, hS.keep⟩
end
end Go.Proofs.Ytipffnogkijmnaa.Bag
