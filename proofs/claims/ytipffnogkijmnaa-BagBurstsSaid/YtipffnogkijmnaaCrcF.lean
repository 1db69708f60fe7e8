import Derived.Test.YtipffnogkijmnaaCrcP
set_option linter.unusedVariables false
set_option linter.unusedSimpArgs false
namespace Go.Proofs.Ytipffnogkijmnaa.Crc
open Go Go.Proofs Go.Proofs.Ytipffnogkijmnaa.Eng

/-! bits that are turned -/
def bitv (j : Nat) : BitVec 8 := 1#8 <<< j
def flipAt (l : List UInt8) (p : Nat) : List UInt8 := l.set (p / 8) ⟨(l.getD (p / 8) 0).toBitVec ^^^ bitv (p % 8)⟩
def flips (at_ : Int) (mask : BitVec 32) (l : List UInt8) : Nat → List UInt8
  | 0 => l
  | k + 1 => if mask.getLsbD k = true ∧ 0 ≤ at_ + k ∧ at_ + k < 8 * l.length then flipAt (flips at_ mask l k) (at_ + k).toNat else flips at_ mask l k
theorem flipAt_length (l : List UInt8) (p : Nat) : (flipAt l p).length = l.length := by simp [flipAt]
theorem flips_length (at_ : Int) (mask : BitVec 32) (l : List UInt8) : ∀ k, (flips at_ mask l k).length = l.length
  | 0 => rfl
  | k + 1 => by
    simp only [flips]
    split
    · rw [flipAt_length, flips_length at_ mask l k]
    · exact flips_length at_ mask l k
theorem bitv_succ (j : Nat) : bitv j * 2#8 = bitv (j + 1) := by
  unfold bitv
  rw [BitVec.shiftLeft_add]
  generalize 1#8 <<< j = x
  apply BitVec.eq_of_toNat_eq
  simp [BitVec.toNat_mul, BitVec.toNat_shiftLeft, Nat.shiftLeft_eq]
theorem mask_bit (m : BitVec 32) (k : Nat) : decide (((m >>> k % 2#32).toNat : Int) = 1) = m.getLsbD k := by
  rw [bit_low]
  cases m.getLsbD k <;> simp

theorem flip_c {M : Mem} {w : World} {Ls : List Chunk} (b : ByteArray) (at_ : Int) (mask : BitVec 32) (hb : b.size ≤ 140737488351232) (ha : -9223372036854770000 ≤ at_) (ha' : at_ ≤ 9223372036854770000) (hS : St M w Ls) :
    CallsR Try.prog 17 [.string b, .int .i64 at_, .int .u32 (mask.toNat : Int)].toArray w fun v w' => v = .string ⟨(flips at_ mask b.data.toList 32).toArray⟩ ∧ St M w' Ls := by
  have hbl : b.data.toList.length = b.size := by simp
  refine calls_of (c := _) (rs := _) (n := 58) Try.func17 rfl rfl rfl rfl rfl ?_
  refine wc_seq ?_
  -- region 0
  refine wc_region ?_
  refine wl (y_assign rfl) rfl ?_
  refine wl_nil ?_
  refine wc_seq ?_
  -- region 1
  refine wc_region ?_
  refine wl (y_move rfl) rfl ?_
  refine a_s2b Try.underlying9 Try.underlying33 Try.underlying5 rfl hS rfl fun s H w ho hS => ?_
  refine wl (y_assign rfl) rfl ?_
  refine wl_nil ?_
  refine wc_seq ?_
  refine wc_seq ?_
  -- region 2
  refine wc_region ?_
  refine wl (y_assign rfl) rfl ?_
  refine wl_nil ?_
  refine wc_block ?_
  refine wc_loop (α := Nat × Value × Chunk) (fun ⟨k, s, H⟩ => [(1, .int .i64 at_), (8, .int .i64 k), (2, .int .u32 ((mask >>> k).toNat : Int)), (7, s)]) (fun ⟨k, s, H⟩ w => k ≤ 32 ∧ Own 5 encB s (flips at_ mask b.data.toList k) H ∧ St M w (H :: Ls)) (fun ⟨k, _, _⟩ => 32 - k) (0, s, H) (sub_cons rfl (sub_cons rfl (sub_cons (by rw [BitVec.ushiftRight_zero]; rfl) (sub_cons rfl sub_nil)))) ⟨by omega, ho, hS⟩ ?_
  rintro ⟨k, s, H⟩ w ⟨hk, ho, hS⟩
  have hlen := flips_length at_ mask b.data.toList k
  rw [hbl] at hlen
  obtain ⟨sa, sc, rfl⟩ := ho.slice
  refine wc_seq ?_
  refine wc_seq ?_
  -- region 3
  refine wc_region ?_
  refine wl (y_move rfl) rfl ?_
  refine wl (y_lss rfl rfl) rfl ?_
  refine wl_nil ?_
  refine wc_if rfl (fun hc15 => ?_) (fun hc15 => ?_)
  · try simp only [decide_eq_true_eq, decide_eq_false_iff_not, Bool.not_eq_true', Bool.not_eq_false', Bool.not_true, Bool.not_false, Bool.not_eq_eq_eq_not] at hc15
    refine wc_skip ?_
    refine wc_seq ?_
    refine wc_block ?_
    refine wc_seq ?_
    -- region 5
    refine wc_region ?_
    refine wl (y_move rfl) rfl ?_
    refine wl (y_move rfl) rfl ?_
    refine wl (y_add rfl rfl (w64 (by omega) (by omega))) rfl ?_
    refine wl (y_assign rfl) rfl ?_
    refine wl_nil ?_
    refine wc_seq ?_
    refine wc_seq ?_
    -- region 6
    refine wc_region ?_
    refine wl (y_move rfl) rfl ?_
    refine wl (y_rem rfl rfl (by decide) (bvrem32 _ 2)) rfl ?_
    refine wl ((y_eql rfl rfl).val (congrArg Value.bool (mask_bit mask k))) rfl ?_
    refine wl (y_move rfl) rfl ?_
    refine wl_cases (s := 24) rfl (fun hg24 => ?_) (fun hg24 => ?_)
    · try simp only [decide_eq_true_eq, decide_eq_false_iff_not, Bool.not_eq_true', Bool.not_eq_false', Bool.not_true, Bool.not_false, Bool.not_eq_eq_eq_not] at hg24
      have hbit : mask.getLsbD k = true := hg24
      refine wl_on rfl rfl ?_
      refine wl (y_move rfl) rfl ?_
      refine wl_on rfl rfl ?_
      refine wl (y_geq rfl rfl) rfl ?_
      refine wl (y_pickT rfl rfl) rfl ?_
      refine wl (y_move rfl) rfl ?_
      refine wl_cases (s := 28) rfl (fun hg28 => ?_) (fun hg28 => ?_)
      · try simp only [decide_eq_true_eq, decide_eq_false_iff_not, Bool.not_eq_true', Bool.not_eq_false', Bool.not_true, Bool.not_false, Bool.not_eq_eq_eq_not] at hg28
        refine wl_on rfl rfl ?_
        refine wl (y_move rfl) rfl ?_
        refine wl_on rfl rfl ?_
        refine wl (y_move rfl) rfl ?_
        refine wl_on rfl rfl ?_
        refine wl (y_len_sl Try.underlying33 rfl) rfl ?_
        refine wl_on rfl rfl ?_
        refine wl (y_mul rfl rfl (w64 (by omega) (by omega))) rfl ?_
        refine wl_on rfl rfl ?_
        refine wl (y_lss rfl rfl) rfl ?_
        refine wl (y_pickT rfl rfl) rfl ?_
        refine wl_nil ?_
        refine wc_if rfl (fun hc34 => ?_) (fun hc34 => ?_)
        · try simp only [decide_eq_true_eq, decide_eq_false_iff_not, Bool.not_eq_true', Bool.not_eq_false', Bool.not_true, Bool.not_false, Bool.not_eq_eq_eq_not] at hc34
          obtain ⟨p, hp⟩ : ∃ p : Nat, at_ + (k : Int) = p := ⟨(at_ + (k : Int)).toNat, by omega⟩
          have hf : flips at_ mask b.data.toList (k + 1) = flipAt (flips at_ mask b.data.toList k) p := by
            simp only [flips]
            rw [if_pos ⟨hbit, by omega, by rw [hbl]; omega⟩]
            congr 1; omega
          rw [hp]
          have hp8 : p / 8 < b.size := by omega
          obtain ⟨bb, off, cap, hs⟩ := ho.expose (by rw [hlen]; omega)
          rw [hs] at ho ⊢
          clear hs
          refine wc_seq ?_
          -- region 7
          refine wc_region ?_
          refine wl (y_assign rfl) rfl ?_
          refine wl_nil ?_
          refine wc_seq ?_
          refine wc_seq ?_
          -- region 8
          refine wc_region ?_
          refine wl (y_assign rfl) rfl ?_
          refine wl_nil ?_
          refine wc_block ?_
          refine wc_loop (α := Nat) (fun j => [(1, .int .i64 at_), (8, .int .i64 k), (2, .int .u32 ((mask >>> k).toNat : Int)), (7, .slice (some ⟨bb, off, none⟩) (flips at_ mask b.data.toList k).length cap), (9, .int .i64 p), (10, .int .u8 ((bitv j).toNat : Int)), (11, .int .i64 j)]) (fun j w => j ≤ p % 8 ∧ St M w (H :: Ls)) (fun j => 8 - j) 0 (sub_cons rfl (sub_cons rfl (sub_cons rfl (sub_cons rfl (sub_cons rfl (sub_cons rfl (sub_cons rfl sub_nil))))))) ⟨by omega, hS⟩ ?_
          rintro j w ⟨hj, hS⟩
          refine wc_seq ?_
          refine wc_seq ?_
          -- region 9
          refine wc_region ?_
          refine wl (y_move rfl) rfl ?_
          refine wl (y_move rfl) rfl ?_
          refine wl (y_rem rfl rfl (by decide) (show (p : Int).tmod 8 = ((p % 8 : Nat) : Int) from rfl)) rfl ?_
          refine wl (y_lss rfl rfl) rfl ?_
          refine wl_nil ?_
          refine wc_if rfl (fun hc38 => ?_) (fun hc38 => ?_)
          · try simp only [decide_eq_true_eq, decide_eq_false_iff_not, Bool.not_eq_true', Bool.not_eq_false', Bool.not_true, Bool.not_false, Bool.not_eq_eq_eq_not] at hc38
            refine wc_skip ?_
            refine wc_seq ?_
            refine wc_block ?_
            -- region 11
            refine wc_region ?_
            refine wl (y_move rfl) rfl ?_
            refine wl (y_mul rfl (bvc8 2) (bvmul8 _ _)) rfl ?_
            refine wl (y_assign rfl) rfl ?_
            refine wl_nil ?_
            -- region 10
            refine wc_region ?_
            refine wl (y_move rfl) rfl ?_
            refine wl (y_add rfl rfl (w64 (by omega) (by omega))) rfl ?_
            refine wl (y_assign rfl) rfl ?_
            refine wl_nil ?_
            exact ⟨j + 1, by omega, sub_cons rfl (sub_cons rfl (sub_cons rfl (sub_cons rfl (sub_cons rfl (sub_cons (by rw [← bitv_succ]; rfl) (sub_cons rfl sub_nil)))))), by omega, hS⟩
          · try simp only [decide_eq_true_eq, decide_eq_false_iff_not, Bool.not_eq_true', Bool.not_eq_false', Bool.not_true, Bool.not_false, Bool.not_eq_eq_eq_not] at hc38
            obtain rfl : j = p % 8 := by omega
            have hx : (flips at_ mask b.data.toList k)[p / 8]? = some ((flips at_ mask b.data.toList k).getD (p / 8) 0) := by
              rw [List.getD_eq_getElem?_getD, List.getElem?_eq_getElem (by omega)]; rfl
            have hce := (ho.holds hS).cells hx
            refine wc_exit ?_
            -- region 12
            refine wc_region ?_
            refine wl (y_move rfl) rfl ?_
            refine wl (y_move rfl) rfl ?_
            refine wl (y_quo rfl rfl (by decide) (r := ((p / 8 : Nat) : Int)) ((congrArg _ (show (p : Int).tdiv 8 = ((p / 8 : Nat) : Int) from rfl)).trans (w64 (by omega) (by omega)))) rfl ?_
            refine wl (y_move rfl) rfl ?_
            refine wl (y_move rfl) rfl ?_
            refine wl (y_quo rfl rfl (by decide) (r := ((p / 8 : Nat) : Int)) ((congrArg _ (show (p : Int).tdiv 8 = ((p / 8 : Nat) : Int) from rfl)).trans (w64 (by omega) (by omega)))) rfl ?_
            refine wl (y_ixa_sl Try.underlying33 sz_5 rfl rfl (by omega) (by omega)) rfl ?_
            refine wl (y_load pl_5 rfl hce.one) rfl ?_
            refine wl (y_move rfl) rfl ?_
            refine wl (y_xor rfl rfl (bvxor8 _ _)) rfl ?_
            refine wl (y_ixa_sl Try.underlying33 sz_5 rfl rfl (by omega) (by omega)) rfl ?_
            refine a_storeE (A := encB) (i := p / 8) sz_5 rfl rfl (x' := ⟨((flips at_ mask b.data.toList k).getD (p / 8) 0).toBitVec ^^^ bitv (p % 8)⟩) rfl ho (by omega) hS fun H' w ho hS => ?_
            replace ho : Own 5 encB (.slice (some ⟨bb, off, none⟩) (flips at_ mask b.data.toList k).length cap) (flipAt (flips at_ mask b.data.toList k) p) H' := ho
            rw [← hf] at ho
            refine wl_nil ?_
            -- region 13
            refine wc_region ?_
            refine wl (y_move rfl) rfl ?_
            refine wl (y_quo rfl rfl (by decide) (bvquo32 _ 2)) rfl ?_
            refine wl (y_assign rfl) rfl ?_
            refine wl_nil ?_
            -- region 4
            refine wc_region ?_
            refine wl (y_move rfl) rfl ?_
            refine wl (y_add rfl rfl (w64 (by omega) (by omega))) rfl ?_
            refine wl (y_assign rfl) rfl ?_
            refine wl_nil ?_
            first
            | exact ⟨(k + 1, _, _), by simp only; omega, sub_cons rfl (sub_cons rfl (sub_cons (by rw [← shr_succ]; rfl) (sub_cons rfl sub_nil))), by omega, ho, hS⟩
            | exact ⟨(k + 1, _, _), by simp only; omega, sub_cons rfl (sub_cons rfl (sub_cons (by rw [← shr_succ]; rfl) (sub_cons rfl sub_nil))), by omega, (by simp only [flips]; rw [if_neg (by rw [hbl]; omega)]; exact ho), hS⟩
            | exact ⟨(k + 1, _, _), by simp only; omega, sub_cons rfl (sub_cons rfl (sub_cons (by rw [← shr_succ]; rfl) (sub_cons rfl sub_nil))), by omega, (by simp only [flips]; rw [if_neg (fun h => hbit h.1)]; exact ho), hS⟩
        · try simp only [decide_eq_true_eq, decide_eq_false_iff_not, Bool.not_eq_true', Bool.not_eq_false', Bool.not_true, Bool.not_false, Bool.not_eq_eq_eq_not] at hc34
          refine wc_skip ?_
          -- region 13
          refine wc_region ?_
          refine wl (y_move rfl) rfl ?_
          refine wl (y_quo rfl rfl (by decide) (bvquo32 _ 2)) rfl ?_
          refine wl (y_assign rfl) rfl ?_
          refine wl_nil ?_
          -- region 4
          refine wc_region ?_
          refine wl (y_move rfl) rfl ?_
          refine wl (y_add rfl rfl (w64 (by omega) (by omega))) rfl ?_
          refine wl (y_assign rfl) rfl ?_
          refine wl_nil ?_
          first
          | exact ⟨(k + 1, _, _), by simp only; omega, sub_cons rfl (sub_cons rfl (sub_cons (by rw [← shr_succ]; rfl) (sub_cons rfl sub_nil))), by omega, ho, hS⟩
          | exact ⟨(k + 1, _, _), by simp only; omega, sub_cons rfl (sub_cons rfl (sub_cons (by rw [← shr_succ]; rfl) (sub_cons rfl sub_nil))), by omega, (by simp only [flips]; rw [if_neg (by rw [hbl]; omega)]; exact ho), hS⟩
          | exact ⟨(k + 1, _, _), by simp only; omega, sub_cons rfl (sub_cons rfl (sub_cons (by rw [← shr_succ]; rfl) (sub_cons rfl sub_nil))), by omega, (by simp only [flips]; rw [if_neg (fun h => hbit h.1)]; exact ho), hS⟩
      · try simp only [decide_eq_true_eq, decide_eq_false_iff_not, Bool.not_eq_true', Bool.not_eq_false', Bool.not_true, Bool.not_false, Bool.not_eq_eq_eq_not] at hg28
        refine wl_off rfl rfl rfl rfl ?_
        refine wl_off rfl rfl rfl rfl ?_
        refine wl_off rfl rfl rfl rfl ?_
        refine wl_off rfl rfl rfl rfl ?_
        refine wl_off rfl rfl rfl rfl ?_
        refine wl (y_pickF rfl rfl) rfl ?_
        refine wl_nil ?_
        refine wc_ifF rfl rfl ?_
        refine wc_skip ?_
        -- region 13
        refine wc_region ?_
        refine wl (y_move rfl) rfl ?_
        refine wl (y_quo rfl rfl (by decide) (bvquo32 _ 2)) rfl ?_
        refine wl (y_assign rfl) rfl ?_
        refine wl_nil ?_
        -- region 4
        refine wc_region ?_
        refine wl (y_move rfl) rfl ?_
        refine wl (y_add rfl rfl (w64 (by omega) (by omega))) rfl ?_
        refine wl (y_assign rfl) rfl ?_
        refine wl_nil ?_
        first
        | exact ⟨(k + 1, _, _), by simp only; omega, sub_cons rfl (sub_cons rfl (sub_cons (by rw [← shr_succ]; rfl) (sub_cons rfl sub_nil))), by omega, ho, hS⟩
        | exact ⟨(k + 1, _, _), by simp only; omega, sub_cons rfl (sub_cons rfl (sub_cons (by rw [← shr_succ]; rfl) (sub_cons rfl sub_nil))), by omega, (by simp only [flips]; rw [if_neg (by rw [hbl]; omega)]; exact ho), hS⟩
        | exact ⟨(k + 1, _, _), by simp only; omega, sub_cons rfl (sub_cons rfl (sub_cons (by rw [← shr_succ]; rfl) (sub_cons rfl sub_nil))), by omega, (by simp only [flips]; rw [if_neg (fun h => hbit h.1)]; exact ho), hS⟩
    · try simp only [decide_eq_true_eq, decide_eq_false_iff_not, Bool.not_eq_true', Bool.not_eq_false', Bool.not_true, Bool.not_false, Bool.not_eq_eq_eq_not] at hg24
      have hbit : ¬ mask.getLsbD k = true := by rw [hg24]; simp
      refine wl_off rfl rfl rfl rfl ?_
      refine wl_off rfl rfl rfl rfl ?_
      refine wl (y_pickF rfl rfl) rfl ?_
      refine wl (y_move rfl) rfl ?_
      refine wl_off rfl rfl rfl rfl ?_
      refine wl_off rfl rfl rfl rfl ?_
      refine wl_off rfl rfl rfl rfl ?_
      refine wl_off rfl rfl rfl rfl ?_
      refine wl_off rfl rfl rfl rfl ?_
      refine wl (y_pickF rfl rfl) rfl ?_
      refine wl_nil ?_
      refine wc_ifF rfl rfl ?_
      refine wc_skip ?_
      -- region 13
      refine wc_region ?_
      refine wl (y_move rfl) rfl ?_
      refine wl (y_quo rfl rfl (by decide) (bvquo32 _ 2)) rfl ?_
      refine wl (y_assign rfl) rfl ?_
      refine wl_nil ?_
      -- region 4
      refine wc_region ?_
      refine wl (y_move rfl) rfl ?_
      refine wl (y_add rfl rfl (w64 (by omega) (by omega))) rfl ?_
      refine wl (y_assign rfl) rfl ?_
      refine wl_nil ?_
      first
      | exact ⟨(k + 1, _, _), by simp only; omega, sub_cons rfl (sub_cons rfl (sub_cons (by rw [← shr_succ]; rfl) (sub_cons rfl sub_nil))), by omega, ho, hS⟩
      | exact ⟨(k + 1, _, _), by simp only; omega, sub_cons rfl (sub_cons rfl (sub_cons (by rw [← shr_succ]; rfl) (sub_cons rfl sub_nil))), by omega, (by simp only [flips]; rw [if_neg (by rw [hbl]; omega)]; exact ho), hS⟩
      | exact ⟨(k + 1, _, _), by simp only; omega, sub_cons rfl (sub_cons rfl (sub_cons (by rw [← shr_succ]; rfl) (sub_cons rfl sub_nil))), by omega, (by simp only [flips]; rw [if_neg (fun h => hbit h.1)]; exact ho), hS⟩
  · try simp only [decide_eq_true_eq, decide_eq_false_iff_not, Bool.not_eq_true', Bool.not_eq_false', Bool.not_true, Bool.not_false, Bool.not_eq_eq_eq_not] at hc15
    obtain rfl : k = 32 := by omega
    refine wc_exit ?_
    refine wc_seq ?_
    -- region 14
    refine wc_region ?_
    refine wl (y_move rfl) rfl ?_
    refine wl (y_b2sh Try.underlying33 Try.underlying9 Try.underlying5 rfl (ho.holds hS)) rfl ?_
    refine wl (y_assign rfl) rfl ?_
    refine wl_nil ?_
    refine wc_ret ?_
    refine wret (vs := [_]) (.tmp rfl .nil) ?_
    exact ⟨rfl, hS.drop⟩
end Go.Proofs.Ytipffnogkijmnaa.Crc
