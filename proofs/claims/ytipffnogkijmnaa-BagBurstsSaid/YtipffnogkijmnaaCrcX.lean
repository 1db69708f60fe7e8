import Derived.Test.YtipffnogkijmnaaCrcQ
import Derived.Test.YtipffnogkijmnaaCrcL
set_option linter.unusedVariables false
set_option linter.unusedSimpArgs false
namespace Go.Proofs.Ytipffnogkijmnaa.Crc
open Go Go.Proofs Go.Proofs.Ytipffnogkijmnaa.Eng

theorem CrcBurst_c {M : Mem} {w : World} {Ls : List Chunk} (b : ByteArray) (at_ : Int) (mask : BitVec 32) (hb : b.size ≤ 9223372036854775807) (ha : -9223372036854775808 ≤ at_ ∧ at_ ≤ 9223372036854775807) (hS : St M w Ls) :
    CallsR Try.prog 6 [.string b, .int .i64 at_, .int .u32 (mask.toNat : Int)].toArray w fun v w' => v = .bool true ∧ St M w' Ls := by
  refine calls_of (c := _) (rs := _) (n := 47) Try.func6 rfl rfl rfl rfl rfl ?_
  refine wc_seq ?_
  -- region 0
  refine wc_region ?_
  refine wl (y_assign rfl) rfl ?_
  refine wl_nil ?_
  refine wc_seq ?_
  refine wc_seq ?_
  -- region 1
  refine wc_region ?_
  refine wl_call .nil (awake_c hS) rfl ?_
  rintro _ w ⟨rfl, hS⟩
  refine wl (y_not rfl) rfl ?_
  refine wl (y_move rfl) rfl ?_
  refine wl_on rfl rfl ?_
  refine wl (y_move rfl) rfl ?_
  refine wl_on rfl rfl ?_
  refine wl (y_len_s Try.underlying9 rfl) rfl ?_
  refine wl_on rfl rfl ?_
  refine wl (y_gtr rfl rfl) rfl ?_
  refine wl (y_pickF rfl rfl) rfl ?_
  refine wl (y_move rfl) rfl ?_
  refine wl_cases (s := 18) rfl (fun hg18 => ?_) (fun hg18 => ?_)
  · try simp only [decide_eq_true_eq, decide_eq_false_iff_not, Bool.not_eq_true', Bool.not_eq_false', Bool.not_true, Bool.not_false, Bool.not_eq_eq_eq_not] at hg18
    refine wl_off rfl rfl rfl rfl ?_
    refine wl_off rfl rfl rfl rfl ?_
    refine wl (y_pickT rfl rfl) rfl ?_
    refine wl (y_move rfl) rfl ?_
    refine wl_off rfl rfl rfl rfl ?_
    refine wl_off rfl rfl rfl rfl ?_
    refine wl_off rfl rfl rfl rfl ?_
    refine wl_off rfl rfl rfl rfl ?_
    refine wl_off rfl rfl rfl rfl ?_
    refine wl_off rfl rfl rfl rfl ?_
    refine wl (y_pickT rfl rfl) rfl ?_
    refine wl_nil ?_
    refine wc_ifT rfl rfl ?_
    refine wc_seq ?_
    -- region 2
    refine wc_region ?_
    refine wl_call .nil (awake_c hS) rfl ?_
    rintro _ w ⟨rfl, hS⟩
    refine wl (y_assign rfl) rfl ?_
    refine wl_nil ?_
    refine wc_ret ?_
    refine wret (vs := [_]) (.tmp rfl .nil) ?_
    exact ⟨rfl, hS⟩
  · try simp only [decide_eq_true_eq, decide_eq_false_iff_not, Bool.not_eq_true', Bool.not_eq_false', Bool.not_true, Bool.not_false, Bool.not_eq_eq_eq_not] at hg18
    refine wl_on rfl rfl ?_
    refine wl (y_move rfl) rfl ?_
    refine wl_on rfl rfl ?_
    refine wl (y_lss rfl rfl) rfl ?_
    refine wl (y_pickF rfl rfl) rfl ?_
    refine wl (y_move rfl) rfl ?_
    refine wl_cases (s := 22) rfl (fun hg22 => ?_) (fun hg22 => ?_)
    · try simp only [decide_eq_true_eq, decide_eq_false_iff_not, Bool.not_eq_true', Bool.not_eq_false', Bool.not_true, Bool.not_false, Bool.not_eq_eq_eq_not] at hg22
      refine wl_off rfl rfl rfl rfl ?_
      refine wl_off rfl rfl rfl rfl ?_
      refine wl_off rfl rfl rfl rfl ?_
      refine wl_off rfl rfl rfl rfl ?_
      refine wl_off rfl rfl rfl rfl ?_
      refine wl_off rfl rfl rfl rfl ?_
      refine wl (y_pickT rfl rfl) rfl ?_
      refine wl_nil ?_
      refine wc_ifT rfl rfl ?_
      refine wc_seq ?_
      -- region 2
      refine wc_region ?_
      refine wl_call .nil (awake_c hS) rfl ?_
      rintro _ w ⟨rfl, hS⟩
      refine wl (y_assign rfl) rfl ?_
      refine wl_nil ?_
      refine wc_ret ?_
      refine wret (vs := [_]) (.tmp rfl .nil) ?_
      exact ⟨rfl, hS⟩
    · try simp only [decide_eq_true_eq, decide_eq_false_iff_not, Bool.not_eq_true', Bool.not_eq_false', Bool.not_true, Bool.not_false, Bool.not_eq_eq_eq_not] at hg22
      refine wl_on rfl rfl ?_
      refine wl (y_move rfl) rfl ?_
      refine wl_on rfl rfl ?_
      refine wl (y_move rfl) rfl ?_
      refine wl_on rfl rfl ?_
      refine wl (y_len_s Try.underlying9 rfl) rfl ?_
      refine wl_on rfl rfl ?_
      refine wl (y_mul rfl rfl (w64 (by omega) (by omega))) rfl ?_
      refine wl_on rfl rfl ?_
      refine wl (y_add rfl rfl (w64 (by omega) (by omega))) rfl ?_
      refine wl_on rfl rfl ?_
      refine wl (y_gtr rfl rfl) rfl ?_
      refine wl (y_pickF rfl rfl) rfl ?_
      refine wl_nil ?_
      refine wc_if rfl (fun hc29 => ?_) (fun hc29 => ?_)
      · try simp only [decide_eq_true_eq, decide_eq_false_iff_not, Bool.not_eq_true', Bool.not_eq_false', Bool.not_true, Bool.not_false, Bool.not_eq_eq_eq_not] at hc29
        refine wc_seq ?_
        -- region 2
        refine wc_region ?_
        refine wl_call .nil (awake_c hS) rfl ?_
        rintro _ w ⟨rfl, hS⟩
        refine wl (y_assign rfl) rfl ?_
        refine wl_nil ?_
        refine wc_ret ?_
        refine wret (vs := [_]) (.tmp rfl .nil) ?_
        exact ⟨rfl, hS⟩
      · try simp only [decide_eq_true_eq, decide_eq_false_iff_not, Bool.not_eq_true', Bool.not_eq_false', Bool.not_true, Bool.not_false, Bool.not_eq_eq_eq_not] at hc29
        refine wc_skip ?_
        refine wc_seq ?_
        -- region 3
        refine wc_region ?_
        refine wl (y_move rfl) rfl ?_
        refine wl_call (.cons rfl .nil) (seal_c b (by omega) hS) rfl ?_
        rintro _ w ⟨rfl, hS⟩
        refine wl (y_assign rfl) rfl ?_
        refine wl_nil ?_
        refine wc_seq ?_
        -- region 4
        refine wc_region ?_
        refine wl (y_move rfl) rfl ?_
        refine wl (y_move rfl) rfl ?_
        refine wl (y_move rfl) rfl ?_
        refine wl_call (.cons rfl (.cons rfl (.cons rfl .nil))) (flip_c _ at_ mask (by rw [seal_size]; omega) (by omega) (by omega) hS) rfl ?_
        rintro _ w ⟨rfl, hS⟩
        have hfl : (⟨(flips at_ mask (seal_ b).data.toList 32).toArray⟩ : ByteArray).size = b.size + 4 := by
          rw [← seal_size]; simp only [ByteArray.size, List.size_toArray, flips_length]; simp
        have hbf := burst_found (seal_ b) at_ mask (by omega) (by rw [seal_size]; omega) (by rw [open_seal]; rfl)
        refine wl (y_assign rfl) rfl ?_
        refine wl_nil ?_
        refine wc_seq ?_
        -- region 5
        refine wc_region ?_
        refine wl (y_move rfl) rfl ?_
        refine wl_call (.cons rfl .nil) (open_c _ (by rw [hfl]; omega) hS) rfl ?_
        rintro _ w ⟨rfl, hS⟩
        rw [openV_eq, hbf]
        refine wl (y_move rfl) rfl ?_
        refine wl (y_extract (vs := [_, _]) rfl rfl) rfl ?_
        refine wl (y_extract (vs := [_, _]) rfl rfl) rfl ?_
        refine wl (y_assign rfl) rfl ?_
        refine wl (y_assign rfl) rfl ?_
        refine wl_nil ?_
        refine wc_seq ?_
        -- region 6
        refine wc_region ?_
        refine wl (y_move rfl) rfl ?_
        refine wl (y_move rfl) rfl ?_
        refine wl (y_move rfl) rfl ?_
        refine wl (y_seql rfl rfl) rfl ?_
        refine wl (y_beqT Try.underlying4 rfl rfl) rfl ?_
        refine wl (y_assign rfl) rfl ?_
        refine wl_nil ?_
        refine wc_ret ?_
        refine wret (vs := [_]) (.tmp rfl .nil) ?_
        exact ⟨rfl, hS⟩

/-! three texts put together -/
def xors (a b c : List UInt8) : Nat → List UInt8
  | 0 => a
  | k + 1 => (xors a b c k).set k ⟨(a.getD k 0).toBitVec ^^^ ((b.getD k 0).toBitVec ^^^ (c.getD k 0).toBitVec)⟩
theorem xors_length (a b c : List UInt8) : ∀ k, (xors a b c k).length = a.length
  | 0 => rfl
  | k + 1 => by simp only [xors, List.length_set, xors_length a b c k]
theorem xors_get (a b c : List UInt8) : ∀ (k i : Nat), i < a.length → (xors a b c k).getD i 0 = if i < k then ⟨(a.getD i 0).toBitVec ^^^ ((b.getD i 0).toBitVec ^^^ (c.getD i 0).toBitVec)⟩ else a.getD i 0
  | 0, i, h => by simp [xors]
  | k + 1, i, h => by
    simp only [xors]
    rw [List.getD_eq_getElem?_getD, List.getElem?_set]
    by_cases hk : k = i
    · subst hk; rw [if_pos rfl, if_pos (by rw [xors_length]; exact h), if_pos (by omega)]; rfl
    · rw [if_neg hk, ← List.getD_eq_getElem?_getD, xors_get a b c k i h]
      by_cases h1 : i < k
      · rw [if_pos h1, if_pos (by omega)]
      · rw [if_neg h1, if_neg (by omega)]
theorem xors_sum (a b c : ByteArray) (hb : b.size = a.size) (hc : c.size = a.size) :
    (sum a ^^^ sum b) ^^^ sum c = sum ⟨(xors a.data.toList b.data.toList c.data.toList a.size).toArray⟩ := by
  have ha' : a.data.toList.length = a.size := by simp
  have hb' : b.data.toList.length = a.size := by simp [← hb]
  have hc' : c.data.toList.length = a.size := by simp [← hc]
  have key : crun (BitVec.allOnes 32) (xors a.data.toList b.data.toList c.data.toList a.size) = (crun (BitVec.allOnes 32) a.data.toList ^^^ crun (BitVec.allOnes 32) b.data.toList) ^^^ crun (BitVec.allOnes 32) c.data.toList := by
    rw [crun_bits, crun_bits, crun_bits, crun_bits, xors_length, ha', hb', hc', ← brun_xor, ← brun_xor, BitVec.xor_self, BitVec.zero_xor]
    refine brun_congr _ _ fun i hi => ?_
    unfold bitAt
    rw [xors_get _ _ _ _ _ (by omega), if_pos (by omega)]
    simp only [BitVec.getLsbD_xor, Bool.xor_assoc]
  unfold sum more
  rw [BitVec.not_zero, show (⟨(xors a.data.toList b.data.toList c.data.toList a.size).toArray⟩ : ByteArray).data.toList = xors a.data.toList b.data.toList c.data.toList a.size from rfl, key]
  apply BitVec.eq_of_getLsbD_eq
  intro i hi
  simp only [BitVec.getLsbD_xor, BitVec.getLsbD_not, hi, decide_true, Bool.true_and]
  cases (crun (BitVec.allOnes 32) a.data.toList).getLsbD i <;> cases (crun (BitVec.allOnes 32) b.data.toList).getLsbD i <;> cases (crun (BitVec.allOnes 32) c.data.toList).getLsbD i <;> rfl
theorem bget' (b : ByteArray) (k : Nat) (h : k < b.size) : b[(k : Int).toNat]? = some (b.data.toList.getD k 0) := by
  have h' : k < b.data.toList.length := by simpa using h
  rw [List.getD_eq_getElem?_getD, List.getElem?_eq_getElem h']
  rw [bget b k h]; rfl

theorem CrcXor_c {M : Mem} {w : World} {Ls : List Chunk} (a b c : ByteArray) (ha : a.size ≤ 9223372036854775807) (hb : b.size ≤ 9223372036854775807) (hc : c.size ≤ 9223372036854775807) (hS : St M w Ls) :
    CallsR Try.prog 7 [.string a, .string b, .string c].toArray w fun v w' => v = .bool true ∧ St M w' Ls := by
  have hal : a.data.toList.length = a.size := by simp
  refine calls_of (c := _) (rs := _) (n := 64) Try.func7 rfl rfl rfl rfl rfl ?_
  refine wc_seq ?_
  -- region 0
  refine wc_region ?_
  refine wl (y_assign rfl) rfl ?_
  refine wl_nil ?_
  refine wc_seq ?_
  refine wc_seq ?_
  -- region 1
  refine wc_region ?_
  refine wl_call .nil (awake_c hS) rfl ?_
  rintro _ w ⟨rfl, hS⟩
  refine wl (y_not rfl) rfl ?_
  refine wl (y_move rfl) rfl ?_
  refine wl_on rfl rfl ?_
  refine wl (y_move rfl) rfl ?_
  refine wl_on rfl rfl ?_
  refine wl (y_len_s Try.underlying9 rfl) rfl ?_
  refine wl_on rfl rfl ?_
  refine wl (y_gtr rfl rfl) rfl ?_
  refine wl (y_pickF rfl rfl) rfl ?_
  refine wl (y_move rfl) rfl ?_
  refine wl_cases (s := 16) rfl (fun hg16 => ?_) (fun hg16 => ?_)
  · try simp only [decide_eq_true_eq, decide_eq_false_iff_not, Bool.not_eq_true', Bool.not_eq_false', Bool.not_true, Bool.not_false, Bool.not_eq_eq_eq_not] at hg16
    refine wl_off rfl rfl rfl rfl ?_
    refine wl_off rfl rfl rfl rfl ?_
    refine wl_off rfl rfl rfl rfl ?_
    refine wl_off rfl rfl rfl rfl ?_
    refine wl_off rfl rfl rfl rfl ?_
    refine wl (y_pickT rfl rfl) rfl ?_
    refine wl (y_move rfl) rfl ?_
    refine wl_off rfl rfl rfl rfl ?_
    refine wl_off rfl rfl rfl rfl ?_
    refine wl_off rfl rfl rfl rfl ?_
    refine wl_off rfl rfl rfl rfl ?_
    refine wl_off rfl rfl rfl rfl ?_
    refine wl (y_pickT rfl rfl) rfl ?_
    refine wl_nil ?_
    refine wc_ifT rfl rfl ?_
    refine wc_seq ?_
    -- region 2
    refine wc_region ?_
    refine wl_call .nil (awake_c hS) rfl ?_
    rintro _ w ⟨rfl, hS⟩
    refine wl (y_assign rfl) rfl ?_
    refine wl_nil ?_
    refine wc_ret ?_
    refine wret (vs := [_]) (.tmp rfl .nil) ?_
    first | exact ⟨rfl, hS⟩ | exact ⟨rfl, hS.drop⟩
  · try simp only [decide_eq_true_eq, decide_eq_false_iff_not, Bool.not_eq_true', Bool.not_eq_false', Bool.not_true, Bool.not_false, Bool.not_eq_eq_eq_not] at hg16
    refine wl_on rfl rfl ?_
    refine wl (y_move rfl) rfl ?_
    refine wl_on rfl rfl ?_
    refine wl (y_len_s Try.underlying9 rfl) rfl ?_
    refine wl_on rfl rfl ?_
    refine wl (y_move rfl) rfl ?_
    refine wl_on rfl rfl ?_
    refine wl (y_len_s Try.underlying9 rfl) rfl ?_
    refine wl_on rfl rfl ?_
    refine wl (y_neq rfl rfl) rfl ?_
    refine wl (y_pickF rfl rfl) rfl ?_
    refine wl (y_move rfl) rfl ?_
    refine wl_cases (s := 23) rfl (fun hg23 => ?_) (fun hg23 => ?_)
    · try simp only [decide_eq_true_eq, decide_eq_false_iff_not, Bool.not_eq_true', Bool.not_eq_false', Bool.not_true, Bool.not_false, Bool.not_eq_eq_eq_not] at hg23
      refine wl_off rfl rfl rfl rfl ?_
      refine wl_off rfl rfl rfl rfl ?_
      refine wl_off rfl rfl rfl rfl ?_
      refine wl_off rfl rfl rfl rfl ?_
      refine wl_off rfl rfl rfl rfl ?_
      refine wl (y_pickT rfl rfl) rfl ?_
      refine wl_nil ?_
      refine wc_ifT rfl rfl ?_
      refine wc_seq ?_
      -- region 2
      refine wc_region ?_
      refine wl_call .nil (awake_c hS) rfl ?_
      rintro _ w ⟨rfl, hS⟩
      refine wl (y_assign rfl) rfl ?_
      refine wl_nil ?_
      refine wc_ret ?_
      refine wret (vs := [_]) (.tmp rfl .nil) ?_
      first | exact ⟨rfl, hS⟩ | exact ⟨rfl, hS.drop⟩
    · try simp only [decide_eq_true_eq, decide_eq_false_iff_not, Bool.not_eq_true', Bool.not_eq_false', Bool.not_true, Bool.not_false, Bool.not_eq_eq_eq_not] at hg23
      refine wl_on rfl rfl ?_
      refine wl (y_move rfl) rfl ?_
      refine wl_on rfl rfl ?_
      refine wl (y_len_s Try.underlying9 rfl) rfl ?_
      refine wl_on rfl rfl ?_
      refine wl (y_move rfl) rfl ?_
      refine wl_on rfl rfl ?_
      refine wl (y_len_s Try.underlying9 rfl) rfl ?_
      refine wl_on rfl rfl ?_
      refine wl (y_neq rfl rfl) rfl ?_
      refine wl (y_pickF rfl rfl) rfl ?_
      refine wl_nil ?_
      refine wc_if rfl (fun hc29 => ?_) (fun hc29 => ?_)
      · try simp only [decide_eq_true_eq, decide_eq_false_iff_not, Bool.not_eq_true', Bool.not_eq_false', Bool.not_true, Bool.not_false, Bool.not_eq_eq_eq_not] at hc29
        refine wc_seq ?_
        -- region 2
        refine wc_region ?_
        refine wl_call .nil (awake_c hS) rfl ?_
        rintro _ w ⟨rfl, hS⟩
        refine wl (y_assign rfl) rfl ?_
        refine wl_nil ?_
        refine wc_ret ?_
        refine wret (vs := [_]) (.tmp rfl .nil) ?_
        first | exact ⟨rfl, hS⟩ | exact ⟨rfl, hS.drop⟩
      · try simp only [decide_eq_true_eq, decide_eq_false_iff_not, Bool.not_eq_true', Bool.not_eq_false', Bool.not_true, Bool.not_false, Bool.not_eq_eq_eq_not] at hc29
        refine wc_skip ?_
        refine wc_seq ?_
        -- region 3
        refine wc_region ?_
        refine wl (y_move rfl) rfl ?_
        refine a_s2b Try.underlying9 Try.underlying33 Try.underlying5 rfl hS rfl fun s H w ho hS => ?_
        obtain ⟨sa, sc, rfl⟩ := ho.slice
        refine wl (y_assign rfl) rfl ?_
        refine wl_nil ?_
        refine wc_seq ?_
        refine wc_seq ?_
        -- region 4
        refine wc_region ?_
        refine wl (y_move rfl) rfl ?_
        refine wl (y_len_sl Try.underlying33 rfl) rfl ?_
        refine wl (y_move rfl) rfl ?_
        refine wl_nil ?_
        refine wc_block ?_
        refine wc_loop (α := Nat × Chunk) (fun ⟨k, H⟩ => [(0, .string a), (1, .string b), (2, .string c), (7, .slice sa a.data.toList.length sc), (34, .int .i64 a.data.toList.length), (35, .int .i64 k)]) (fun ⟨k, H⟩ w => k ≤ a.size ∧ Own 5 encB (.slice sa a.data.toList.length sc) (xors a.data.toList b.data.toList c.data.toList k) H ∧ St M w (H :: Ls)) (fun ⟨k, _⟩ => a.size - k) (0, H) (sub_cons rfl (sub_cons rfl (sub_cons rfl (sub_cons rfl (sub_cons rfl (sub_cons rfl sub_nil)))))) ⟨by omega, ho, hS⟩ ?_
        rintro ⟨k, H⟩ w ⟨hk, ho, hS⟩
        have hlen := xors_length a.data.toList b.data.toList c.data.toList k
        rw [hal] at hlen
        refine wc_seq ?_
        -- region 5
        refine wc_region ?_
        refine wl (y_lss rfl rfl) rfl ?_
        refine wl_nil ?_
        refine wc_seq ?_
        refine wc_if rfl (fun hc36 => ?_) (fun hc36 => ?_)
        · try simp only [decide_eq_true_eq, decide_eq_false_iff_not, Bool.not_eq_true', Bool.not_eq_false', Bool.not_true, Bool.not_false, Bool.not_eq_eq_eq_not] at hc36
          refine wc_skip ?_
          refine wc_seq ?_
          refine wc_block ?_
          refine wc_seq ?_
          -- region 6
          refine wc_region ?_
          refine wl (y_move rfl) rfl ?_
          refine wl (y_assign rfl) rfl ?_
          refine wl_nil ?_
          have hk' : k < a.size := by omega
          have hbz : b.size = a.size := by omega
          have hcz : c.size = a.size := by omega
          obtain ⟨bb, off, cap, hs⟩ := ho.expose (by rw [hlen]; omega)
          simp only [Value.slice.injEq] at hs
          obtain ⟨rfl, _, rfl⟩ := hs
          have hx : (xors a.data.toList b.data.toList c.data.toList k)[k]? = some (a.data.toList.getD k 0) := by
            have := xors_get a.data.toList b.data.toList c.data.toList k k (by omega)
            rw [if_neg (by omega), List.getD_eq_getElem?_getD, List.getElem?_eq_getElem (by rw [xors_length]; omega)] at this
            rw [List.getElem?_eq_getElem (by rw [xors_length]; omega)]
            exact congrArg some this
          have hce := (ho.holds hS).cells hx
          have hidb := bget' b k (by omega)
          have hidc := bget' c k (by omega)
          -- region 7
          refine wc_draw (l0 := #[false, false, false, false, false, false, false, false, false, false, false, false, false, false]) (fun w => CellsAt w bb (off + k * 1) (encB.f (a.data.toList.getD k 0))) [13] wide_ rfl rfl fun w hw => ?_
          replace hS := hS.same hw; clear hw
          have hce := (ho.holds hS).cells hx
          refine dr_pure (i := 0) #[true, false, false, false, false, false, false, false, false, false, false, false, false, false] rfl rfl (by kernel_rfl) (fun w => y_move rfl) ?_
          refine dr_pure (i := 1) #[true, true, false, false, false, false, false, false, false, false, false, false, false, false] rfl rfl (by kernel_rfl) (fun w => y_move rfl) ?_
          refine dr_pure (i := 2) #[true, true, true, false, false, false, false, false, false, false, false, false, false, false] rfl rfl (by kernel_rfl) (fun w => y_ixa_sl Try.underlying33 sz_5 rfl rfl (by omega) (by omega)) ?_
          refine dr_pure (i := 4) #[true, true, true, false, true, false, false, false, false, false, false, false, false, false] rfl rfl (by kernel_rfl) (fun w => y_move rfl) ?_
          refine dr_pure (i := 5) #[true, true, true, false, true, true, false, false, false, false, false, false, false, false] rfl rfl (by kernel_rfl) (fun w => y_move rfl) ?_
          refine dr_pure (i := 6) #[true, true, true, false, true, true, true, false, false, false, false, false, false, false] rfl rfl (by kernel_rfl) (fun w => y_idx_s Try.underlying9 rfl rfl (by omega) hidb) ?_
          refine dr_pure (i := 7) #[true, true, true, false, true, true, true, true, false, false, false, false, false, false] rfl rfl (by kernel_rfl) (fun w => y_move rfl) ?_
          refine dr_pure (i := 8) #[true, true, true, false, true, true, true, true, true, false, false, false, false, false] rfl rfl (by kernel_rfl) (fun w => y_move rfl) ?_
          refine dr_pure (i := 9) #[true, true, true, false, true, true, true, true, true, true, false, false, false, false] rfl rfl (by kernel_rfl) (fun w => y_idx_s Try.underlying9 rfl rfl (by omega) hidc) ?_
          refine dr_pure (i := 10) #[true, true, true, false, true, true, true, true, true, true, true, false, false, false] rfl rfl (by kernel_rfl) (fun w => y_xor rfl rfl (bvxor8 _ _)) ?_
          refine dr_read (i := 3) #[true, true, true, true, true, true, true, true, true, true, true, false, false, false] rfl rfl (by kernel_rfl) hce (fun w hS => y_load pl_5 rfl hS.one) ?_
          refine dr_pure (i := 11) #[true, true, true, true, true, true, true, true, true, true, true, true, false, false] rfl rfl (by kernel_rfl) (fun w => y_xor rfl rfl (bvxor8 _ _)) ?_
          refine dr_pure (i := 12) #[true, true, true, true, true, true, true, true, true, true, true, true, true, false] rfl rfl (by kernel_rfl) (fun w => y_ixa_sl Try.underlying33 sz_5 rfl rfl (by omega) (by omega)) ?_
          refine dr_do (i := 13) #[true, true, true, true, true, true, true, true, true, true, true, true, true, true] rfl (by kernel_rfl) ?_
          refine a_storeE (A := encB) (i := k) sz_5 rfl rfl (x' := ⟨(a.data.toList.getD k 0).toBitVec ^^^ ((b.data.toList.getD k 0).toBitVec ^^^ (c.data.toList.getD k 0).toBitVec)⟩) rfl ho (by omega) hS fun H' w ho hS => ?_
          refine wl_nil ⟨fun h => absurd (by decide) h, ?_⟩
          refine dr_done (by kernel_rfl) ?_
          -- region 8
          refine wc_region ?_
          refine wl (y_add rfl rfl (w64 (by omega) (by omega))) rfl ?_
          refine wl (y_move rfl) rfl ?_
          refine wl_nil ?_
          exact ⟨(k + 1, H'), by simp only; omega, sub_cons rfl (sub_cons rfl (sub_cons rfl (sub_cons rfl (sub_cons rfl (sub_cons rfl sub_nil))))), by omega, ho, hS⟩
        · try simp only [decide_eq_true_eq, decide_eq_false_iff_not, Bool.not_eq_true', Bool.not_eq_false', Bool.not_true, Bool.not_false, Bool.not_eq_eq_eq_not] at hc36
          obtain rfl : k = a.size := by omega
          have hxs := xors_sum a b c (by omega) (by omega)
          refine wc_exit ?_
          refine wc_seq ?_
          -- region 9
          refine wc_draw (l0 := #[false, false, false, false, false, false, false, false, false, false, false, false, false]) (fun w => St M w (H :: Ls)) [] wide_ rfl rfl fun w hw => ?_
          replace hS := hS.same hw; clear hw
          refine dr_pure (i := 0) #[true, false, false, false, false, false, false, false, false, false, false, false, false] rfl rfl (by kernel_rfl) (fun w => y_move rfl) ?_
          refine dr_pure (i := 2) #[true, false, true, false, false, false, false, false, false, false, false, false, false] rfl rfl (by kernel_rfl) (fun w => y_move rfl) ?_
          refine dr_pure (i := 5) #[true, false, true, false, false, true, false, false, false, false, false, false, false] rfl rfl (by kernel_rfl) (fun w => y_move rfl) ?_
          refine dr_pure (i := 8) #[true, false, true, false, false, true, false, false, true, false, false, false, false] rfl rfl (by kernel_rfl) (fun w => y_move rfl) ?_
          refine dr_read (i := 9) #[true, false, true, false, false, true, false, false, true, true, false, false, false] rfl rfl (by kernel_rfl) hS (fun w hS => y_b2sh Try.underlying33 Try.underlying9 Try.underlying5 rfl (ho.holds hS)) ?_
          refine dr_do (i := 1) #[true, true, true, false, false, true, false, false, true, true, false, false, false] rfl (by kernel_rfl) ?_
          refine wl_call (.cons rfl .nil) (sum_c a (by omega) hS) rfl ?_
          rintro _ w ⟨rfl, hS⟩
          refine wl_nil ⟨fun _ _ => hS, ?_⟩
          refine dr_do (i := 3) #[true, true, true, true, false, true, false, false, true, true, false, false, false] rfl (by kernel_rfl) ?_
          refine wl_call (.cons rfl .nil) (sum_c b (by omega) hS) rfl ?_
          rintro _ w ⟨rfl, hS⟩
          refine wl_nil ⟨fun _ _ => hS, ?_⟩
          refine dr_pure (i := 4) #[true, true, true, true, true, true, false, false, true, true, false, false, false] rfl rfl (by kernel_rfl) (fun w => y_xor rfl rfl (bvxor32 _ _)) ?_
          refine dr_do (i := 6) #[true, true, true, true, true, true, true, false, true, true, false, false, false] rfl (by kernel_rfl) ?_
          refine wl_call (.cons rfl .nil) (sum_c c (by omega) hS) rfl ?_
          rintro _ w ⟨rfl, hS⟩
          refine wl_nil ⟨fun _ _ => hS, ?_⟩
          refine dr_pure (i := 7) #[true, true, true, true, true, true, true, true, true, true, false, false, false] rfl rfl (by kernel_rfl) (fun w => y_xor rfl rfl (bvxor32 _ _)) ?_
          refine dr_do (i := 10) #[true, true, true, true, true, true, true, true, true, true, true, false, false] rfl (by kernel_rfl) ?_
          refine wl_call (.cons rfl .nil) (sum_c _ (by simp only [ByteArray.size, List.size_toArray, xors_length]; rw [hal]; omega) hS) rfl ?_
          rintro _ w ⟨rfl, hS⟩
          rw [← hxs]
          refine wl_nil ⟨fun _ _ => hS, ?_⟩
          refine dr_pure (i := 11) #[true, true, true, true, true, true, true, true, true, true, true, true, false] rfl rfl (by kernel_rfl) (fun w => (y_eql rfl rfl).val (u := .bool true) (congrArg Value.bool (decT rfl))) ?_
          refine dr_pure (i := 12) #[true, true, true, true, true, true, true, true, true, true, true, true, true] rfl rfl (by kernel_rfl) (fun w => y_assign rfl) ?_
          refine dr_done (by kernel_rfl) ?_
          refine wc_ret ?_
          refine wret (vs := [_]) (.tmp rfl .nil) ?_
          first | exact ⟨rfl, hS⟩ | exact ⟨rfl, hS.drop⟩
end Go.Proofs.Ytipffnogkijmnaa.Crc
