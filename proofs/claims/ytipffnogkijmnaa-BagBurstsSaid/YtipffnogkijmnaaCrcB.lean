import Derived.Test.YtipffnogkijmnaaCrcA
set_option linter.unusedVariables false
set_option linter.unusedSimpArgs false
namespace Go.Proofs.Ytipffnogkijmnaa.Crc
open Go Go.Proofs Go.Proofs.Ytipffnogkijmnaa.Eng

/-! the reference's functions -/
def rstep (x bit : BitVec 32) : BitVec 32 := if x % 2#32 = bit then x / 2#32 else (x / 2#32) ^^^ 2197175160#32
def rbits : Nat → BitVec 32 → BitVec 32 → BitVec 32
  | 0, x, _ => x
  | k + 1, x, c => rstep (rbits k x c) ((c >>> k) % 2#32)
def rrun (x : BitVec 32) (l : List UInt8) : BitVec 32 := l.foldl (fun x c => rbits 8 x (c.toBitVec.setWidth 32)) x
theorem rrun_append (x : BitVec 32) (l m : List UInt8) : rrun x (l ++ m) = rrun (rrun x l) m := by simp [rrun]
theorem shr_succ (c : BitVec 32) (k : Nat) : (c >>> k) / 2#32 = c >>> (k + 1) := by
  apply BitVec.eq_of_toNat_eq
  simp [BitVec.toNat_udiv, BitVec.toNat_ushiftRight, Nat.shiftRight_eq_div_pow, Nat.div_div_eq_div_mul, Nat.pow_succ]

theorem rstep_c {M : Mem} {w : World} {Ls : List Chunk} (x bit : BitVec 32) (hS : St M w Ls) :
    CallsR Try.prog 30 [.int .u32 (x.toNat : Int), .int .u32 (bit.toNat : Int)].toArray w fun v w' => v = .int .u32 ((rstep x bit).toNat : Int) ∧ St M w' Ls := by
  refine calls_of (c := _) (rs := _) (n := 16) Try.func30 rfl rfl rfl rfl rfl ?_
  refine wc_seq ?_
  -- region 0
  refine wc_region ?_
  refine wl (y_assign rfl) rfl ?_
  refine wl_nil ?_
  refine wc_seq ?_
  -- region 1
  refine wc_region ?_
  refine wl (y_move rfl) rfl ?_
  refine wl (y_rem rfl rfl (by decide) (bvrem32 _ 2)) rfl ?_
  refine wl (y_assign rfl) rfl ?_
  refine wl_nil ?_
  refine wc_seq ?_
  -- region 2
  refine wc_region ?_
  refine wl (y_move rfl) rfl ?_
  refine wl (y_quo rfl rfl (by decide) (bvquo32 _ 2)) rfl ?_
  refine wl (y_assign rfl) rfl ?_
  refine wl_nil ?_
  refine wc_seq ?_
  refine wc_seq ?_
  -- region 3
  refine wc_region ?_
  refine wl (y_move rfl) rfl ?_
  refine wl (y_move rfl) rfl ?_
  refine wl (y_neq rfl rfl) rfl ?_
  simp only [bv_eq]
  refine wl_nil ?_
  refine wc_if rfl (fun hc12 => ?_) (fun hc12 => ?_)
  · try simp only [decide_eq_true_eq, decide_eq_false_iff_not, Bool.not_eq_true', Bool.not_eq_false', Bool.not_true, Bool.not_false, Bool.not_eq_eq_eq_not] at hc12
    -- region 4
    refine wc_region ?_
    refine wl (y_move rfl) rfl ?_
    refine wl (y_xor rfl (bvc32 2197175160) (bvxor32 _ _)) rfl ?_
    refine wl (y_assign rfl) rfl ?_
    refine wl_nil ?_
    refine wc_seq ?_
    -- region 5
    refine wc_region ?_
    refine wl (y_move rfl) rfl ?_
    refine wl (y_assign rfl) rfl ?_
    refine wl_nil ?_
    refine wc_ret ?_
    refine wret (vs := [_]) (.tmp rfl .nil) ?_
    refine ⟨?_, hS⟩
    unfold rstep
    first | (rw [if_neg (by simpa using hc12)]; rfl) | (rw [if_pos (by simpa using hc12)]; rfl)
  · try simp only [decide_eq_true_eq, decide_eq_false_iff_not, Bool.not_eq_true', Bool.not_eq_false', Bool.not_true, Bool.not_false, Bool.not_eq_eq_eq_not] at hc12
    refine wc_skip ?_
    refine wc_seq ?_
    -- region 5
    refine wc_region ?_
    refine wl (y_move rfl) rfl ?_
    refine wl (y_assign rfl) rfl ?_
    refine wl_nil ?_
    refine wc_ret ?_
    refine wret (vs := [_]) (.tmp rfl .nil) ?_
    refine ⟨?_, hS⟩
    unfold rstep
    first | (rw [if_neg (by simpa using hc12)]; rfl) | (rw [if_pos (by simpa using hc12)]; rfl)

theorem rrun_c {M : Mem} {w : World} {Ls : List Chunk} (x : BitVec 32) (b : ByteArray) (hb : b.size ≤ 140737488351232) (hS : St M w Ls) :
    CallsR Try.prog 23 [.int .u32 (x.toNat : Int), .string b].toArray w fun v w' => v = .int .u32 ((rrun x b.data.toList).toNat : Int) ∧ St M w' Ls := by
  refine calls_of (c := _) (rs := _) (n := 29) Try.func23 rfl rfl rfl rfl rfl ?_
  refine wc_seq ?_
  -- region 0
  refine wc_region ?_
  refine wl (y_assign rfl) rfl ?_
  refine wl_nil ?_
  refine wc_seq ?_
  refine wc_seq ?_
  -- region 1
  refine wc_region ?_
  refine wl (y_assign rfl) rfl ?_
  refine wl_nil ?_
  refine wc_block ?_
  refine wc_loop (α := Nat) (fun k => [(1, .string b), (5, .int .i64 k), (0, .int .u32 ((rrun x (b.data.toList.take k)).toNat : Int))]) (fun k w => k ≤ b.size ∧ St M w Ls) (fun k => b.size - k) 0 (sub_cons rfl (sub_cons rfl (sub_cons rfl sub_nil))) ⟨by omega, hS⟩ ?_
  rintro k w ⟨hk, hS⟩
  refine wc_seq ?_
  refine wc_seq ?_
  -- region 2
  refine wc_region ?_
  refine wl (y_move rfl) rfl ?_
  refine wl (y_move rfl) rfl ?_
  refine wl (y_len_s Try.underlying9 rfl) rfl ?_
  refine wl (y_lss rfl rfl) rfl ?_
  refine wl_nil ?_
  refine wc_if rfl (fun hc11 => ?_) (fun hc11 => ?_)
  · try simp only [decide_eq_true_eq, decide_eq_false_iff_not, Bool.not_eq_true', Bool.not_eq_false', Bool.not_true, Bool.not_false, Bool.not_eq_eq_eq_not] at hc11
    have hk' : k < b.size := by omega
    have hidx := bget b k hk'
    have hcr : rrun x (b.data.toList.take (k + 1)) = _ := (congrArg (rrun x) (take_succ b k hk')).trans (rrun_append _ _ _)
    refine wc_skip ?_
    refine wc_seq ?_
    refine wc_block ?_
    refine wc_seq ?_
    -- region 4
    refine wc_region ?_
    refine wl (y_move rfl) rfl ?_
    refine wl (y_move rfl) rfl ?_
    refine wl (y_idx_s Try.underlying9 rfl rfl (by omega) hidx) rfl ?_
    refine wl (y_conv Try.underlying5 Try.underlying23 rfl (bvconv_u8_u32 _)) rfl ?_
    refine wl (y_assign rfl) rfl ?_
    refine wl_nil ?_
    refine wc_seq ?_
    -- region 5
    refine wc_region ?_
    refine wl (y_assign rfl) rfl ?_
    refine wl_nil ?_
    refine wc_block ?_
    refine wc_loop (α := Nat) (fun j => [(1, .string b), (5, .int .i64 k), (0, .int .u32 ((rbits j (rrun x (b.data.toList.take k)) (b[k].toBitVec.setWidth 32)).toNat : Int)), (6, .int .u32 (((b[k].toBitVec.setWidth 32) >>> j).toNat : Int)), (7, .int .i64 j)]) (fun j w => j ≤ 8 ∧ St M w Ls) (fun j => 8 - j) 0 (sub_cons rfl (sub_cons rfl (sub_cons rfl (sub_cons rfl (sub_cons rfl sub_nil))))) ⟨by omega, hS⟩ ?_
    rintro j w ⟨hj, hS⟩
    refine wc_seq ?_
    refine wc_seq ?_
    -- region 6
    refine wc_region ?_
    refine wl (y_move rfl) rfl ?_
    refine wl (y_lss rfl rfl) rfl ?_
    refine wl_nil ?_
    refine wc_if rfl (fun hc19 => ?_) (fun hc19 => ?_)
    · try simp only [decide_eq_true_eq, decide_eq_false_iff_not, Bool.not_eq_true', Bool.not_eq_false', Bool.not_true, Bool.not_false, Bool.not_eq_eq_eq_not] at hc19
      refine wc_skip ?_
      refine wc_seq ?_
      refine wc_block ?_
      refine wc_seq ?_
      -- region 8
      refine wc_region ?_
      refine wl (y_move rfl) rfl ?_
      refine wl (y_move rfl) rfl ?_
      refine wl (y_rem rfl rfl (by decide) (bvrem32 _ 2)) rfl ?_
      refine wl_call (.cons rfl (.cons rfl .nil)) (rstep_c _ _ hS) rfl ?_
      rintro _ w ⟨rfl, hS⟩
      refine wl (y_assign rfl) rfl ?_
      refine wl_nil ?_
      -- region 9
      refine wc_region ?_
      refine wl (y_move rfl) rfl ?_
      refine wl (y_quo rfl rfl (by decide) (bvquo32 _ 2)) rfl ?_
      refine wl (y_assign rfl) rfl ?_
      refine wl_nil ?_
      -- region 7
      refine wc_region ?_
      refine wl (y_move rfl) rfl ?_
      refine wl (y_add rfl rfl (w64 (by omega) (by omega))) rfl ?_
      refine wl (y_assign rfl) rfl ?_
      refine wl_nil ?_
      exact ⟨j + 1, by omega, sub_cons rfl (sub_cons rfl (sub_cons rfl (sub_cons (by rw [← shr_succ]; rfl) (sub_cons rfl sub_nil)))), by omega, hS⟩
    · try simp only [decide_eq_true_eq, decide_eq_false_iff_not, Bool.not_eq_true', Bool.not_eq_false', Bool.not_true, Bool.not_false, Bool.not_eq_eq_eq_not] at hc19
      obtain rfl : j = 8 := by omega
      refine wc_exit ?_
      -- region 3
      refine wc_region ?_
      refine wl (y_move rfl) rfl ?_
      refine wl (y_add rfl rfl (w64 (by omega) (by omega))) rfl ?_
      refine wl (y_assign rfl) rfl ?_
      refine wl_nil ?_
      exact ⟨k + 1, by omega, sub_cons rfl (sub_cons rfl (sub_cons (by rw [hcr]; rfl) sub_nil)), by omega, hS⟩
  · try simp only [decide_eq_true_eq, decide_eq_false_iff_not, Bool.not_eq_true', Bool.not_eq_false', Bool.not_true, Bool.not_false, Bool.not_eq_eq_eq_not] at hc11
    obtain rfl : k = b.size := by omega
    have hcr : b.data.toList.take b.size = b.data.toList := List.take_of_length_le (by simp)
    refine wc_exit ?_
    refine wc_seq ?_
    -- region 10
    refine wc_region ?_
    refine wl (y_move rfl) rfl ?_
    refine wl (y_assign rfl) rfl ?_
    refine wl_nil ?_
    refine wc_ret ?_
    refine wret (vs := [_]) (.tmp rfl .nil) ?_
    exact ⟨by rw [hcr]; rfl, hS⟩

def rsum (b : ByteArray) : BitVec 32 := 4294967295#32 - rrun 4294967295#32 b.data.toList
theorem rsum_c {M : Mem} {w : World} {Ls : List Chunk} (b : ByteArray) (hb : b.size ≤ 140737488351232) (hS : St M w Ls) :
    CallsR Try.prog 11 [.string b].toArray w fun v w' => v = .int .u32 ((rsum b).toNat : Int) ∧ St M w' Ls := by
  refine calls_of (c := _) (rs := _) (n := 6) Try.func11 rfl rfl rfl rfl rfl ?_
  refine wc_seq ?_
  -- region 0
  refine wc_region ?_
  refine wl (y_assign rfl) rfl ?_
  refine wl_nil ?_
  refine wc_seq ?_
  -- region 1
  refine wc_region ?_
  refine wl (y_move rfl) rfl ?_
  refine wl_call (.cons rfl (.cons rfl .nil)) (rrun_c 4294967295#32 b hb hS) rfl ?_
  rintro _ w ⟨rfl, hS⟩
  refine wl (y_sub (bvc32 4294967295) rfl (bvsub32 _ _)) rfl ?_
  refine wl (y_assign rfl) rfl ?_
  refine wl_nil ?_
  refine wc_ret ?_
  refine wret (vs := [_]) (.tmp rfl .nil) ?_
  exact ⟨rfl, hS⟩

def rle : Nat → BitVec 32 → List UInt8
  | 0, _ => []
  | k + 1, x => rle k x ++ [⟨((x >>> (8 * k)) % 256#32).setWidth 8⟩]
def rseal (b : ByteArray) : ByteArray := ⟨(b.data.toList ++ rle 4 (rsum b)).toArray⟩
theorem shr_256 (c : BitVec 32) (k : Nat) : (c >>> (8 * k)) / 256#32 = c >>> (8 * (k + 1)) := by
  apply BitVec.eq_of_toNat_eq
  simp [BitVec.toNat_udiv, BitVec.toNat_ushiftRight, Nat.shiftRight_eq_div_pow, Nat.div_div_eq_div_mul, Nat.mul_add, Nat.pow_add]
theorem rle_length (k : Nat) (x : BitVec 32) : (rle k x).length = k := by induction k <;> simp_all [rle]

theorem rseal_c {M : Mem} {w : World} {Ls : List Chunk} (b : ByteArray) (hb : b.size ≤ 140737488351232) (hS : St M w Ls) :
    CallsR Try.prog 16 [.string b].toArray w fun v w' => v = .string (rseal b) ∧ St M w' Ls := by
  refine calls_of (c := _) (rs := _) (n := 25) Try.func16 rfl rfl rfl rfl rfl ?_
  refine wc_seq ?_
  -- region 0
  refine wc_region ?_
  refine wl (y_assign rfl) rfl ?_
  refine wl_nil ?_
  refine wc_seq ?_
  -- region 1
  refine wc_region ?_
  refine wl (y_move rfl) rfl ?_
  refine wl_call (.cons rfl .nil) (rsum_c b hb hS) rfl ?_
  rintro _ w ⟨rfl, hS⟩
  refine wl (y_assign rfl) rfl ?_
  refine wl_nil ?_
  refine wc_seq ?_
  -- region 2
  refine wc_region ?_
  refine a_bslice encB [] (vs := []) (ps := []) Try.underlying33 sz_5 z_5 rfl .nil rfl rfl rfl (by decide) hS rfl fun s H w ho hS => ?_
  refine wl (y_assign rfl) rfl ?_
  refine wl_nil ?_
  refine wc_seq ?_
  refine wc_seq ?_
  -- region 3
  refine wc_region ?_
  refine wl (y_assign rfl) rfl ?_
  refine wl_nil ?_
  refine wc_block ?_
  refine wc_loop (α := Nat × Value × Chunk) (fun ⟨j, s, H⟩ => [(0, .string b), (5, .int .i64 j), (3, .int .u32 ((rsum b >>> (8 * j)).toNat : Int)), (4, s)]) (fun ⟨j, s, H⟩ w => j ≤ 4 ∧ Own 5 encB s (rle j (rsum b)) H ∧ St M w (H :: Ls)) (fun ⟨j, _, _⟩ => 4 - j) (0, s, H) (sub_cons rfl (sub_cons rfl (sub_cons (by rw [Nat.mul_zero, BitVec.ushiftRight_zero]; rfl) (sub_cons rfl sub_nil)))) ⟨by omega, ho, hS⟩ ?_
  rintro ⟨j, s, H⟩ w ⟨hj, ho, hS⟩
  have hlen := rle_length j (rsum b)
  refine wc_seq ?_
  refine wc_seq ?_
  -- region 4
  refine wc_region ?_
  refine wl (y_move rfl) rfl ?_
  refine wl (y_lss rfl rfl) rfl ?_
  refine wl_nil ?_
  refine wc_if rfl (fun hc10 => ?_) (fun hc10 => ?_)
  · try simp only [decide_eq_true_eq, decide_eq_false_iff_not, Bool.not_eq_true', Bool.not_eq_false', Bool.not_true, Bool.not_false, Bool.not_eq_eq_eq_not] at hc10
    refine wc_skip ?_
    refine wc_seq ?_
    refine wc_block ?_
    refine wc_seq ?_
    -- region 6
    refine wc_region ?_
    refine wl (y_move rfl) rfl ?_
    refine wl (y_move rfl) rfl ?_
    refine wl (y_rem rfl rfl (by decide) (bvrem32 _ 256)) rfl ?_
    refine wl (y_conv Try.underlying23 Try.underlying5 rfl (bvconv_u32_u8 _)) rfl ?_
    refine a_bslice encB [⟨((rsum b >>> (8 * j)) % 256#32).setWidth 8⟩] (vs := [_]) (ps := [(0, .tmp 16)]) Try.underlying33 sz_5 z_5 rfl (.cons rfl .nil) rfl rfl rfl (by decide) hS rfl fun s1 H1 w ho1 hS => ?_
    refine a_append (A := encB) (H := H) Try.underlying33 Try.underlying33 sz_5 z_5 rfl by_5 (by decide) rfl rfl ho (ho1.holds hS) hS (by rw [hlen]; simp; omega) rfl fun s2 H2 w ho2 hS => ?_
    replace hS := (hS.pull H1).drop
    refine wl (y_assign rfl) rfl ?_
    refine wl_nil ?_
    -- region 7
    refine wc_region ?_
    refine wl (y_move rfl) rfl ?_
    refine wl (y_quo rfl rfl (by decide) (bvquo32 _ 256)) rfl ?_
    refine wl (y_assign rfl) rfl ?_
    refine wl_nil ?_
    -- region 5
    refine wc_region ?_
    refine wl (y_move rfl) rfl ?_
    refine wl (y_add rfl rfl (w64 (by omega) (by omega))) rfl ?_
    refine wl (y_assign rfl) rfl ?_
    refine wl_nil ?_
    exact ⟨(j + 1, s2, H2), by simp only; omega, sub_cons rfl (sub_cons rfl (sub_cons (by rw [← shr_256]; rfl) (sub_cons rfl sub_nil))), by omega, ho2, hS⟩
  · try simp only [decide_eq_true_eq, decide_eq_false_iff_not, Bool.not_eq_true', Bool.not_eq_false', Bool.not_true, Bool.not_false, Bool.not_eq_eq_eq_not] at hc10
    obtain rfl : j = 4 := by omega
    refine wc_exit ?_
    refine wc_seq ?_
    -- region 8
    refine wc_region ?_
    refine wl (y_move rfl) rfl ?_
    refine wl (y_move rfl) rfl ?_
    refine wl (y_b2sh Try.underlying33 Try.underlying9 Try.underlying5 rfl (ho.holds hS)) rfl ?_
    refine wl (y_sadd rfl rfl (by simp only [ByteArray.size, List.size_toArray, hlen] at *; omega)) rfl ?_
    refine wl (y_assign rfl) rfl ?_
    refine wl_nil ?_
    refine wc_ret ?_
    refine wret (vs := [_]) (.tmp rfl .nil) ?_
    exact ⟨by rw [append_mk]; rfl, hS.drop⟩

def ropen (b : ByteArray) : Option ByteArray :=
  if b.size < 4 then none else if rseal (b.extract 0 (b.size - 4)) = b then some (b.extract 0 (b.size - 4)) else none
theorem ropen_c {M : Mem} {w : World} {Ls : List Chunk} (b : ByteArray) (hb : b.size ≤ 140737488351232) (hS : St M w Ls) :
    CallsR Try.prog 14 [.string b].toArray w fun v w' => v = openV (ropen b) ∧ St M w' Ls := by
  refine calls_of (c := _) (rs := _) (n := 18) Try.func14 rfl rfl rfl rfl rfl ?_
  refine wc_seq ?_
  -- region 0
  refine wc_region ?_
  refine wl (y_assign rfl) rfl ?_
  refine wl (y_assign rfl) rfl ?_
  refine wl_nil ?_
  refine wc_seq ?_
  refine wc_seq ?_
  -- region 1
  refine wc_region ?_
  refine wl (y_move rfl) rfl ?_
  refine wl (y_len_s Try.underlying9 rfl) rfl ?_
  refine wl (y_lss rfl rfl) rfl ?_
  refine wl_nil ?_
  refine wc_if rfl (fun hc7 => ?_) (fun hc7 => ?_)
  · try simp only [decide_eq_true_eq, decide_eq_false_iff_not, Bool.not_eq_true', Bool.not_eq_false', Bool.not_true, Bool.not_false, Bool.not_eq_eq_eq_not] at hc7
    refine wc_seq ?_
    -- region 2
    refine wc_region ?_
    refine wl (y_assign rfl) rfl ?_
    refine wl (y_assign rfl) rfl ?_
    refine wl_nil ?_
    refine wc_ret ?_
    refine wret (vs := [_, _]) (.tmp rfl (.tmp rfl .nil)) ?_
    refine ⟨?_, hS⟩
    unfold ropen
    first
    | (rw [if_pos (by omega)]; rfl)
    | (rw [if_neg (by omega), if_neg hc16]; rfl)
    | (rw [if_neg (by omega), if_pos hc16]; rfl)
  · try simp only [decide_eq_true_eq, decide_eq_false_iff_not, Bool.not_eq_true', Bool.not_eq_false', Bool.not_true, Bool.not_false, Bool.not_eq_eq_eq_not] at hc7
    have e4 : ((b.size : Int) - 4).toNat = b.size - 4 := by omega
    refine wc_skip ?_
    refine wc_seq ?_
    -- region 3
    refine wc_region ?_
    refine wl (y_move rfl) rfl ?_
    refine wl (y_move rfl) rfl ?_
    refine wl (y_len_s Try.underlying9 rfl) rfl ?_
    refine wl (y_sub rfl rfl (w64 (by omega) (by omega))) rfl ?_
    refine wl (y_sl_s Try.underlying9 rfl (lv := 0) rfl ⟨_, _, rfl, by omega, e4⟩ (by omega) (by omega) rfl) rfl ?_
    refine wl (y_assign rfl) rfl ?_
    refine wl_nil ?_
    refine wc_seq ?_
    refine wc_seq ?_
    -- region 4
    refine wc_region ?_
    refine wl (y_move rfl) rfl ?_
    refine wl_call (.cons rfl .nil) (rseal_c _ (by rw [ByteArray.size_extract]; omega) hS) rfl ?_
    rintro _ w ⟨rfl, hS⟩
    refine wl (y_move rfl) rfl ?_
    refine wl (y_sneq rfl rfl) rfl ?_
    refine wl_nil ?_
    refine wc_if rfl (fun hc16 => ?_) (fun hc16 => ?_)
    · try simp only [decide_eq_true_eq, decide_eq_false_iff_not, Bool.not_eq_true', Bool.not_eq_false', Bool.not_true, Bool.not_false, Bool.not_eq_eq_eq_not] at hc16
      refine wc_seq ?_
      -- region 5
      refine wc_region ?_
      refine wl (y_assign rfl) rfl ?_
      refine wl (y_assign rfl) rfl ?_
      refine wl_nil ?_
      refine wc_ret ?_
      refine wret (vs := [_, _]) (.tmp rfl (.tmp rfl .nil)) ?_
      refine ⟨?_, hS⟩
      unfold ropen
      first
      | (rw [if_pos (by omega)]; rfl)
      | (rw [if_neg (by omega), if_neg hc16]; rfl)
      | (rw [if_neg (by omega), if_pos hc16]; rfl)
    · try simp only [decide_eq_true_eq, decide_eq_false_iff_not, Bool.not_eq_true', Bool.not_eq_false', Bool.not_true, Bool.not_false, Bool.not_eq_eq_eq_not] at hc16
      refine wc_skip ?_
      refine wc_seq ?_
      -- region 6
      refine wc_region ?_
      refine wl (y_move rfl) rfl ?_
      refine wl (y_assign rfl) rfl ?_
      refine wl (y_assign rfl) rfl ?_
      refine wl_nil ?_
      refine wc_ret ?_
      refine wret (vs := [_, _]) (.tmp rfl (.tmp rfl .nil)) ?_
      refine ⟨?_, hS⟩
      unfold ropen
      first
      | (rw [if_pos (by omega)]; rfl)
      | (rw [if_neg (by omega), if_neg hc16]; rfl)
      | (rw [if_neg (by omega), if_pos hc16]; rfl)
end Go.Proofs.Ytipffnogkijmnaa.Crc
