import Derived.Test.YtipffnogkijmnaaCrcB
set_option linter.unusedVariables false
set_option linter.unusedSimpArgs false
namespace Go.Proofs.Ytipffnogkijmnaa.Crc
open Go Go.Proofs.Ytipffnogkijmnaa.Eng

/-! ### plain laws of the sum -/
theorem cstep_eq (x : BitVec 32) : cstep x = (x >>> 1) ^^^ (if x.getLsbD 0 then 2197175160#32 else 0#32) := by
  have h : (x &&& 1#32 = 1#32) ↔ x.getLsbD 0 = true := by
    constructor
    · intro h
      have := congrArg (·.getLsbD 0) h
      simpa using this
    · intro h
      apply BitVec.eq_of_getLsbD_eq
      intro i hi
      rcases Nat.eq_zero_or_pos i with rfl | hp
      · simp [h]
      · simp [BitVec.getLsbD_one]
        intro _; omega
  unfold cstep
  by_cases hx : x.getLsbD 0 = true
  · rw [if_pos (h.2 hx), if_pos hx]
  · rw [if_neg (fun e => hx (h.1 e)), if_neg hx, BitVec.xor_zero]
theorem cstep_xor (x y : BitVec 32) : cstep (x ^^^ y) = cstep x ^^^ cstep y := by
  rw [cstep_eq, cstep_eq, cstep_eq, BitVec.ushiftRight_xor_distrib, BitVec.getLsbD_xor]
  apply BitVec.eq_of_getLsbD_eq
  intro i hi
  cases x.getLsbD 0 <;> cases y.getLsbD 0 <;> simp only [Bool.xor_false, Bool.xor_true, Bool.not_true, Bool.not_false, if_true, if_false, Bool.false_eq_true, BitVec.getLsbD_xor] <;>
    cases (x >>> 1).getLsbD i <;> cases (y >>> 1).getLsbD i <;> cases (2197175160#32).getLsbD i <;> simp
theorem steps_xor : ∀ (k : Nat) (x y : BitVec 32), steps k (x ^^^ y) = steps k x ^^^ steps k y
  | 0, x, y => rfl
  | k + 1, x, y => by simp only [steps, steps_xor k, cstep_xor]
theorem steps_low : ∀ (k : Nat) (x : BitVec 32), (∀ i, i < k → x.getLsbD i = false) → steps k x = x >>> k
  | 0, x, h => by simp [steps]
  | k + 1, x, h => by
    simp only [steps]
    rw [steps_low k x fun i hi => h i (by omega), cstep_eq]
    have : (x >>> k).getLsbD 0 = false := by rw [BitVec.getLsbD_ushiftRight]; exact h k (by omega)
    rw [this, ← BitVec.shiftRight_add]; simp
theorem steps_add (x : BitVec 32) (j : Nat) : ∀ k, steps (j + k) x = steps k (steps j x)
  | 0 => rfl
  | k + 1 => by rw [← Nat.add_assoc]; simp only [steps, steps_add x j k]
theorem steps_zero : ∀ k, steps k 0#32 = 0#32
  | 0 => rfl
  | k + 1 => by simp only [steps, steps_zero k]; decide
theorem cstep_inj (x : BitVec 32) (h : cstep x = 0#32) : x = 0#32 := by
  rw [cstep_eq] at h
  have h31 := congrArg (·.getLsbD 31) h
  simp only [BitVec.getLsbD_xor, BitVec.getLsbD_ushiftRight] at h31
  have hx : x.getLsbD 0 = false := by
    cases hb : x.getLsbD 0 with
    | false => rfl
    | true =>
      rw [hb] at h31
      have : x.getLsbD (1 + 31) = false := BitVec.getLsbD_of_ge _ _ (by omega)
      rw [this] at h31
      exact absurd h31 (by decide)
  rw [hx] at h
  simp only [Bool.false_eq_true, if_false, BitVec.xor_zero] at h
  apply BitVec.eq_of_getLsbD_eq
  intro i hi
  rcases Nat.eq_zero_or_pos i with rfl | hp
  · simpa using hx
  · have := congrArg (·.getLsbD (i - 1)) h
    simp only [BitVec.getLsbD_ushiftRight, show 1 + (i - 1) = i by omega] at this
    simpa using this
theorem steps_inj : ∀ (k : Nat) (x : BitVec 32), steps k x = 0#32 → x = 0#32
  | 0, x, h => h
  | k + 1, x, h => steps_inj k x (cstep_inj _ h)

/-- the lowest k bits -/
theorem rstep_eq (x bit : BitVec 32) (h : bit = 0#32 ∨ bit = 1#32) : rstep x bit = cstep (x ^^^ bit) := by
  have hm : (x % 2#32).getLsbD 0 = x.getLsbD 0 := by
    simp [BitVec.getLsbD, BitVec.toNat_umod, Nat.testBit_zero]
  have hm2 : ∀ b : BitVec 32, (b = 0#32 ∨ b = 1#32) → ((x % 2#32 = b) ↔ x.getLsbD 0 = b.getLsbD 0) := by
    intro b hb
    constructor
    · intro e; rw [← hm, e]
    · intro e
      apply BitVec.eq_of_toNat_eq
      simp only [BitVec.getLsbD, Nat.testBit_zero] at e
      rw [BitVec.toNat_umod]
      rcases hb with rfl | rfl <;> simp at e ⊢ <;> omega
  have hd : x / 2#32 = x >>> 1 := by
    apply BitVec.eq_of_toNat_eq
    simp [BitVec.toNat_udiv, BitVec.toNat_ushiftRight, Nat.shiftRight_eq_div_pow]
  have hb1 : bit >>> 1 = 0#32 := by rcases h with rfl | rfl <;> rfl
  rw [cstep_eq, BitVec.ushiftRight_xor_distrib, hb1, BitVec.xor_zero, BitVec.getLsbD_xor]
  unfold rstep
  rw [hd]
  by_cases hx : x % 2#32 = bit
  · rw [if_pos hx]
    have := (hm2 bit h).1 hx
    rw [this]; simp
  · rw [if_neg hx]
    have : ¬ x.getLsbD 0 = bit.getLsbD 0 := fun e => hx ((hm2 bit h).2 e)
    have : (x.getLsbD 0 ^^ bit.getLsbD 0) = true := by
      cases h1 : x.getLsbD 0 <;> cases h2 : bit.getLsbD 0 <;> simp_all
    rw [this]; rfl
theorem bit_low (c : BitVec 32) (k : Nat) : (c >>> k) % 2#32 = if c.getLsbD k then 1#32 else 0#32 := by
  apply BitVec.eq_of_toNat_eq
  rw [BitVec.toNat_umod, BitVec.toNat_ushiftRight]
  simp only [BitVec.getLsbD, Nat.testBit, Nat.one_and_eq_mod_two]
  have : (c.toNat >>> k) % 2 < 2 := Nat.mod_lt _ (by omega)
  rcases Nat.lt_or_ge 0 ((c.toNat >>> k) % 2) with h | h
  · have : (c.toNat >>> k) % 2 = 1 := by omega
    simp [this]
  · have : (c.toNat >>> k) % 2 = 0 := by omega
    simp [this]
/-- c's lowest k bits -/
def low (k : Nat) (c : BitVec 32) : BitVec 32 := (c <<< (32 - k)) >>> (32 - k)
theorem low_get (k : Nat) (c : BitVec 32) (i : Nat) : (low k c).getLsbD i = (decide (i < k) && c.getLsbD i) := by
  unfold low
  rw [BitVec.getLsbD_ushiftRight, BitVec.getLsbD_shiftLeft, show 32 - k + i - (32 - k) = i by omega]
  by_cases h : i < 32
  · by_cases hk : i < k
    · simp [hk]; omega
    · simp [hk]; omega
  · rw [BitVec.getLsbD_of_ge c _ (by omega)]; simp
theorem rbits_eq (x c : BitVec 32) : ∀ k, k ≤ 32 → rbits k x c = steps k (x ^^^ low k c)
  | 0, _ => by
    have : low 0 c = 0#32 := by apply BitVec.eq_of_getLsbD_eq; intro i _; simp [low_get]
    simp [rbits, steps, this]
  | k + 1, hk => by
    simp only [rbits]
    rw [rbits_eq x c k (by omega), bit_low, rstep_eq _ _ (by split <;> simp)]
    have h1 : steps k (if c.getLsbD k then 1#32 <<< k else 0#32) = if c.getLsbD k then 1#32 else 0#32 := by
      split
      · rw [steps_low k _ (by intro i hi; simp [BitVec.getLsbD_shiftLeft, hi])]
        apply BitVec.eq_of_getLsbD_eq
        intro i hi
        simp only [BitVec.getLsbD_ushiftRight, BitVec.getLsbD_shiftLeft, BitVec.getLsbD_one]
        by_cases h0 : i = 0
        · subst h0; simp; omega
        · simp [h0]
      · exact steps_zero k
    rw [← h1, ← steps_xor]
    show steps (k + 1) _ = _
    congr 1
    rw [BitVec.xor_assoc]
    congr 1
    apply BitVec.eq_of_getLsbD_eq
    intro i hi
    rw [BitVec.getLsbD_xor, low_get, low_get]
    by_cases h2 : i = k
    · subst h2
      cases hc : c.getLsbD i <;> simp [BitVec.getLsbD_shiftLeft, hi]
    · have h3 : (if c.getLsbD k then 1#32 <<< k else 0#32).getLsbD i = false := by
        split
        · simp [BitVec.getLsbD_shiftLeft, BitVec.getLsbD_one]
          intro _ _ _; omega
        · simp
      rw [h3, Bool.xor_false]
      congr 1
      simp; omega
theorem cbyte_eq (x : BitVec 32) (c : BitVec 8) : cbyte x c = steps 8 (x ^^^ c.setWidth 32) := by
  have hlo : (BitVec.ofNat 32 (x.setWidth 8 ^^^ c).toNat) = (x.setWidth 8 ^^^ c).setWidth 32 := BitVec.ofNat_toNat _ _
  have hsplit : x ^^^ c.setWidth 32 = ((x >>> 8) <<< 8) ^^^ (x.setWidth 8 ^^^ c).setWidth 32 := by
    apply BitVec.eq_of_getLsbD_eq
    intro i hi
    simp only [BitVec.getLsbD_xor, BitVec.getLsbD_setWidth, BitVec.getLsbD_shiftLeft, BitVec.getLsbD_ushiftRight, hi, decide_true, Bool.true_and]
    by_cases h8 : i < 8
    · simp [h8]
    · have h1 : c.getLsbD i = false := BitVec.getLsbD_of_ge _ _ (by omega)
      simp [h8, h1, show 8 + (i - 8) = i by omega]
  rw [hsplit, steps_xor, steps_low 8 _ (by intro i hi; simp [BitVec.getLsbD_shiftLeft, hi])]
  unfold cbyte ent
  rw [hlo]
  congr 1
  apply BitVec.eq_of_getLsbD_eq
  intro i hi
  simp only [BitVec.getLsbD_shiftLeft, BitVec.getLsbD_ushiftRight]
  by_cases h : 8 + i < 32
  · simp [h]
  · have : x.getLsbD (8 + i) = false := BitVec.getLsbD_of_ge _ _ (by omega)
    simp [h, this]
theorem low_of {m : Nat} (c : BitVec m) (k : Nat) (h : m ≤ k) (hk : k ≤ 32) : low k (c.setWidth 32) = c.setWidth 32 := by
  apply BitVec.eq_of_getLsbD_eq
  intro i hi
  rw [low_get, BitVec.getLsbD_setWidth]
  by_cases hik : i < k
  · simp [hik]
  · have : c.getLsbD i = false := BitVec.getLsbD_of_ge _ _ (by omega)
    simp [this]
theorem rrun_eq (x : BitVec 32) (l : List UInt8) : rrun x l = crun x l := by
  unfold rrun crun
  congr 1
  funext x c
  rw [rbits_eq _ _ 8 (by omega), low_of _ 8 (Nat.le_refl _) (by omega), cbyte_eq]
theorem rsum_eq (b : ByteArray) : rsum b = sum b := by
  unfold rsum sum more
  rw [rrun_eq]
  have h : ∀ x : BitVec 32, 4294967295#32 - x = ~~~ x := by
    intro x
    have := BitVec.allOnes_sub_eq_not x
    rw [← this]; rfl
  rw [h]
  rfl
theorem rle_eq (x : BitVec 32) : rle 4 x = le4 x := by
  have h : ∀ k, ((x >>> (8 * k)) % 256#32).setWidth 8 = (x >>> (8 * k)).setWidth 8 := by
    intro k
    apply BitVec.eq_of_toNat_eq
    simp [BitVec.toNat_umod, BitVec.toNat_setWidth]
  simp only [rle, h]
  simp only [List.nil_append, List.cons_append, le4, Nat.mul_zero, BitVec.ushiftRight_zero, Nat.mul_one, show 8 * 2 = 16 from rfl, show 8 * 3 = 24 from rfl]
theorem rseal_eq (b : ByteArray) : rseal b = seal_ b := by unfold rseal seal_; rw [rsum_eq, rle_eq]
theorem ropen_eq (b : ByteArray) : ropen b = open_ b := by unfold ropen open_; simp only [rseal_eq]
theorem le4_length (x : BitVec 32) : (le4 x).length = 4 := rfl
theorem seal_size (b : ByteArray) : (seal_ b).size = b.size + 4 := by
  simp only [seal_, ByteArray.size, List.size_toArray, List.length_append, le4_length]; simp
theorem seal_extract (b : ByteArray) : (seal_ b).extract 0 b.size = b := by
  apply bytes_eq
  simp [seal_, ByteArray.data_extract]
theorem open_seal (b : ByteArray) : open_ (seal_ b) = some b := by
  unfold open_
  rw [seal_size, if_neg (by omega), show b.size + 4 - 4 = b.size by omega, seal_extract, if_pos rfl]
theorem more_append (s : BitVec 32) (a b : ByteArray) : more s (a ++ b) = more (more s a) b := by
  unfold more
  have : (a ++ b).data.toList = a.data.toList ++ b.data.toList := by simp
  rw [this, crun_append]
  simp
theorem more_empty (s : BitVec 32) : more s ByteArray.empty = s := by
  unfold more
  have : ByteArray.empty.data.toList = [] := rfl
  rw [this]; simp [crun]
end Go.Proofs.Ytipffnogkijmnaa.Crc
