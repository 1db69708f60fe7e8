import Derived.Test.YtipffnogkijmnaaCrcF
set_option linter.unusedVariables false
set_option linter.unusedSimpArgs false
namespace Go.Proofs.Ytipffnogkijmnaa.Crc
open Go Go.Proofs.Ytipffnogkijmnaa.Eng

/-! ### bits -/
def bitAt (l : List UInt8) (i : Nat) : Bool := (l.getD (i / 8) 0).toBitVec.getLsbD (i % 8)
def bb (b : Bool) : BitVec 32 := if b then 1#32 else 0#32
def brun (x : BitVec 32) (f : Nat → Bool) : Nat → BitVec 32
  | 0 => x
  | n + 1 => cstep (brun x f n ^^^ bb (f n))
theorem brun_congr (x : BitVec 32) {f g : Nat → Bool} : ∀ n, (∀ i, i < n → f i = g i) → brun x f n = brun x g n
  | 0, _ => rfl
  | n + 1, h => by simp only [brun]; rw [brun_congr x n fun i hi => h i (by omega), h n (by omega)]
theorem brun_add (x : BitVec 32) (f : Nat → Bool) (n : Nat) : ∀ k, brun x f (n + k) = brun (brun x f n) (fun i => f (n + i)) k
  | 0 => rfl
  | k + 1 => by rw [← Nat.add_assoc]; simp only [brun]; rw [brun_add x f n k]
theorem bb_xor (a b : Bool) : bb (a ^^ b) = bb a ^^^ bb b := by cases a <;> cases b <;> rfl
theorem xor4 (a b c d : BitVec 32) : (a ^^^ b) ^^^ (c ^^^ d) = (a ^^^ c) ^^^ (b ^^^ d) := by
  apply BitVec.eq_of_getLsbD_eq
  intro i _
  simp only [BitVec.getLsbD_xor]
  cases a.getLsbD i <;> cases b.getLsbD i <;> cases c.getLsbD i <;> cases d.getLsbD i <;> rfl
theorem brun_xor (x y : BitVec 32) (f g : Nat → Bool) : ∀ n, brun (x ^^^ y) (fun i => f i ^^ g i) n = brun x f n ^^^ brun y g n
  | 0 => rfl
  | n + 1 => by simp only [brun]; rw [brun_xor x y f g n, bb_xor, xor4, cstep_xor]
theorem brun_false (x : BitVec 32) (f : Nat → Bool) : ∀ n, (∀ i, i < n → f i = false) → brun x f n = steps n x
  | 0, _ => rfl
  | n + 1, h => by
    simp only [brun, steps]
    rw [brun_false x f n fun i hi => h i (by omega), h n (by omega)]
    simp [bb]
theorem brun_word (x c : BitVec 32) : ∀ k, k ≤ 32 → brun x (fun i => c.getLsbD i) k = steps k (x ^^^ low k c) := by
  intro k hk
  rw [← rbits_eq x c k hk]
  clear hk
  induction k with
  | zero => rfl
  | succ k ih =>
    simp only [brun, rbits]
    rw [ih, bit_low, rstep_eq _ _ (by split <;> simp)]
    rfl
/-- a burst leaves a trace -/
theorem brun_burst (c : BitVec 32) (f : Nat → Bool) (p N : Nat) (h0 : ∀ i, i < p → f i = false) (hw : ∀ i, f (p + i) = c.getLsbD i) (hz : brun 0#32 f N = 0#32) : ∀ i, i < N → f i = false := by
  intro i hi
  by_cases hip : i < p
  · exact h0 i hip
  · obtain ⟨k, rfl⟩ : ∃ k, N = p + k := ⟨N - p, by omega⟩
    rw [brun_add, brun_false 0#32 f p h0, steps_zero, brun_congr 0#32 k (fun i _ => hw i)] at hz
    obtain ⟨j, rfl⟩ : ∃ j, i = p + j := ⟨i - p, by omega⟩
    rw [hw]
    by_cases hk : k ≤ 32
    · rw [brun_word _ _ k hk, BitVec.zero_xor] at hz
      have := congrArg (·.getLsbD j) (steps_inj k _ hz)
      simp only [low_get] at this
      have hj : j < k := by omega
      simpa [hj] using this
    · obtain ⟨r, rfl⟩ : ∃ r, k = 32 + r := ⟨k - 32, by omega⟩
      rw [brun_add, brun_word _ _ 32 (Nat.le_refl _), BitVec.zero_xor, brun_false _ _ r (fun i _ => BitVec.getLsbD_of_ge _ _ (by omega))] at hz
      have := congrArg (·.getLsbD j) (steps_inj 32 _ (steps_inj r _ hz))
      simp only [low_get] at this
      by_cases hj : j < 32
      · simpa [hj] using this
      · exact BitVec.getLsbD_of_ge _ _ (by omega)

theorem bitAt_append_lt (l m : List UInt8) (i : Nat) (h : i < 8 * l.length) : bitAt (l ++ m) i = bitAt l i := by
  unfold bitAt
  rw [List.getD_eq_getElem?_getD, List.getD_eq_getElem?_getD, List.getElem?_append_left (by omega)]
theorem bitAt_append_ge (l m : List UInt8) (i : Nat) : bitAt (l ++ m) (8 * l.length + i) = bitAt m i := by
  unfold bitAt
  rw [List.getD_eq_getElem?_getD, List.getD_eq_getElem?_getD, List.getElem?_append_right (by omega)]
  rw [show (8 * l.length + i) / 8 - l.length = i / 8 by omega, show (8 * l.length + i) % 8 = i % 8 by omega]
theorem cbyte_bits (x : BitVec 32) (c : UInt8) : cbyte x c.toBitVec = brun x (bitAt [c]) 8 := by
  rw [cbyte_eq, ← low_of c.toBitVec 8 (Nat.le_refl _) (by omega), ← brun_word _ _ 8 (by omega)]
  apply brun_congr
  intro i hi
  simp only [bitAt, BitVec.getLsbD_setWidth, show i < 32 by omega, decide_true, Bool.true_and]
  rw [show i / 8 = 0 by omega, show i % 8 = i by omega]
  rfl
theorem crun_bits (x : BitVec 32) : ∀ (l : List UInt8), crun x l = brun x (bitAt l) (8 * l.length) := by
  intro l
  have h : ∀ n (l : List UInt8), l.length = n → crun x l = brun x (bitAt l) (8 * l.length) := by
    intro n
    induction n with
    | zero => intro l hl; rw [List.length_eq_zero_iff.1 hl]; rfl
    | succ n ih =>
      intro l hl
      have hne : l ≠ [] := by intro e; subst e; simp at hl
      obtain ⟨m, c, rfl⟩ : ∃ m c, l = m ++ [c] := ⟨l.dropLast, l.getLast hne, (List.dropLast_concat_getLast hne).symm⟩
      have hm : m.length = n := by simpa using hl
      rw [crun_append, ih m hm, List.length_append, List.length_singleton, Nat.mul_add, brun_add]
      show cbyte _ c.toBitVec = _
      rw [cbyte_bits, brun_congr _ 8 (fun i _ => (bitAt_append_ge m [c] i)), brun_congr x (8 * m.length) (fun i hi => bitAt_append_lt m [c] i hi)]
  exact h _ l rfl

/-- what a sealed text's register comes to -/
def residue : BitVec 32 := steps 32 (BitVec.allOnes 32)
def word (s : List UInt8) : BitVec 32 := ((s.getD 0 0).toBitVec.setWidth 32) ^^^ ((s.getD 1 0).toBitVec.setWidth 32 <<< 8) ^^^ ((s.getD 2 0).toBitVec.setWidth 32 <<< 16) ^^^ ((s.getD 3 0).toBitVec.setWidth 32 <<< 24)
theorem word_bit (s : List UInt8) (i : Nat) (hi : i < 32) : (word s).getLsbD i = bitAt s i := by
  have g : ∀ (c : UInt8) (j : Nat), 8 ≤ j → c.toBitVec.getLsbD j = false := fun c j h => BitVec.getLsbD_of_ge _ _ h
  simp only [word, BitVec.getLsbD_xor, BitVec.getLsbD_shiftLeft, BitVec.getLsbD_setWidth, hi, decide_true, Bool.true_and, bitAt]
  rcases Nat.lt_or_ge i 8 with h1 | h1
  · rw [show i / 8 = 0 by omega, show i % 8 = i by omega]
    simp [h1, show i < 16 by omega, show i < 24 by omega]
  rcases Nat.lt_or_ge i 16 with h2 | h2
  · rw [show i / 8 = 1 by omega, show i % 8 = i - 8 by omega, g _ i h1]
    simp [h2, show ¬ i < 8 by omega, show i < 24 by omega, show i - 8 < 32 by omega]
  rcases Nat.lt_or_ge i 24 with h3 | h3
  · rw [show i / 8 = 2 by omega, show i % 8 = i - 16 by omega, g _ i h1, g _ (i - 8) (by omega)]
    simp [h3, show ¬ i < 16 by omega, show i - 16 < 32 by omega]
  · rw [show i / 8 = 3 by omega, show i % 8 = i - 24 by omega, g _ i h1, g _ (i - 8) (by omega), g _ (i - 16) (by omega)]
    simp [show ¬ i < 24 by omega, show i - 24 < 32 by omega]
theorem crun_word (x : BitVec 32) (s : List UInt8) (h : s.length = 4) : crun x s = steps 32 (x ^^^ word s) := by
  have e : low 32 (word s) = word s := by
    apply BitVec.eq_of_getLsbD_eq
    intro i hi
    rw [low_get, decide_eq_true hi, Bool.true_and]
  rw [crun_bits, h, ← e, ← brun_word _ _ 32 (Nat.le_refl _)]
  exact brun_congr _ _ fun i hi => (word_bit s i hi).symm
theorem word_le4 (x : BitVec 32) : word (le4 x) = x := by
  apply BitVec.eq_of_getLsbD_eq
  intro i hi
  rw [word_bit _ _ hi]
  simp only [bitAt, le4]
  rcases Nat.lt_or_ge i 8 with h1 | h1
  · rw [show i / 8 = 0 by omega, show i % 8 = i by omega]
    simp [BitVec.getLsbD_setWidth, h1]
  rcases Nat.lt_or_ge i 16 with h2 | h2
  · rw [show i / 8 = 1 by omega, show i % 8 = i - 8 by omega]
    simp [BitVec.getLsbD_setWidth, show i - 8 < 8 by omega, show 8 + (i - 8) = i by omega]
  rcases Nat.lt_or_ge i 24 with h3 | h3
  · rw [show i / 8 = 2 by omega, show i % 8 = i - 16 by omega]
    simp [BitVec.getLsbD_setWidth, show i - 16 < 8 by omega, show 16 + (i - 16) = i by omega]
  · rw [show i / 8 = 3 by omega, show i % 8 = i - 24 by omega]
    simp [BitVec.getLsbD_setWidth, show i - 24 < 8 by omega, show 24 + (i - 24) = i by omega]
theorem le4_word (s : List UInt8) (h : s.length = 4) : le4 (word s) = s := by
  apply List.ext_getElem
  · rw [h]; rfl
  intro j h1 h2
  have hj : j < 4 := by rw [h] at h2; exact h2
  have hg : s.getD j 0 = s[j] := by rw [List.getD_eq_getElem?_getD, List.getElem?_eq_getElem h2]; rfl
  have key : ∀ i, i < 8 → (le4 (word s))[j].toBitVec.getLsbD i = s[j].toBitVec.getLsbD i := by
    intro i hi
    have e1 : bitAt (le4 (word s)) (8 * j + i) = bitAt s (8 * j + i) := by
      rw [← word_bit _ _ (by omega), ← word_bit s _ (by omega), word_le4]
    simp only [bitAt] at e1
    rw [show (8 * j + i) / 8 = j by omega, show (8 * j + i) % 8 = i by omega, hg, List.getD_eq_getElem?_getD, List.getElem?_eq_getElem h1] at e1
    exact e1
  have : (le4 (word s))[j].toBitVec = s[j].toBitVec := BitVec.eq_of_getLsbD_eq fun i hi => key i hi
  exact UInt8.toBitVec_inj.1 this

theorem steps_inj2 (k : Nat) (x y : BitVec 32) (h : steps k x = steps k y) : x = y := by
  have h1 : steps k (x ^^^ y) = 0#32 := by rw [steps_xor, h, BitVec.xor_self]
  have h2 := steps_inj k _ h1
  have h3 : (x ^^^ y) ^^^ y = 0#32 ^^^ y := by rw [h2]
  rw [BitVec.xor_assoc, BitVec.xor_self, BitVec.xor_zero, BitVec.zero_xor] at h3
  exact h3
theorem open_iff (y : ByteArray) (h : 4 ≤ y.size) : (open_ y).isSome = decide (crun (BitVec.allOnes 32) y.data.toList = residue) := by
  have hs : y.data.toList.length = y.size := by simp
  let m := y.data.toList.take (y.size - 4)
  let s := y.data.toList.drop (y.size - 4)
  have hy : y.data.toList = m ++ s := (List.take_append_drop _ _).symm
  have hsl : s.length = 4 := by simp only [s, List.length_drop, hs]; omega
  have hex : (y.extract 0 (y.size - 4)).data.toList = m := by
    simp [m, ByteArray.data_extract]
  have hiff : (seal_ (y.extract 0 (y.size - 4)) = y) ↔ (crun (BitVec.allOnes 32) y.data.toList = residue) := by
    have hsum : sum (y.extract 0 (y.size - 4)) = ~~~ crun (BitVec.allOnes 32) m := by
      unfold sum more
      rw [hex, BitVec.not_zero]
    rw [hy, crun_append, crun_word _ s hsl]
    constructor
    · intro e
      have e1 := congrArg (·.data.toList) e
      simp only [seal_, hex] at e1
      rw [hy] at e1
      have e2 : le4 (sum (y.extract 0 (y.size - 4))) = s := List.append_cancel_left e1
      rw [← e2, word_le4, hsum]
      unfold residue
      congr 1
      rw [← BitVec.allOnes_xor, ← BitVec.xor_assoc, BitVec.xor_comm _ (BitVec.allOnes 32), BitVec.xor_assoc, BitVec.xor_self, BitVec.xor_zero]
    · intro e
      have e1 := steps_inj2 32 _ _ e
      have e2 : word s = ~~~ crun (BitVec.allOnes 32) m := by
        have e3 := congrArg (crun (BitVec.allOnes 32) m ^^^ ·) e1
        simp only [← BitVec.xor_assoc, BitVec.xor_self, BitVec.zero_xor] at e3
        rw [e3, BitVec.xor_comm, BitVec.allOnes_xor]
      apply bytes_eq
      simp only [seal_, hex]
      rw [hsum, ← e2, le4_word s hsl, ← hy]
  unfold open_
  rw [if_neg (by omega)]
  by_cases hq : seal_ (y.extract 0 (y.size - 4)) = y
  · rw [if_pos hq, decide_eq_true (hiff.1 hq)]; rfl
  · rw [if_neg hq, decide_eq_false (fun e => hq (hiff.2 e))]; rfl

/-! ### bits that are turned -/
theorem flipAt_bit (l : List UInt8) (p i : Nat) (hp : p < 8 * l.length) (hi : i < 8 * l.length) : bitAt (flipAt l p) i = (bitAt l i ^^ decide (i = p)) := by
  unfold bitAt flipAt
  rw [List.getD_eq_getElem?_getD, List.getD_eq_getElem?_getD, List.getElem?_set]
  by_cases h : p / 8 = i / 8
  · rw [if_pos h, if_pos (by omega)]
    simp only [Option.getD_some, BitVec.getLsbD_xor]
    rw [List.getD_eq_getElem?_getD, h]
    congr 1
    unfold bitv
    rw [BitVec.getLsbD_shiftLeft, BitVec.getLsbD_one]
    by_cases hpi : i = p
    · subst hpi; simp; omega
    · have : ¬ i % 8 = p % 8 := by omega
      simp only [hpi, decide_false]
      simp
      intros; omega
  · rw [if_neg h]
    have : ¬ i = p := by intro e; subst e; exact h rfl
    simp [this]
def burst (at_ : Int) (mask : BitVec 32) (k : Nat) (i : Nat) : Bool := decide (at_ ≤ i ∧ i < at_ + k) && mask.getLsbD (i - at_).toNat
theorem flips_bit (at_ : Int) (mask : BitVec 32) (l : List UInt8) : ∀ (k i : Nat), i < 8 * l.length → bitAt (flips at_ mask l k) i = (bitAt l i ^^ burst at_ mask k i)
  | 0, i, h => by
    have : ¬ (at_ ≤ (i : Int) ∧ (i : Int) < at_ + (0 : Nat)) := by omega
    simp only [flips, burst, decide_eq_false this, Bool.false_and, Bool.xor_false]
  | k + 1, i, h => by
    simp only [flips]
    have hb : burst at_ mask (k + 1) i = (burst at_ mask k i ^^ (decide ((i : Int) = at_ + k) && mask.getLsbD k)) := by
      unfold burst
      by_cases h1 : (i : Int) = at_ + k
      · have h2 : at_ ≤ (i : Int) ∧ (i : Int) < at_ + ((k + 1 : Nat) : Int) := by omega
        have h3 : ¬ (at_ ≤ (i : Int) ∧ (i : Int) < at_ + (k : Int)) := by omega
        have h4 : ((i : Int) - at_).toNat = k := by omega
        rw [decide_eq_true h2, decide_eq_false h3, decide_eq_true h1, h4]; simp
      · rw [decide_eq_false h1]
        by_cases h2 : at_ ≤ (i : Int) ∧ (i : Int) < at_ + (k : Int)
        · rw [decide_eq_true h2, decide_eq_true (by omega)]; simp
        · rw [decide_eq_false h2, decide_eq_false (by omega)]; simp
    split
    · rename_i hc
      rw [flipAt_bit _ _ _ (by rw [flips_length]; omega) (by rw [flips_length]; exact h), flips_bit at_ mask l k i h, hb, hc.1, Bool.and_true, Bool.xor_assoc]
      congr 2
      have : (i = (at_ + (k : Int)).toNat) ↔ ((i : Int) = at_ + k) := by omega
      simp [this]
    · rename_i hc
      rw [flips_bit at_ mask l k i h, hb]
      have : (decide ((i : Int) = at_ + k) && mask.getLsbD k) = false := by
        cases hm : mask.getLsbD k
        · simp
        · have : ¬ (i : Int) = at_ + k := fun e => hc ⟨hm, by omega, by omega⟩
          simp [this]
      rw [this, Bool.xor_false]
theorem bits_ext (l m : List UInt8) (hl : l.length = m.length) (h : ∀ i, i < 8 * l.length → bitAt l i = bitAt m i) : l = m := by
  apply List.ext_getElem hl
  intro j h1 h2
  have : l[j].toBitVec = m[j].toBitVec := by
    apply BitVec.eq_of_getLsbD_eq
    intro i hi
    have := h (8 * j + i) (by omega)
    simp only [bitAt] at this
    rw [show (8 * j + i) / 8 = j by omega, show (8 * j + i) % 8 = i by omega, List.getD_eq_getElem?_getD, List.getD_eq_getElem?_getD, List.getElem?_eq_getElem h1, List.getElem?_eq_getElem h2] at this
    exact this
  exact UInt8.toBitVec_inj.1 this

/-- A burst is found. -/
theorem burst_found (b : ByteArray) (at_ : Int) (mask : BitVec 32) (h : -32 ≤ at_) (hok : 4 ≤ b.size) (ho : (open_ b).isSome = true) :
    (open_ ⟨(flips at_ mask b.data.toList 32).toArray⟩).isSome = decide (((⟨(flips at_ mask b.data.toList 32).toArray⟩ : ByteArray)) = b) := by
  have hlen := flips_length at_ mask b.data.toList 32
  have hbl : b.data.toList.length = b.size := by simp
  have hsz : (⟨(flips at_ mask b.data.toList 32).toArray⟩ : ByteArray).size = b.size := by
    simp only [ByteArray.size, List.size_toArray, hlen]; simp
  rw [open_iff _ (by rw [hsz]; exact hok)]
  rw [open_iff b hok, decide_eq_true_eq] at ho
  have hcr : crun (BitVec.allOnes 32) (flips at_ mask b.data.toList 32) = residue ^^^ brun 0#32 (burst at_ mask 32) (8 * b.size) := by
    rw [← ho, crun_bits, crun_bits, hlen, hbl, ← brun_xor, BitVec.xor_zero]
    exact brun_congr _ _ fun i hi => flips_bit at_ mask _ 32 i (by rw [hbl]; exact hi)
  have hiff : (crun (BitVec.allOnes 32) (flips at_ mask b.data.toList 32) = residue) ↔ ((⟨(flips at_ mask b.data.toList 32).toArray⟩ : ByteArray) = b) := by
    constructor
    · intro e
      rw [hcr] at e
      have hz : brun 0#32 (burst at_ mask 32) (8 * b.size) = 0#32 := by
        have := congrArg (residue ^^^ ·) e
        simpa [← BitVec.xor_assoc] using this
      have hall : ∀ i, i < 8 * b.size → burst at_ mask 32 i = false := by
        rcases Int.lt_or_le at_ 0 with hneg | hpos
        · refine brun_burst (mask >>> (-at_).toNat) _ 0 _ (fun i hi => by omega) (fun i => ?_) hz
          unfold burst
          rw [Nat.zero_add, BitVec.getLsbD_ushiftRight, show (-at_).toNat + i = ((i : Int) - at_).toNat by omega]
          by_cases hi : at_ ≤ (i : Int) ∧ (i : Int) < at_ + ((32 : Nat) : Int)
          · rw [decide_eq_true hi, Bool.true_and]
          · rw [decide_eq_false hi, Bool.false_and]
            exact (BitVec.getLsbD_of_ge _ _ (by omega)).symm
        · refine brun_burst mask _ at_.toNat _ (fun i hi => ?_) (fun i => ?_) hz
          · unfold burst
            rw [decide_eq_false (by omega), Bool.false_and]
          · unfold burst
            rw [show (((at_.toNat + i : Nat) : Int) - at_).toNat = i by omega]
            by_cases hi : i < 32
            · rw [decide_eq_true (by omega), Bool.true_and]
            · rw [decide_eq_false (by omega), Bool.false_and]
              exact (BitVec.getLsbD_of_ge _ _ (by omega)).symm
      apply bytes_eq
      show flips at_ mask b.data.toList 32 = b.data.toList
      exact bits_ext _ _ hlen fun i hi => by rw [flips_bit _ _ _ _ _ (by rw [hlen] at hi; exact hi), hall i (by rw [hlen, hbl] at hi; exact hi), Bool.xor_false]
    · intro e
      have e1 : flips at_ mask b.data.toList 32 = b.data.toList := by
        have := congrArg (·.data.toList) e
        simpa using this
      rw [e1]; exact ho
  by_cases hq : (⟨(flips at_ mask b.data.toList 32).toArray⟩ : ByteArray) = b
  · rw [decide_eq_true hq, decide_eq_true (hiff.2 hq)]
  · rw [decide_eq_false hq, decide_eq_false (fun e => hq (hiff.1 e))]
end Go.Proofs.Ytipffnogkijmnaa.Crc
