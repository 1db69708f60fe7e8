import Derived.Test.YtipffnogkijmnaaEng5
set_option linter.unusedVariables false
set_option linter.unusedSimpArgs false
namespace Go.Proofs.Ytipffnogkijmnaa.Eng
open Go

/-! ### arithmetic in the walk's forms -/
theorem w64 {x : Int} (h0 : -9223372036854775808 ≤ x) (h1 : x ≤ 9223372036854775807) : IntKind.i64.wrap x = x := by
  simp only [IntKind.wrap, IntKind.bits, IntKind.signed, Bool.true_and, ge_iff_le, decide_eq_true_eq, Nat.reduceSub, Int.reducePow]
  split <;> omega
theorem wu {k : IntKind} (hk : k.signed = false) (x : Int) : k.wrap x = x % (2 ^ k.bits : Int) := by simp [IntKind.wrap, hk]
theorem wu32 (x : Int) : IntKind.u32.wrap x = x % 4294967296 := by rw [wu rfl]; rfl
theorem wu8 (x : Int) : IntKind.u8.wrap x = x % 256 := by rw [wu rfl]; rfl
theorem wu64 (x : Int) : IntKind.u64.wrap x = x % 18446744073709551616 := by rw [wu rfl]; rfl

theorem wnat {k : IntKind} (hk : k.signed = false) {n : Nat} (h : n < 2 ^ k.bits) : k.wrap (n : Int) = (n : Int) := by
  rw [wu hk]
  have h' : ((n : Int)) < (2 ^ k.bits : Int) := by have := Int.ofNat_lt.2 h; simpa using this
  exact Int.emod_eq_of_lt (Int.natCast_nonneg _) h'
theorem ofInt_toNat {m : Nat} (x : BitVec m) : BitVec.ofInt m (x.toNat : Int) = x := by
  apply BitVec.eq_of_toNat_eq
  simp

section
variable {E : Env}
theorem bvc32 (c : Nat) (h : c < 4294967296 := by decide) : ev E (.const (.int .u32 (c : Int))) = some (.int .u32 ((BitVec.ofNat 32 c).toNat : Int)) := by
  simp only [ev, BitVec.toNat_ofNat, Option.some.injEq, Value.int.injEq, true_and]
  rw [Nat.mod_eq_of_lt (by omega)]
theorem bvc8 (c : Nat) (h : c < 256 := by decide) : ev E (.const (.int .u8 (c : Int))) = some (.int .u8 ((BitVec.ofNat 8 c).toNat : Int)) := by
  simp only [ev, BitVec.toNat_ofNat, Option.some.injEq, Value.int.injEq, true_and]
  rw [Nat.mod_eq_of_lt (by omega)]
theorem bvc64 (c : Nat) (h : c < 18446744073709551616 := by decide) : ev E (.const (.int .u64 (c : Int))) = some (.int .u64 ((BitVec.ofNat 64 c).toNat : Int)) := by
  simp only [ev, BitVec.toNat_ofNat, Option.some.injEq, Value.int.injEq, true_and]
  rw [Nat.mod_eq_of_lt (by omega)]
end

theorem bvand32 (x y : BitVec 32) : IntKind.u32.wrap ((BitVec.ofInt IntKind.u32.bits (x.toNat : Int) &&& BitVec.ofInt IntKind.u32.bits (y.toNat : Int)).toNat : Int) = ((x &&& y).toNat : Int) := by
  show IntKind.u32.wrap ((BitVec.ofInt 32 (x.toNat : Int) &&& BitVec.ofInt 32 (y.toNat : Int)).toNat : Int) = _
  rw [ofInt_toNat, ofInt_toNat]; exact wnat rfl (x &&& y).isLt
theorem bvor32 (x y : BitVec 32) : IntKind.u32.wrap ((BitVec.ofInt IntKind.u32.bits (x.toNat : Int) ||| BitVec.ofInt IntKind.u32.bits (y.toNat : Int)).toNat : Int) = ((x ||| y).toNat : Int) := by
  show IntKind.u32.wrap ((BitVec.ofInt 32 (x.toNat : Int) ||| BitVec.ofInt 32 (y.toNat : Int)).toNat : Int) = _
  rw [ofInt_toNat, ofInt_toNat]; exact wnat rfl (x ||| y).isLt
theorem bvxor32 (x y : BitVec 32) : IntKind.u32.wrap ((BitVec.ofInt IntKind.u32.bits (x.toNat : Int) ^^^ BitVec.ofInt IntKind.u32.bits (y.toNat : Int)).toNat : Int) = ((x ^^^ y).toNat : Int) := by
  show IntKind.u32.wrap ((BitVec.ofInt 32 (x.toNat : Int) ^^^ BitVec.ofInt 32 (y.toNat : Int)).toNat : Int) = _
  rw [ofInt_toNat, ofInt_toNat]; exact wnat rfl (x ^^^ y).isLt
theorem bvand8 (x y : BitVec 8) : IntKind.u8.wrap ((BitVec.ofInt IntKind.u8.bits (x.toNat : Int) &&& BitVec.ofInt IntKind.u8.bits (y.toNat : Int)).toNat : Int) = ((x &&& y).toNat : Int) := by
  show IntKind.u8.wrap ((BitVec.ofInt 8 (x.toNat : Int) &&& BitVec.ofInt 8 (y.toNat : Int)).toNat : Int) = _
  rw [ofInt_toNat, ofInt_toNat]; exact wnat rfl (x &&& y).isLt
theorem bvor8 (x y : BitVec 8) : IntKind.u8.wrap ((BitVec.ofInt IntKind.u8.bits (x.toNat : Int) ||| BitVec.ofInt IntKind.u8.bits (y.toNat : Int)).toNat : Int) = ((x ||| y).toNat : Int) := by
  show IntKind.u8.wrap ((BitVec.ofInt 8 (x.toNat : Int) ||| BitVec.ofInt 8 (y.toNat : Int)).toNat : Int) = _
  rw [ofInt_toNat, ofInt_toNat]; exact wnat rfl (x ||| y).isLt
theorem bvxor8 (x y : BitVec 8) : IntKind.u8.wrap ((BitVec.ofInt IntKind.u8.bits (x.toNat : Int) ^^^ BitVec.ofInt IntKind.u8.bits (y.toNat : Int)).toNat : Int) = ((x ^^^ y).toNat : Int) := by
  show IntKind.u8.wrap ((BitVec.ofInt 8 (x.toNat : Int) ^^^ BitVec.ofInt 8 (y.toNat : Int)).toNat : Int) = _
  rw [ofInt_toNat, ofInt_toNat]; exact wnat rfl (x ^^^ y).isLt
theorem bvand64 (x y : BitVec 64) : IntKind.u64.wrap ((BitVec.ofInt IntKind.u64.bits (x.toNat : Int) &&& BitVec.ofInt IntKind.u64.bits (y.toNat : Int)).toNat : Int) = ((x &&& y).toNat : Int) := by
  show IntKind.u64.wrap ((BitVec.ofInt 64 (x.toNat : Int) &&& BitVec.ofInt 64 (y.toNat : Int)).toNat : Int) = _
  rw [ofInt_toNat, ofInt_toNat]; exact wnat rfl (x &&& y).isLt
theorem bvor64 (x y : BitVec 64) : IntKind.u64.wrap ((BitVec.ofInt IntKind.u64.bits (x.toNat : Int) ||| BitVec.ofInt IntKind.u64.bits (y.toNat : Int)).toNat : Int) = ((x ||| y).toNat : Int) := by
  show IntKind.u64.wrap ((BitVec.ofInt 64 (x.toNat : Int) ||| BitVec.ofInt 64 (y.toNat : Int)).toNat : Int) = _
  rw [ofInt_toNat, ofInt_toNat]; exact wnat rfl (x ||| y).isLt
theorem bvxor64 (x y : BitVec 64) : IntKind.u64.wrap ((BitVec.ofInt IntKind.u64.bits (x.toNat : Int) ^^^ BitVec.ofInt IntKind.u64.bits (y.toNat : Int)).toNat : Int) = ((x ^^^ y).toNat : Int) := by
  show IntKind.u64.wrap ((BitVec.ofInt 64 (x.toNat : Int) ^^^ BitVec.ofInt 64 (y.toNat : Int)).toNat : Int) = _
  rw [ofInt_toNat, ofInt_toNat]; exact wnat rfl (x ^^^ y).isLt
theorem bvnot32 (x : BitVec 32) : IntKind.u32.wrap ((BitVec.ofInt IntKind.u32.bits (if IntKind.u32.signed then -1 else IntKind.u32.max) ^^^ BitVec.ofInt IntKind.u32.bits (x.toNat : Int)).toNat : Int) = ((~~~ x).toNat : Int) := by
  show IntKind.u32.wrap ((BitVec.ofInt 32 4294967295 ^^^ BitVec.ofInt 32 (x.toNat : Int)).toNat : Int) = _
  rw [ofInt_toNat, show BitVec.ofInt 32 4294967295 = BitVec.allOnes 32 from by decide, BitVec.allOnes_xor]; exact wnat rfl (~~~ x).isLt

theorem bvshr_aux {m : Nat} (x : BitVec m) (n : Nat) : ((x.toNat : Int)).fdiv (2 ^ (min ((n : Int)).toNat m)) = ((x >>> n).toNat : Int) := by
  have h : (2 : Int) ^ (min n m) = ((2 ^ (min n m) : Nat) : Int) := by simp
  rw [Int.toNat_natCast, h, Int.fdiv_eq_ediv_of_nonneg _ (Int.natCast_nonneg _)]
  rw [BitVec.toNat_ushiftRight, Nat.shiftRight_eq_div_pow]
  rcases Nat.le_total n m with hl | hl
  · rw [Nat.min_eq_left hl]; simp
  · rw [Nat.min_eq_right hl]
    have h1 : x.toNat < 2 ^ n := Nat.lt_of_lt_of_le x.isLt (Nat.pow_le_pow_right (by omega) hl)
    rw [Nat.div_eq_of_lt h1]
    have : (x.toNat : Int) / ((2 ^ m : Nat) : Int) = ((x.toNat / 2 ^ m : Nat) : Int) := by simp
    rw [this, Nat.div_eq_of_lt x.isLt]
theorem bvshr32 (x : BitVec 32) (n : Nat) : ((x.toNat : Int)).fdiv (2 ^ (min ((n : Int)).toNat IntKind.u32.bits)) = ((x >>> n).toNat : Int) := bvshr_aux x n
theorem bvshr8 (x : BitVec 8) (n : Nat) : ((x.toNat : Int)).fdiv (2 ^ (min ((n : Int)).toNat IntKind.u8.bits)) = ((x >>> n).toNat : Int) := bvshr_aux x n
theorem bvshr64 (x : BitVec 64) (n : Nat) : ((x.toNat : Int)).fdiv (2 ^ (min ((n : Int)).toNat IntKind.u64.bits)) = ((x >>> n).toNat : Int) := bvshr_aux x n
theorem bvshl_aux {m : Nat} (x : BitVec m) (n : Nat) : ((x.toNat : Int) * 2 ^ (min ((n : Int)).toNat m)) % (2 ^ m : Int) = ((x <<< n).toNat : Int) := by
  have h : (2 : Int) ^ (min n m) = ((2 ^ (min n m) : Nat) : Int) := by simp
  have h2 : (2 : Int) ^ m = ((2 ^ m : Nat) : Int) := by simp
  rw [Int.toNat_natCast, h, h2, ← Int.natCast_mul, ← Int.natCast_emod, BitVec.toNat_shiftLeft, Nat.shiftLeft_eq]
  congr 1
  rcases Nat.le_total n m with hl | hl
  · rw [Nat.min_eq_left hl]
  · rw [Nat.min_eq_right hl, Nat.mul_mod_left]
    obtain ⟨j, rfl⟩ : ∃ j, n = m + j := ⟨n - m, by omega⟩
    rw [Nat.pow_add, ← Nat.mul_assoc, Nat.mul_right_comm, Nat.mul_mod_left]
theorem bvshl64 (x : BitVec 64) (n : Nat) : IntKind.u64.wrap ((x.toNat : Int) * 2 ^ (min ((n : Int)).toNat IntKind.u64.bits)) = ((x <<< n).toNat : Int) := by
  rw [wu rfl]; exact bvshl_aux x n
theorem bvshl32 (x : BitVec 32) (n : Nat) : IntKind.u32.wrap ((x.toNat : Int) * 2 ^ (min ((n : Int)).toNat IntKind.u32.bits)) = ((x <<< n).toNat : Int) := by
  rw [wu rfl]; exact bvshl_aux x n
theorem bvshl8 (x : BitVec 8) (n : Nat) : IntKind.u8.wrap ((x.toNat : Int) * 2 ^ (min ((n : Int)).toNat IntKind.u8.bits)) = ((x <<< n).toNat : Int) := by
  rw [wu rfl]; exact bvshl_aux x n
theorem bvconv_aux {m : Nat} {k : IntKind} (hk : k.signed = false) (x : BitVec m) : k.wrap (x.toNat : Int) = ((x.setWidth k.bits).toNat : Int) := by
  rw [wu hk, BitVec.toNat_setWidth]; simp
theorem bvconv_u32_u8 (x : BitVec 32) : IntKind.u8.wrap (x.toNat : Int) = ((x.setWidth 8).toNat : Int) := bvconv_aux rfl x
theorem bvconv_u8_u32 (x : BitVec 8) : IntKind.u32.wrap (x.toNat : Int) = ((x.setWidth 32).toNat : Int) := bvconv_aux rfl x
theorem bvconv_u8_u64 (x : BitVec 8) : IntKind.u64.wrap (x.toNat : Int) = ((x.setWidth 64).toNat : Int) := bvconv_aux rfl x
theorem bvconv_u64_u8 (x : BitVec 64) : IntKind.u8.wrap (x.toNat : Int) = ((x.setWidth 8).toNat : Int) := bvconv_aux rfl x
theorem bvconv_u32_u32 (x : BitVec 32) : IntKind.u32.wrap (x.toNat : Int) = (x.toNat : Int) := wnat rfl x.isLt
theorem bvconv_u64_u64 (x : BitVec 64) : IntKind.u64.wrap (x.toNat : Int) = (x.toNat : Int) := wnat rfl x.isLt
theorem bvconv_u8_u8 (x : BitVec 8) : IntKind.u8.wrap (x.toNat : Int) = (x.toNat : Int) := wnat rfl x.isLt
theorem bvconv_i64_u32 (x : Int) : IntKind.u32.wrap x = ((BitVec.ofInt 32 x).toNat : Int) := by
  rw [wu rfl, BitVec.toNat_ofInt]
  have : (0 : Int) ≤ x % (2 ^ 32 : Int) := Int.emod_nonneg _ (by decide)
  show x % (2 ^ 32 : Int) = _
  simp; omega
theorem bvconv_i64_u64 (x : Int) : IntKind.u64.wrap x = ((BitVec.ofInt 64 x).toNat : Int) := by
  rw [wu rfl, BitVec.toNat_ofInt]
  show x % (2 ^ 64 : Int) = _
  simp; omega

theorem bvtmod_aux {m : Nat} (x : BitVec m) (c : Nat) (h : c < 2 ^ m) : ((x.toNat : Int)).tmod (c : Int) = ((x % BitVec.ofNat m c).toNat : Int) := by
  rw [BitVec.toNat_umod, BitVec.toNat_ofNat, Nat.mod_eq_of_lt h]; rfl
theorem bvtdiv_aux {m : Nat} (x : BitVec m) (c : Nat) (h : c < 2 ^ m) : ((x.toNat : Int)).tdiv (c : Int) = ((x / BitVec.ofNat m c).toNat : Int) := by
  rw [BitVec.toNat_udiv, BitVec.toNat_ofNat, Nat.mod_eq_of_lt h]; rfl
theorem bvrem32 (x : BitVec 32) (c : Nat) (h : c < 2 ^ 32 := by decide) : ((x.toNat : Int)).tmod (c : Int) = ((x % BitVec.ofNat 32 c).toNat : Int) := bvtmod_aux x c h
theorem bvquo32 (x : BitVec 32) (c : Nat) (h : c < 2 ^ 32 := by decide) : IntKind.u32.wrap (((x.toNat : Int)).tdiv (c : Int)) = ((x / BitVec.ofNat 32 c).toNat : Int) := by
  rw [bvtdiv_aux x c h]; exact wnat rfl (x / BitVec.ofNat 32 c).isLt
theorem bvadd32 (x y : BitVec 32) : IntKind.u32.wrap ((x.toNat : Int) + (y.toNat : Int)) = ((x + y).toNat : Int) := by
  rw [wu rfl, BitVec.toNat_add]; simp [IntKind.bits]
theorem bvmul32 (x y : BitVec 32) : IntKind.u32.wrap ((x.toNat : Int) * (y.toNat : Int)) = ((x * y).toNat : Int) := by
  rw [wu rfl, BitVec.toNat_mul]; simp [IntKind.bits]
theorem bvsub32 (x y : BitVec 32) : IntKind.u32.wrap ((x.toNat : Int) - (y.toNat : Int)) = ((x - y).toNat : Int) := by
  have hx := x.isLt
  have hy := y.isLt
  rw [wu rfl, BitVec.toNat_sub]
  show ((x.toNat : Int) - (y.toNat : Int)) % (2 ^ 32 : Int) = _
  omega
theorem bvrem8 (x : BitVec 8) (c : Nat) (h : c < 2 ^ 8 := by decide) : ((x.toNat : Int)).tmod (c : Int) = ((x % BitVec.ofNat 8 c).toNat : Int) := bvtmod_aux x c h
theorem bvquo8 (x : BitVec 8) (c : Nat) (h : c < 2 ^ 8 := by decide) : IntKind.u8.wrap (((x.toNat : Int)).tdiv (c : Int)) = ((x / BitVec.ofNat 8 c).toNat : Int) := by
  rw [bvtdiv_aux x c h]; exact wnat rfl (x / BitVec.ofNat 8 c).isLt
theorem bvadd8 (x y : BitVec 8) : IntKind.u8.wrap ((x.toNat : Int) + (y.toNat : Int)) = ((x + y).toNat : Int) := by
  rw [wu rfl, BitVec.toNat_add]; simp [IntKind.bits]
theorem bvmul8 (x y : BitVec 8) : IntKind.u8.wrap ((x.toNat : Int) * (y.toNat : Int)) = ((x * y).toNat : Int) := by
  rw [wu rfl, BitVec.toNat_mul]; simp [IntKind.bits]
theorem bvsub8 (x y : BitVec 8) : IntKind.u8.wrap ((x.toNat : Int) - (y.toNat : Int)) = ((x - y).toNat : Int) := by
  have hx := x.isLt
  have hy := y.isLt
  rw [wu rfl, BitVec.toNat_sub]
  show ((x.toNat : Int) - (y.toNat : Int)) % (2 ^ 8 : Int) = _
  omega
theorem bvrem64 (x : BitVec 64) (c : Nat) (h : c < 2 ^ 64 := by decide) : ((x.toNat : Int)).tmod (c : Int) = ((x % BitVec.ofNat 64 c).toNat : Int) := bvtmod_aux x c h
theorem bvquo64 (x : BitVec 64) (c : Nat) (h : c < 2 ^ 64 := by decide) : IntKind.u64.wrap (((x.toNat : Int)).tdiv (c : Int)) = ((x / BitVec.ofNat 64 c).toNat : Int) := by
  rw [bvtdiv_aux x c h]; exact wnat rfl (x / BitVec.ofNat 64 c).isLt
theorem bvadd64 (x y : BitVec 64) : IntKind.u64.wrap ((x.toNat : Int) + (y.toNat : Int)) = ((x + y).toNat : Int) := by
  rw [wu rfl, BitVec.toNat_add]; simp [IntKind.bits]
theorem bvmul64 (x y : BitVec 64) : IntKind.u64.wrap ((x.toNat : Int) * (y.toNat : Int)) = ((x * y).toNat : Int) := by
  rw [wu rfl, BitVec.toNat_mul]; simp [IntKind.bits]
theorem bvsub64 (x y : BitVec 64) : IntKind.u64.wrap ((x.toNat : Int) - (y.toNat : Int)) = ((x - y).toNat : Int) := by
  have hx := x.isLt
  have hy := y.isLt
  rw [wu rfl, BitVec.toNat_sub]
  show ((x.toNat : Int) - (y.toNat : Int)) % (2 ^ 64 : Int) = _
  omega
theorem bv_eq {m : Nat} (x y : BitVec m) : decide ((x.toNat : Int) = (y.toNat : Int)) = decide (x = y) := by
  by_cases h : x = y
  · simp [h]
  · have : ¬ (x.toNat : Int) = (y.toNat : Int) := fun e => h (BitVec.eq_of_toNat_eq (by omega))
    simp [h, this]

theorem setCells_from : ∀ (us pre : List Value) (j : Nat), pre.length = j → setCells (pre ++ us).toArray j us = (pre ++ us).toArray
  | [], pre, j, h => rfl
  | u :: us, pre, j, h => by
    have e : (pre ++ u :: us).toArray.setIfInBounds j u = (pre ++ u :: us).toArray := by
      subst h
      simp
    simp only [setCells]
    rw [e]
    have := setCells_from us (pre ++ [u]) (j + 1) (by simp [h])
    simpa using this
theorem setCells_self (us : List Value) : setCells us.toArray 0 us = us.toArray := by simpa using setCells_from us [] 0 rfl

theorem setCells_pre : ∀ (new pre old : List Value), old.length = new.length → setCells (pre ++ old).toArray pre.length new = (pre ++ new).toArray
  | [], pre, old, h => by
    have : old = [] := List.length_eq_zero_iff.1 (by simpa using h)
    subst this; rfl
  | u :: us, pre, [], h => by simp at h
  | u :: us, pre, o :: os, h => by
    have e : (pre ++ o :: os).toArray.setIfInBounds pre.length u = ((pre ++ [u]) ++ os).toArray := by
      simp [List.setIfInBounds_toArray, List.set_append]
    simp only [setCells]
    rw [e]
    have := setCells_pre us (pre ++ [u]) os (by simpa using h)
    simpa using this
theorem setCells_whole (old new : List Value) (h : old.length = new.length) : setCells old.toArray 0 new = new.toArray := by
  simpa using setCells_pre new [] old h

/-! ### ends -/
theorem wret {P : Program} {E : Env} {w : World} {rs : List ResultVar} {vs : List Value} {R : Value → World → Prop} (h : Res P E w rs vs) (hr : R (tupled vs) w) : retK P rs R .ret E w := ⟨vs, h, hr⟩

section
variable {M : Mem} {w : World} {Ls : List Chunk} {b : Nat} {cs : Array Value} {T : TypeId} {fz : Nat × Nat} {v : Value}
theorem St.cell {j : Nat} (hS : St M w Ls) [Has Ls b (.cells cs T fz)] (h : cs[j]? = some v) : w.cell? ⟨b, j, none⟩ = some v := (cell_of hS.has).trans h
theorem St.cells {j : Nat} {vs : List Value} (hS : St M w Ls) [Has Ls b (.cells cs T fz)] (h : (cs.toList.drop j).take vs.length = vs) : CellsAt w b j vs := by
  intro i u hi
  rw [cell_of hS.has]
  rw [← h, List.getElem?_take] at hi
  split at hi
  · rw [List.getElem?_drop] at hi; simpa using hi
  · cases hi
theorem St.all {vs : List Value} (hS : St M w Ls) [Has Ls b (.cells vs.toArray T fz)] : CellsAt w b 0 vs := by
  intro i u hi
  rw [cell_of hS.has]; simpa using hi
end
end Go.Proofs.Ytipffnogkijmnaa.Eng
