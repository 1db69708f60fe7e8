import Derived.KernelRfl
set_option linter.unusedVariables false
namespace Go.Proofs.Ytipffnogkijmnaa.Crc

/-! ### the check sum, as a function -/
def cstep (x : BitVec 32) : BitVec 32 := if x &&& 1#32 = 1#32 then (x >>> 1) ^^^ 2197175160#32 else x >>> 1
def steps : Nat → BitVec 32 → BitVec 32
  | 0, x => x
  | k + 1, x => cstep (steps k x)
def ent (i : Nat) : BitVec 32 := steps 8 (BitVec.ofNat 32 i)
def cbyte (x : BitVec 32) (c : BitVec 8) : BitVec 32 := (x >>> 8) ^^^ ent (x.setWidth 8 ^^^ c).toNat
def crun (x : BitVec 32) (l : List UInt8) : BitVec 32 := l.foldl (fun x c => cbyte x c.toBitVec) x
def more (s : BitVec 32) (b : ByteArray) : BitVec 32 := ~~~ crun (~~~ s) b.data.toList
def sum (b : ByteArray) : BitVec 32 := more 0#32 b
theorem crun_append (x : BitVec 32) (l m : List UInt8) : crun x (l ++ m) = crun (crun x l) m := by simp [crun]
end Go.Proofs.Ytipffnogkijmnaa.Crc
