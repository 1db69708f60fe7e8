import Derived.Test.YtipffnogkijmnaaEng1
set_option linter.unusedVariables false
set_option linter.unusedSimpArgs false
namespace Go.Proofs.Ytipffnogkijmnaa.Eng
open Go

/-- What an operation yields. -/
def Y (P : Program) (E : Env) (op : Op) (T : TypeId) (w : World) (v : Value) (w' : World) : Prop :=
  ∀ a, has a E → ∀ d pos af g, (execOp a.eval ⟨d, op, T, pos, af, g⟩).run P w = .ok (.value v) w'
/-- An operation without a value. -/
def YS (P : Program) (E : Env) (op : Op) (T : TypeId) (w : World) (w' : World) : Prop :=
  ∀ a, has a E → ∀ d pos af g, (execOp a.eval ⟨d, op, T, pos, af, g⟩).run P w = .ok .skip w'

/-- Facts on a program's types. -/
def Plain (P : Program) (T : TypeId) : Prop := ∃ d, P.underlying T = some d ∧ (∀ fs, d ≠ .struct fs) ∧ (∀ n e, d ≠ .array n e)
def Size (P : Program) (T : TypeId) (k : Nat) : Prop := ∃ i, P.info? T = some i ∧ i.size = k
def Zero (P : Program) (T : TypeId) (v : Value) : Prop := ∃ i, P.info? T = some i ∧ i.zero = some v
def Bytes (P : Program) (T : TypeId) (k : Nat) : Prop := ∃ i, P.info? T = some i ∧ i.bytes = k
def IsStruct (P : Program) (T : TypeId) : Prop := ∃ fs, P.underlying T = some (.struct fs)
/-- field i of the struct type T: its type, where it lies, how many cells it has -/
def Fld (P : Program) (T : TypeId) (i : Nat) (U : TypeId) (off sz : Nat) : Prop :=
  ∃ fs f, P.underlying T = some (.struct fs) ∧ fs[i]? = some f ∧ f.type = U ∧ f.offset = off ∧ Size P U sz

section
variable {P : Program} {T : TypeId}
theorem size_of {k : Nat} (h : (P.info? T).map (·.size) = some k) : Size P T k := by
  cases hi : P.info? T with
  | none => rw [hi] at h; cases h
  | some i => rw [hi] at h; exact ⟨i, hi, by simpa using h⟩
theorem bytes_of {k : Nat} (h : (P.info? T).map (·.bytes) = some k) : Bytes P T k := by
  cases hi : P.info? T with
  | none => rw [hi] at h; cases h
  | some i => rw [hi] at h; exact ⟨i, hi, by simpa using h⟩
theorem zero_of {z : Value} (h : (P.info? T).bind (·.zero) = some z) : Zero P T z := by
  cases hi : P.info? T with
  | none => rw [hi] at h; cases h
  | some i => rw [hi] at h; exact ⟨i, hi, by simpa using h⟩
theorem plain_of {d : TypeDesc} (h : P.underlying T = some d) (h' : (match d with | .struct _ | .array _ _ => false | _ => true) = true) : Plain P T :=
  ⟨d, h, fun fs e => by subst e; simp at h', fun n e f => by subst f; simp at h'⟩
theorem fld_of {fs : Array Field} {i : Nat} {U : TypeId} {off sz : Nat} (h : P.underlying T = some (.struct fs)) (h' : (fs[i]?).map (fun f => (f.type, f.offset)) = some (U, off)) (hs : Size P U sz) : Fld P T i U off sz := by
  cases hi : fs[i]? with
  | none => rw [hi] at h'; cases h'
  | some f =>
    rw [hi] at h'
    simp only [Option.map_some, Option.some.injEq, Prod.mk.injEq] at h'
    exact ⟨fs, f, h, hi, h'.1, h'.2, hs⟩
end

section
variable {P : Program} {n : Nat} {E : Env} {w w' : World} {op : Op} {T : TypeId} {v : Value} {pos : String} {af : Array Edge} {d : Nat} {l : List Oper} {ops : Array Oper} {KE : Env → World → Prop}

theorem wl (hy : Y P E op T w v w') (hd : Nat.blt d n = true) (h : WL P n ops KE l ((d, v) :: E) w') :
    WL P n ops KE (⟨some d, op, T, pos, af, none⟩ :: l) E w := wl_put (fun a ha => hy a ha _ _ _ _) hd h
theorem wls (hy : YS P E op T w w') (h : WL P n ops KE l E w') :
    WL P n ops KE (⟨none, op, T, pos, af, none⟩ :: l) E w := wl_skip (fun a ha => hy a ha _ _ _ _) h
theorem wln (hy : Y P E op T w v w') (h : WL P n ops KE l E w') :
    WL P n ops KE (⟨none, op, T, pos, af, none⟩ :: l) E w := by
  intro a hn ha
  refine wpList_plain rfl fun C hC => ?_
  unfold Oper.wp
  rw [hy a ha]
  exact hC _ _ (h _ hn ha)

theorem Y.val {u : Value} (h : Y P E op T w v w') (e : v = u) : Y P E op T w u w' := e ▸ h
theorem y_move {x : Operand} (hx : ev E x = some v) : Y P E (.move x) T w v w := by
  intro a ha d pos af g; simp [execOp, Pure.pure, Sem.run, ev_sound ha hx]
theorem y_assign {x : Operand} (hx : ev E x = some v) : Y P E (.assign x) T w v w := by
  intro a ha d pos af g; simp [execOp, Pure.pure, Sem.run, ev_sound ha hx]
theorem y_pick {c x y : Operand} {b : Bool} {u : Value} (hc : ev E c = some (.bool b)) (hx : ev E x = some v) (hy : ev E y = some u) : Y P E (.pick c x y) T w (if b then v else u) w := by
  intro a ha d pos af g; simp [execOp, Bind.bind, Sem.bind, Pure.pure, Sem.run, asBool, ev_sound ha hx, ev_sound ha hc, ev_sound ha hy]
theorem y_pickT {c x y : Operand} (hc : ev E c = some (.bool true)) (hx : ev E x = some v) : Y P E (.pick c x y) T w v w := by
  intro a ha d pos af g; simp [execOp, Bind.bind, Sem.bind, Pure.pure, Sem.run, asBool, ev_sound ha hx, ev_sound ha hc]
theorem y_pickF {c x y : Operand} (hc : ev E c = some (.bool false)) (hy : ev E y = some v) : Y P E (.pick c x y) T w v w := by
  intro a ha d pos af g; simp [execOp, Bind.bind, Sem.bind, Pure.pure, Sem.run, asBool, ev_sound ha hy, ev_sound ha hc]
theorem y_nil {x : Operand} {ad : Addr} (hx : ev E x = some (.pointer (some ad))) : Y P E (.nilCheck x) T w (.pointer (some ad)) w := by
  intro a ha d pos af g; simp [execOp, Bind.bind, Sem.bind, Pure.pure, Sem.run, ev_sound ha hx]
theorem y_nilF {x : Operand} {f : FuncId} {c : Array Value} (hx : ev E x = some (.func (.func f) #[] c)) : Y P E (.nilCheck x) T w (.func (.func f) #[] c) w := by
  intro a ha d pos af g; simp [execOp, Bind.bind, Sem.bind, Pure.pure, Sem.run, ev_sound ha hx]

/-! integers -/
theorem y_add {x y : Operand} {k : IntKind} {a b r : Int} {U V : TypeId} (hx : ev E x = some (.int k a)) (hy : ev E y = some (.int k b)) (hr : k.wrap (a + b) = r) :
    Y P E (.binOp .add U x y V) T w (.int k r) w := by
  intro c ha d pos af g
  simp [execOp, Bind.bind, Sem.bind, Pure.pure, Sem.run, eqGuard, binOp, Op.intArith, ev_sound ha hx, ev_sound ha hy, hr]
theorem y_sub {x y : Operand} {k : IntKind} {a b r : Int} {U V : TypeId} (hx : ev E x = some (.int k a)) (hy : ev E y = some (.int k b)) (hr : k.wrap (a - b) = r) :
    Y P E (.binOp .sub U x y V) T w (.int k r) w := by
  intro c ha d pos af g
  simp [execOp, Bind.bind, Sem.bind, Pure.pure, Sem.run, eqGuard, binOp, Op.intArith, ev_sound ha hx, ev_sound ha hy, hr]
theorem y_mul {x y : Operand} {k : IntKind} {a b r : Int} {U V : TypeId} (hx : ev E x = some (.int k a)) (hy : ev E y = some (.int k b)) (hr : k.wrap (a * b) = r) :
    Y P E (.binOp .mul U x y V) T w (.int k r) w := by
  intro c ha d pos af g
  simp [execOp, Bind.bind, Sem.bind, Pure.pure, Sem.run, eqGuard, binOp, Op.intArith, ev_sound ha hx, ev_sound ha hy, hr]
theorem y_quo {x y : Operand} {k : IntKind} {a b r : Int} {U V : TypeId} (hx : ev E x = some (.int k a)) (hy : ev E y = some (.int k b)) (hb : b ≠ 0) (hr : k.wrap (a.tdiv b) = r) :
    Y P E (.binOp .quo U x y V) T w (.int k r) w := by
  intro c ha d pos af g
  simp [execOp, Bind.bind, Sem.bind, Pure.pure, Sem.run, eqGuard, binOp, Op.intDiv, ev_sound ha hx, ev_sound ha hy, hr, hb]
theorem y_rem {x y : Operand} {k : IntKind} {a b r : Int} {U V : TypeId} (hx : ev E x = some (.int k a)) (hy : ev E y = some (.int k b)) (hb : b ≠ 0) (hr : a.tmod b = r) :
    Y P E (.binOp .rem U x y V) T w (.int k r) w := by
  intro c ha d pos af g
  simp [execOp, Bind.bind, Sem.bind, Pure.pure, Sem.run, eqGuard, binOp, Op.intDiv, ev_sound ha hx, ev_sound ha hy, hr, hb]
theorem y_and {x y : Operand} {k : IntKind} {a b r : Int} {U V : TypeId} (hx : ev E x = some (.int k a)) (hy : ev E y = some (.int k b)) (hr : k.wrap ((BitVec.ofInt k.bits a &&& BitVec.ofInt k.bits b).toNat : Int) = r) :
    Y P E (.binOp .and U x y V) T w (.int k r) w := by
  intro c ha d pos af g
  subst hr
  simp [execOp, Bind.bind, Sem.bind, Pure.pure, Sem.run, eqGuard, binOp, Op.intBits, ev_sound ha hx, ev_sound ha hy]
theorem y_or {x y : Operand} {k : IntKind} {a b r : Int} {U V : TypeId} (hx : ev E x = some (.int k a)) (hy : ev E y = some (.int k b)) (hr : k.wrap ((BitVec.ofInt k.bits a ||| BitVec.ofInt k.bits b).toNat : Int) = r) :
    Y P E (.binOp .or U x y V) T w (.int k r) w := by
  intro c ha d pos af g
  subst hr
  simp [execOp, Bind.bind, Sem.bind, Pure.pure, Sem.run, eqGuard, binOp, Op.intBits, ev_sound ha hx, ev_sound ha hy]
theorem y_xor {x y : Operand} {k : IntKind} {a b r : Int} {U V : TypeId} (hx : ev E x = some (.int k a)) (hy : ev E y = some (.int k b)) (hr : k.wrap ((BitVec.ofInt k.bits a ^^^ BitVec.ofInt k.bits b).toNat : Int) = r) :
    Y P E (.binOp .xor U x y V) T w (.int k r) w := by
  intro c ha d pos af g
  subst hr
  simp [execOp, Bind.bind, Sem.bind, Pure.pure, Sem.run, eqGuard, binOp, Op.intBits, ev_sound ha hx, ev_sound ha hy]
theorem y_shl {x y : Operand} {k k' : IntKind} {a b r : Int} {U V : TypeId} (hx : ev E x = some (.int k a)) (hy : ev E y = some (.int k' b)) (hb : 0 ≤ b) (hr : k.wrap (a * 2 ^ (min b.toNat k.bits)) = r) :
    Y P E (.binOp .shl U x y V) T w (.int k r) w := by
  intro c ha d pos af g
  simp [execOp, Bind.bind, Sem.bind, Pure.pure, Sem.run, eqGuard, binOp, Op.shift, ev_sound ha hx, ev_sound ha hy, hr, Int.not_lt.2 hb]
theorem y_shr {x y : Operand} {k k' : IntKind} {a b r : Int} {U V : TypeId} (hx : ev E x = some (.int k a)) (hy : ev E y = some (.int k' b)) (hb : 0 ≤ b) (hr : a.fdiv (2 ^ (min b.toNat k.bits)) = r) :
    Y P E (.binOp .shr U x y V) T w (.int k r) w := by
  intro c ha d pos af g
  simp [execOp, Bind.bind, Sem.bind, Pure.pure, Sem.run, eqGuard, binOp, Op.shift, ev_sound ha hx, ev_sound ha hy, hr, Int.not_lt.2 hb]
theorem y_lss {x y : Operand} {k : IntKind} {a b : Int} {U V : TypeId} (hx : ev E x = some (.int k a)) (hy : ev E y = some (.int k b)) :
    Y P E (.binOp .lss U x y V) T w (.bool (decide (a < b))) w := by
  intro c ha d pos af g
  simp [execOp, Bind.bind, Sem.bind, Pure.pure, Sem.run, eqGuard, binOp, Op.intCmp, ev_sound ha hx, ev_sound ha hy]
theorem y_leq {x y : Operand} {k : IntKind} {a b : Int} {U V : TypeId} (hx : ev E x = some (.int k a)) (hy : ev E y = some (.int k b)) :
    Y P E (.binOp .leq U x y V) T w (.bool (decide (a ≤ b))) w := by
  intro c ha d pos af g
  simp [execOp, Bind.bind, Sem.bind, Pure.pure, Sem.run, eqGuard, binOp, Op.intCmp, ev_sound ha hx, ev_sound ha hy]
theorem y_gtr {x y : Operand} {k : IntKind} {a b : Int} {U V : TypeId} (hx : ev E x = some (.int k a)) (hy : ev E y = some (.int k b)) :
    Y P E (.binOp .gtr U x y V) T w (.bool (decide (a > b))) w := by
  intro c ha d pos af g
  simp [execOp, Bind.bind, Sem.bind, Pure.pure, Sem.run, eqGuard, binOp, Op.intCmp, ev_sound ha hx, ev_sound ha hy]
theorem y_geq {x y : Operand} {k : IntKind} {a b : Int} {U V : TypeId} (hx : ev E x = some (.int k a)) (hy : ev E y = some (.int k b)) :
    Y P E (.binOp .geq U x y V) T w (.bool (decide (a ≥ b))) w := by
  intro c ha d pos af g
  simp [execOp, Bind.bind, Sem.bind, Pure.pure, Sem.run, eqGuard, binOp, Op.intCmp, ev_sound ha hx, ev_sound ha hy]
theorem y_eql {x y : Operand} {k : IntKind} {a b : Int} {U V : TypeId} (hx : ev E x = some (.int k a)) (hy : ev E y = some (.int k b)) :
    Y P E (.binOp .eql U x y V) T w (.bool (decide (a = b))) w := by
  intro c ha d pos af g
  have e : (a == b) = decide (a = b) := by by_cases h : a = b <;> simp [h]
  simp [execOp, Bind.bind, Sem.bind, Pure.pure, Sem.run, eqGuard, binOp, Op.intCmp, ev_sound ha hx, ev_sound ha hy, e]
theorem y_neq {x y : Operand} {k : IntKind} {a b : Int} {U V : TypeId} (hx : ev E x = some (.int k a)) (hy : ev E y = some (.int k b)) :
    Y P E (.binOp .neq U x y V) T w (.bool (!decide (a = b))) w := by
  intro c ha d pos af g
  have e : (a != b) = !decide (a = b) := by by_cases h : a = b <;> simp [h]
  simp [execOp, Bind.bind, Sem.bind, Pure.pure, Sem.run, eqGuard, binOp, Op.intCmp, ev_sound ha hx, ev_sound ha hy, e]
theorem equalIn_bool {a b : Bool} {U : TypeId} {k : Nat} (hU : P.underlying U = some .bool) : (Op.equalIn (k + 1) U (.bool a) (.bool b)).run P w = .ok (a == b) w := by
  unfold Op.equalIn
  simp [underlying, program, Bind.bind, Sem.bind, Pure.pure, Sem.run, hU]
theorem equal_of {x y : Value} {U : TypeId} {r : Bool} (h : (Op.equalIn (9999 + 1) U x y).run P w = .ok r w) : (Op.equal U x y).run P w = .ok r w := h
theorem y_beq {x y : Operand} {a b : Bool} {U V : TypeId} (hU : P.underlying U = some .bool) (hx : ev E x = some (.bool a)) (hy : ev E y = some (.bool b)) :
    Y P E (.binOp .eql U x y V) T w (.bool (a == b)) w := by
  intro c ha d pos af g
  simp only [execOp, ev_sound ha hx, ev_sound ha hy]
  have h1 := equal_of (equalIn_bool (w := w) (a := a) (b := b) hU)
  exact (Sem.run_bind_ok' (Sem.run_bind_ok' h1)).trans rfl
theorem y_beqT {x y : Operand} {a : Bool} {U V : TypeId} (hU : P.underlying U = some .bool) (hx : ev E x = some (.bool a)) (hy : ev E y = some (.bool a)) :
    Y P E (.binOp .eql U x y V) T w (.bool true) w := by
  have h := y_beq (P := P) (T := T) (w := w) (V := V) hU hx hy
  rw [beq_self_eq_true] at h; exact h
theorem y_bne {x y : Operand} {a b : Bool} {U V : TypeId} (hU : P.underlying U = some .bool) (hx : ev E x = some (.bool a)) (hy : ev E y = some (.bool b)) :
    Y P E (.binOp .neq U x y V) T w (.bool (!(a == b))) w := by
  intro c ha d pos af g
  simp only [execOp, ev_sound ha hx, ev_sound ha hy]
  have h1 := equal_of (equalIn_bool (w := w) (a := a) (b := b) hU)
  exact (Sem.run_bind_ok' (Sem.run_bind_ok' h1)).trans rfl
theorem y_not {x : Operand} {b : Bool} {U : TypeId} (hx : ev E x = some (.bool b)) : Y P E (.unOp .not U x) T w (.bool (!b)) w := by
  intro c ha d pos af g
  simp [execOp, Bind.bind, Sem.bind, Pure.pure, Sem.run, Op.unary, ev_sound ha hx]
theorem y_neg {x : Operand} {k : IntKind} {a r : Int} {U : TypeId} (hx : ev E x = some (.int k a)) (hr : k.wrap (0 - a) = r) : Y P E (.unOp .neg U x) T w (.int k r) w := by
  intro c ha d pos af g
  have hr' : k.wrap (-a) = r := by rw [← hr]; congr 1; omega
  simp [execOp, Bind.bind, Sem.bind, Pure.pure, Sem.run, Op.unary, Op.intArith, ev_sound ha hx, hr, hr']
theorem y_compl {x : Operand} {k : IntKind} {a r : Int} {U : TypeId} (hx : ev E x = some (.int k a)) (hr : k.wrap ((BitVec.ofInt k.bits (if k.signed then -1 else k.max) ^^^ BitVec.ofInt k.bits a).toNat : Int) = r) : Y P E (.unOp .xor U x) T w (.int k r) w := by
  intro c ha d pos af g
  subst hr
  simp [execOp, Bind.bind, Sem.bind, Pure.pure, Sem.run, Op.unary, Op.intBits, ev_sound ha hx]
theorem y_conv {x : Operand} {k k' : IntKind} {a r : Int} {U V : TypeId} {dU : TypeDesc} (hU : P.underlying U = some dU) (hV : P.underlying V = some (.int k)) (hx : ev E x = some (.int k' a)) (hr : k.wrap a = r) : Y P E (.convert U V x) T w (.int k r) w := by
  intro c ha d pos af g
  simp [execOp, Bind.bind, Sem.bind, Pure.pure, Sem.run, convert, underlying, program, Conv.intToInt, ev_sound ha hx, hr, hU, hV]
theorem y_min {x y : Operand} {k : IntKind} {a b : Int} {ts : Array TypeId} (hx : ev E x = some (.int k a)) (hy : ev E y = some (.int k b)) :
    Y P E (.call ⟨.builtin .min, #[x, y], ts⟩) T w (.int k (min a b)) w := by
  intro c ha d pos af g
  have e : (if b < a then b else a) = min a b := by omega
  simp [execOp, Bind.bind, Sem.bind, Pure.pure, Sem.run, resolve, invoke, builtin, Builtin.min_, Builtin.min2, ev_sound ha hx, ev_sound ha hy, List.foldlM, e]
theorem y_max {x y : Operand} {k : IntKind} {a b : Int} {ts : Array TypeId} (hx : ev E x = some (.int k a)) (hy : ev E y = some (.int k b)) :
    Y P E (.call ⟨.builtin .max, #[x, y], ts⟩) T w (.int k (max a b)) w := by
  intro c ha d pos af g
  have e : (if a < b then b else a) = max a b := by omega
  simp [execOp, Bind.bind, Sem.bind, Pure.pure, Sem.run, resolve, invoke, builtin, Builtin.max_, Builtin.max2, ev_sound ha hx, ev_sound ha hy, List.foldlM, e]

/-! strings -/
theorem y_sadd {x y : Operand} {s t : ByteArray} {U V : TypeId} (hx : ev E x = some (.string s)) (hy : ev E y = some (.string t)) (hs : s.size + t.size ≤ 9223372036854775807) :
    Y P E (.binOp .add U x y V) T w (.string (s ++ t)) w := by
  intro c ha d pos af g
  have h' : ¬ (9223372036854775807 < (s.size : Int) + (t.size : Int)) := by omega
  simp [execOp, Bind.bind, Sem.bind, Pure.pure, Sem.run, eqGuard, binOp, Op.stringOp, ev_sound ha hx, ev_sound ha hy, h']
theorem bytes_eq {a b : ByteArray} (h : a.data.toList = b.data.toList) : a = b := by
  cases a; cases b; simp only [ByteArray.mk.injEq]; exact Array.toList_inj.1 h
theorem beq_toList (s t : ByteArray) : (s.toList == t.toList) = decide (s = t) := by
  by_cases h : s = t
  · simp [h]
  · have : s.toList ≠ t.toList := by
      intro e
      rw [ByteArray.toList_eq, ByteArray.toList_eq] at e
      exact h (bytes_eq e)
    simp [h, this]
theorem y_seql {x y : Operand} {s t : ByteArray} {U V : TypeId} (hx : ev E x = some (.string s)) (hy : ev E y = some (.string t)) :
    Y P E (.binOp .eql U x y V) T w (.bool (decide (s = t))) w := by
  intro c ha d pos af g
  have e := beq_toList s t
  simp only [execOp, Bind.bind, Sem.bind, Pure.pure, Sem.run, eqGuard, binOp, Op.stringOp, ev_sound ha hx, ev_sound ha hy, e]
  simp [Sem.bind, Sem.run]
theorem y_sneq {x y : Operand} {s t : ByteArray} {U V : TypeId} (hx : ev E x = some (.string s)) (hy : ev E y = some (.string t)) :
    Y P E (.binOp .neq U x y V) T w (.bool (!decide (s = t))) w := by
  intro c ha d pos af g
  have e := beq_toList s t
  simp only [execOp, Bind.bind, Sem.bind, Pure.pure, Sem.run, eqGuard, binOp, Op.stringOp, ev_sound ha hx, ev_sound ha hy, e]
  simp [Sem.bind, Sem.run]
theorem y_len_s {x : Operand} {s : ByteArray} {U : TypeId} (hU : P.underlying U = some .string) (hx : ev E x = some (.string s)) :
    Y P E (.call ⟨.builtin .len, #[x], #[U]⟩) T w (.int .i64 s.size) w := by
  intro c ha d pos af g
  simp [execOp, Bind.bind, Sem.bind, Pure.pure, Sem.run, resolve, invoke, builtin, Builtin.len_, underlying, program, goInt, ev_sound ha hx, hU]
theorem y_len_sl {x : Operand} {ad : Option Addr} {m cp : Nat} {U e : TypeId} (hU : P.underlying U = some (.slice e)) (hx : ev E x = some (.slice ad m cp)) :
    Y P E (.call ⟨.builtin .len, #[x], #[U]⟩) T w (.int .i64 m) w := by
  intro c ha d pos af g
  simp [execOp, Bind.bind, Sem.bind, Pure.pure, Sem.run, resolve, invoke, builtin, Builtin.len_, underlying, program, goInt, ev_sound ha hx, hU]
theorem y_len_ar {x : Operand} {u : Value} {m : Nat} {U e : TypeId} (hU : P.underlying U = some (.array m e)) (hx : ev E x = some u) :
    Y P E (.call ⟨.builtin .len, #[x], #[U]⟩) T w (.int .i64 m) w := by
  intro c ha d pos af g
  simp [execOp, Bind.bind, Sem.bind, Pure.pure, Sem.run, resolve, invoke, builtin, Builtin.len_, underlying, program, goInt, ev_sound ha hx, hU]
theorem y_idx_s {x y : Operand} {s : ByteArray} {k : IntKind} {i : Int} {U : TypeId} {b : UInt8} (hU : P.underlying U = some .string) (hx : ev E x = some (.string s)) (hy : ev E y = some (.int k i))
    (h0 : 0 ≤ i) (hb : s[i.toNat]? = some b) : Y P E (.index U x y) T w (.int .u8 b.toNat) w := by
  intro c ha d pos af g
  simp [execOp, Bind.bind, Sem.bind, Pure.pure, Sem.run, Instr.index, asIntOf, underlying, program, ev_sound ha hx, ev_sound ha hy, hU, h0, hb]
theorem y_sl_s {x : Operand} {s r : ByteArray} {U : TypeId} {lo hi : Option Operand} {lv hv : Nat} (hU : P.underlying U = some .string) (hx : ev E x = some (.string s))
    (hl : match lo with | none => lv = 0 | some o => ∃ k i, ev E o = some (.int k i) ∧ 0 ≤ i ∧ i.toNat = lv)
    (hh : match hi with | none => hv = s.size | some o => ∃ k i, ev E o = some (.int k i) ∧ 0 ≤ i ∧ i.toNat = hv)
    (h1 : lv ≤ hv) (h2 : hv ≤ s.size) (hr : s.extract lv hv = r) : Y P E (.slice U x lo hi none) T w (.string r) w := by
  intro c ha d pos af g
  subst hr
  have e1 : ∀ {z : Operand} {k : IntKind} {i : Int}, ev E z = some (.int k i) → c.eval z = .int k i := fun h => ev_sound ha h
  cases lo with
  | none =>
    simp only at hl
    subst hl
    cases hi with
    | none =>
      simp only at hh
      subst hh
      simp [execOp, Bind.bind, Sem.bind, Pure.pure, Sem.run, Instr.sliceAt, Instr.slice, Instr.sliceBounds, Instr.sliceBound, asIntOf, underlying, program, ev_sound ha hx, hU]
    | some o =>
      simp only at hh
      obtain ⟨k, i, h3, h4, h5⟩ := hh
      have h6 : i ≤ (s.size : Int) := by omega
      simp [execOp, Bind.bind, Sem.bind, Pure.pure, Sem.run, Instr.sliceAt, Instr.slice, Instr.sliceBounds, Instr.sliceBound, asIntOf, underlying, program, ev_sound ha hx, hU, e1 h3, h4, h5, h6]
  | some q =>
    simp only at hl
    obtain ⟨k, i, h3, h4, h5⟩ := hl
    have h6 : i ≤ (hv : Int) := by omega
    cases hi with
    | none =>
      simp only at hh
      subst hh
      simp [execOp, Bind.bind, Sem.bind, Pure.pure, Sem.run, Instr.sliceAt, Instr.slice, Instr.sliceBounds, Instr.sliceBound, asIntOf, underlying, program, ev_sound ha hx, hU, e1 h3, h4, h5, h6]
    | some o =>
      simp only at hh
      obtain ⟨k', i', h3', h4', h5'⟩ := hh
      have h6' : i' ≤ (s.size : Int) := by omega
      have h7 : i ≤ i' := by omega
      have h8 : i ≤ ((i'.toNat : Nat) : Int) := by omega
      simp [execOp, Bind.bind, Sem.bind, Pure.pure, Sem.run, Instr.sliceAt, Instr.slice, Instr.sliceBounds, Instr.sliceBound, asIntOf, underlying, program, ev_sound ha hx, hU, e1 h3, h4, h5, e1 h3', h4', h5', h6', h6, h7, h8]

theorem y_extract {x : Operand} {vs : List Value} {i : Nat} (hx : ev E x = some (.tuple vs.toArray)) (hv : vs[i]? = some v) : Y P E (.extract x i) T w v w := by
  intro c ha d pos af g
  simp [execOp, Bind.bind, Sem.bind, Pure.pure, Sem.run, Instr.extract, ev_sound ha hx, hv]

end
end Go.Proofs.Ytipffnogkijmnaa.Eng
