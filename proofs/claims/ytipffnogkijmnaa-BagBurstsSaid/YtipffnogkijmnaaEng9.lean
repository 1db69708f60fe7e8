import Derived.Test.YtipffnogkijmnaaEng8
import Derived.Laws.StructEq
set_option linter.unusedVariables false
set_option linter.unusedSimpArgs false
namespace Go.Proofs.Ytipffnogkijmnaa.Eng
open Go

section
variable {P : Program} {n : Nat} {E : Env} {w w' : World} {T : TypeId} {v : Value} {M : Mem} {Ls Ls' : List Chunk}

/-! ### struct literals -/
/-- the fields' places -/
inductive Plc (P : Program) : List Field → List (Nat × Nat) → Prop
  | nil : Plc P [] []
  | cons {f : Field} {fs : List Field} {sz : Nat} {pl : List (Nat × Nat)} : Size P f.type sz → Plc P fs pl → Plc P (f :: fs) ((f.offset, sz) :: pl)
theorem Plc.run {fs : List Field} {pl : List (Nat × Nat)} (h : Plc P fs pl) : (fs.toArray.mapM (m := Sem) fun f => do pure (f.offset, ← sizeOf f.type)).run P w = .ok pl.toArray w := by
  rw [List.mapM_toArray]
  have : (fs.mapM (m := Sem) fun f => do pure (f.offset, ← sizeOf f.type)).run P w = .ok pl w := by
    induction h with
    | nil => rfl
    | cons h1 _ ih =>
      rw [List.mapM_cons]
      refine (Sem.run_bind_ok' (w' := w) ((run_sizeOf h1 _).trans rfl)).trans ?_
      exact (Sem.run_bind_ok' ih).trans rfl
  exact (Sem.run_bind_ok' this).trans rfl
/-- a struct's cells, filled -/
def fillL (pl : List (Nat × Nat)) (cs : List Value) : List (Nat × List Value) → Option (List Value)
  | [] => some cs
  | (i, vs) :: r => match pl[i]? with
    | none => none
    | some (off, sz) => bif Nat.beq vs.length sz && Nat.ble (off + sz) cs.length then fillL pl (cs.take off ++ vs ++ cs.drop (off + sz)) r else none
theorem fillL_fill (pl : List (Nat × Nat)) : ∀ (ps : List (Nat × Value)) (cs out : List Value), fillL pl cs (ps.map fun x => (x.1, x.2.cells.toList)) = some out → Instr.fill (pl.toArray[·]?) cs.toArray ps = some out.toArray
  | [], cs, out, h => by simp only [List.map_nil, fillL, Option.some.injEq] at h; subst h; rfl
  | (i, v) :: ps, cs, out, h => by
    simp only [List.map_cons, fillL] at h
    cases hp : pl[i]? with
    | none => rw [hp] at h; cases h
    | some p =>
      obtain ⟨off, sz⟩ := p
      rw [hp] at h
      simp only at h
      cases hc : (Nat.beq v.cells.toList.length sz && Nat.ble (off + sz) cs.length) with
      | false => rw [hc] at h; cases h
      | true =>
        rw [hc] at h
        simp only [cond_true] at h
        simp only [Bool.and_eq_true] at hc
        have h1 : v.cells.toList.length = sz := Nat.eq_of_beq_eq_true hc.1
        have h2 : off + sz ≤ cs.length := Nat.le_of_ble_eq_true hc.2
        have h1' : v.cells.size = sz := by simpa using h1
        have hp' : pl.toArray[i]? = some (off, sz) := by simpa using hp
        unfold Instr.fill
        rw [hp']
        simp only
        have hn : (v.cells.size ≠ sz || off + v.cells.size > cs.toArray.size) = false := by
          simp only [h1', ne_eq, not_true_eq_false, decide_false, Bool.false_or, decide_eq_false_iff_not, List.size_toArray]; omega
        rw [hn]
        simp only [Bool.false_eq_true, if_false]
        have e1 : (v.cells.zipIdx.foldl (fun cs (x : Value × Nat) => cs.setIfInBounds (off + x.2) x.1) cs.toArray) = (cs.take off ++ v.cells.toList ++ cs.drop (off + sz)).toArray := by
          rw [← Array.foldl_toList]
          have : v.cells.zipIdx.toList = v.cells.toList.zipIdx 0 := by simp
          rw [this, foldl_set, Nat.add_zero]
          have hsp : cs = cs.take off ++ (cs.drop off).take sz ++ cs.drop (off + sz) := by
            rw [List.append_assoc, ← List.drop_drop, List.take_append_drop, List.take_append_drop]
          have htl : (cs.take off).length = off := by rw [List.length_take]; omega
          have h5 := setCells_mid (cs.take off) ((cs.drop off).take sz) (cs.drop (off + sz)) v.cells.toList (by rw [h1, List.length_take, List.length_drop]; omega)
          rw [← hsp, htl] at h5
          exact h5
        have e2 : (v.cells.zipIdx.foldl (fun cs (c, j) => cs.setIfInBounds (off + j) c) cs.toArray) = (cs.take off ++ v.cells.toList ++ cs.drop (off + sz)).toArray := e1
        rw [e2]
        exact fillL_fill pl ps _ out h

theorem y_build {U : TypeId} {pl : List (Nat × Nat)} {zs out : List Value} {is : List Nat} {xs : List Operand} {vs : List Value} (hp : ∃ fs : List Field, P.underlying U = some (.struct fs.toArray) ∧ Plc P fs pl) (hz : Zero P U (.agg zs.toArray))
    (hv : Evs E xs vs) (hf : fillL pl zs (is.zip (vs.map fun v => v.cells.toList)) = some out) :
    Y P E (.build U (is.zip xs).toArray) T w (.agg out.toArray) w := by
  obtain ⟨fs, hU, hpl⟩ := hp
  intro a ha d pos af g
  have h1 := Evs.sound ha hv
  have hparts : (is.zip xs).map (fun x => (x.1, a.eval x.2)) = is.zip vs := by
    rw [← h1, List.zip_map_right]
    rfl
  have hr : (Instr.build U (Array.map (fun x => (x.1, a.eval x.2)) (is.zip xs).toArray)).run P w = .ok (.agg out.toArray) w := by
    rw [List.map_toArray, hparts]
    unfold Instr.build
    rw [run_zero hz, run_und hU]
    simp only
    rw [Sem.run_bind_ok' hpl.run]
    have hcs : (Value.agg zs.toArray).cells = zs.toArray := rfl
    rw [hcs, fillL_fill pl (is.zip vs) zs out (by
      rw [← hf]; congr 1
      rw [List.zip_map_right]; rfl)]
    rfl
  simp only [execOp]
  exact (Sem.run_bind_ok' hr).trans rfl

/-! ### equality of structs -/
def EqIn (P : Program) (d : Nat) (U : TypeId) (x y : Value) (r : Bool) : Prop := ∀ w, (Op.equalIn d U x y).run P w = .ok r w
def EqF (P : Program) (d : Nat) (vs us : List Value) (fs : List Field) (r : Bool) : Prop := ∀ w, (Op.eqFields d vs.toArray us.toArray fs).run P w = .ok r w
theorem eq_i {d : Nat} {U : TypeId} {k k' : IntKind} {a b : Int} (h : P.underlying U = some (.int k')) : EqIn P (d + 1) U (.int k a) (.int k b) (decide (a = b)) := fun w => by
  rw [run_equalIn_int w d U k k' a b h]
  rfl
theorem eq_b {d : Nat} {U : TypeId} {a b : Bool} (h : P.underlying U = some .bool) : EqIn P (d + 1) U (.bool a) (.bool b) (decide (a = b)) := fun w => by
  rw [equalIn_bool h]
  cases a <;> cases b <;> rfl
theorem eq_s {d : Nat} {U : TypeId} {a b : ByteArray} (h : P.underlying U = some .string) : EqIn P (d + 1) U (.string a) (.string b) (decide (a = b)) := fun w => by
  rw [run_equalIn_string w d U a b h, beq_toList]
theorem eqf_nil {d : Nat} {vs us : List Value} : EqF P d vs us [] true := fun w => rfl
theorem eqf_step {d : Nat} {vs us : List Value} {f : Field} {fs : List Field} {a b : Value} {r s : Bool} (hn : (f.name == "_") = false) (ha : ∀ w, (part f.type vs.toArray f.offset).run P w = .ok a w) (hb : ∀ w, (part f.type us.toArray f.offset).run P w = .ok b w) (he : EqIn P d f.type a b r) (hr : EqF P d vs us fs s) : EqF P d vs us (f :: fs) (r && s) := fun w => by
  have hn' : f.name ≠ "_" := by simpa using hn
  rw [Op.eqFields]
  simp only [if_pos hn', Sem.run_bind, ha w, hb w, he w, Result.andThen_ok]
  cases r
  · simp
  · simpa using hr w
theorem part_plain {U : TypeId} {vs : List Value} {o : Nat} (hp : Plain P U) (hv : vs[o]? = some v) : (part U vs.toArray o).run P w = .ok v w := by
  unfold part
  rw [run_isAgg_plain hp]
  simp [hv, Pure.pure, Sem.run]
theorem part_struct {U : TypeId} {vs us : List Value} {o sz : Nat} (hp : IsStruct P U) (hk : Size P U sz) (hv : (vs.drop o).take sz = us) : (part U vs.toArray o).run P w = .ok (.agg us.toArray) w := by
  unfold part
  rw [run_isAgg_struct hp]
  simp only [if_true]
  rw [run_sizeOf hk]
  simp only [Pure.pure, Sem.run]
  congr 2
  rw [← hv]
  apply Array.ext'
  simp [List.take_drop, Nat.add_comm]
theorem eqf_p {d : Nat} {vs us : List Value} {f : Field} {fs : List Field} {a b : Value} {r s : Bool} (hn : (f.name == "_") = false) (hp : Plain P f.type) (ha : vs[f.offset]? = some a) (hb : us[f.offset]? = some b) (he : EqIn P d f.type a b r) (hr : EqF P d vs us fs s) : EqF P d vs us (f :: fs) (r && s) :=
  eqf_step hn (fun _ => part_plain hp ha) (fun _ => part_plain hp hb) he hr
theorem eqf_st {d sz : Nat} {vs us as bs : List Value} {f : Field} {fs : List Field} {r s : Bool} (hn : (f.name == "_") = false) (hp : IsStruct P f.type) (hk : Size P f.type sz) (ha : (vs.drop f.offset).take sz = as) (hb : (us.drop f.offset).take sz = bs) (he : EqIn P d f.type (.agg as.toArray) (.agg bs.toArray) r) (hr : EqF P d vs us fs s) : EqF P d vs us (f :: fs) (r && s) :=
  eqf_step hn (fun _ => part_struct hp hk ha) (fun _ => part_struct hp hk hb) he hr
theorem eq_st {d : Nat} {U : TypeId} {vs us : List Value} {fs : List Field} {r : Bool} (hU : P.underlying U = some (.struct fs.toArray)) (hp : P.stoodInHeld U = false) (h : EqF P d vs us fs r) : EqIn P (d + 1) U (.agg vs.toArray) (.agg us.toArray) r := fun w => by
  have hf : P.fieldsOf U = fs.toArray := by simp [Program.fieldsOf, hU]
  rw [run_equalIn_struct (P := P) w d U _ _ (by rw [hf]; exact hU) hp, hf]
  exact h w
theorem y_eqS {x y : Operand} {U V : TypeId} {vs us : List Value} {r : Bool} (hg : P.eqGuardType P.depth U = false) (hx : ev E x = some (.agg vs.toArray)) (hy : ev E y = some (.agg us.toArray)) (h : EqIn P 10000 U (.agg vs.toArray) (.agg us.toArray) r) : Y P E (.binOp .eql U x y V) T w (.bool r) w := by
  intro c ha d pos af g
  simp only [execOp, ev_sound ha hx, ev_sound ha hy]
  have h2 : (binOp .eql U (.agg vs.toArray) (.agg us.toArray)).run P w = .ok (.bool r) w := by rw [run_eql_struct, h w]; rfl
  exact (Sem.run_bind_ok' ((Sem.run_bind_ok' (run_eqGuard_agg w .eql U x y _ _ hg)).trans h2)).trans rfl
theorem y_neS {x y : Operand} {U V : TypeId} {vs us : List Value} {r : Bool} (hg : P.eqGuardType P.depth U = false) (hx : ev E x = some (.agg vs.toArray)) (hy : ev E y = some (.agg us.toArray)) (h : EqIn P 10000 U (.agg vs.toArray) (.agg us.toArray) r) : Y P E (.binOp .neq U x y V) T w (.bool (!r)) w := by
  intro c ha d pos af g
  simp only [execOp, ev_sound ha hx, ev_sound ha hy]
  have h2 : (binOp .neq U (.agg vs.toArray) (.agg us.toArray)).run P w = .ok (.bool (!r)) w := by rw [run_neq_struct, h w]; rfl
  exact (Sem.run_bind_ok' ((Sem.run_bind_ok' (run_eqGuard_agg w .neq U x y _ _ hg)).trans h2)).trans rfl
/-- a pointer, and nil -/
theorem y_pnil {x y : Operand} {U V e : TypeId} {p : Option Addr} (hU : P.underlying U = some (.pointer e)) (hx : ev E x = some (.pointer p)) (hy : ev E y = some (.pointer none)) : Y P E (.binOp .eql U x y V) T w (.bool p.isNone) w := by
  intro c ha d pos af g
  simp only [execOp, ev_sound ha hx, ev_sound ha hy]
  have h1 : (Op.equalIn (9999 + 1) U (.pointer p) (.pointer none)).run P w = .ok p.isNone w := by
    cases p <;> (unfold Op.equalIn; simp [underlying, program, Bind.bind, Sem.bind, Pure.pure, Sem.run, hU])
  exact (Sem.run_bind_ok' (Sem.run_bind_ok' (equal_of h1))).trans rfl
theorem y_pnnil {x y : Operand} {U V e : TypeId} {p : Option Addr} (hU : P.underlying U = some (.pointer e)) (hx : ev E x = some (.pointer p)) (hy : ev E y = some (.pointer none)) : Y P E (.binOp .neq U x y V) T w (.bool (!p.isNone)) w := by
  intro c ha d pos af g
  simp only [execOp, ev_sound ha hx, ev_sound ha hy]
  have h1 : (Op.equalIn (9999 + 1) U (.pointer p) (.pointer none)).run P w = .ok p.isNone w := by
    cases p <;> (unfold Op.equalIn; simp [underlying, program, Bind.bind, Sem.bind, Pure.pure, Sem.run, hU])
  exact (Sem.run_bind_ok' (Sem.run_bind_ok' (equal_of h1))).trans rfl
/-- a slice, and nil -/
theorem y_slnil {x y : Operand} {U V e : TypeId} {p : Option Addr} {m q : Nat} (hU : P.underlying U = some (.slice e)) (hx : ev E x = some (.slice p m q)) (hy : ev E y = some (.slice none 0 0)) : Y P E (.binOp .eql U x y V) T w (.bool p.isNone) w := by
  intro c ha d pos af g
  simp only [execOp, ev_sound ha hx, ev_sound ha hy]
  have h1 : (Op.equalIn (9999 + 1) U (.slice p m q) (.slice none 0 0)).run P w = .ok p.isNone w := by
    cases p <;> (unfold Op.equalIn; simp [underlying, program, Bind.bind, Sem.bind, Pure.pure, Sem.run, hU])
  exact (Sem.run_bind_ok' (Sem.run_bind_ok' (equal_of h1))).trans rfl
end

/-! ### slices of slices -/
section
variable {α : Type} {A : Enc α} {w : World} {e : TypeId} {xs : List α} {H : Chunk} {b off m c k lo hi : Nat}
theorem Own.cap {a : Option Addr} (h : Own e A (.slice a m c) xs H) : m = xs.length ∧ xs.length ≤ c := by
  rcases h with ⟨h1, rfl, rfl⟩ | ⟨b, off, cap, pre, sp, fz, h1, rfl, h2, h3, h4, h5⟩
  · simp only [Value.slice.injEq] at h1; obtain ⟨_, rfl, rfl⟩ := h1; exact ⟨rfl, Nat.le_refl _⟩
  · simp only [Value.slice.injEq] at h1; obtain ⟨_, rfl, rfl⟩ := h1; exact ⟨rfl, h3⟩
theorem cutV_0 : cutV (some ⟨b, off, none⟩) 0 hi c k = .slice (some ⟨b, off, none⟩) hi c := by
  unfold cutV
  split <;> simp [Addr.add_mk]
theorem cutV_lt (h : lo < c) : cutV (some ⟨b, off, none⟩) lo hi c k = .slice (some ⟨b, off + lo * k, none⟩) (hi - lo) (c - lo) := by
  unfold cutV
  rw [if_neg (by omega)]
  simp [Addr.add_mk]
theorem Holds.cut {a : Option Addr} (h : Holds w A (.slice a m c) xs) (hl : lo ≤ xs.length) (hc : xs.length ≤ c) : Holds w A (cutV a lo m c A.k) (xs.drop lo) := by
  have hm : m = xs.length := by
    obtain ⟨a', c', h1, _⟩ := h
    simp only [Value.slice.injEq] at h1
    exact h1.2.1
  subst hm
  by_cases e : lo = xs.length
  · subst e
    rw [List.drop_length]
    unfold cutV
    rw [Nat.sub_self]
    exact Holds.nil
  · obtain ⟨a', c', h1, h2⟩ := h
    simp only [Value.slice.injEq] at h1
    obtain ⟨rfl, _, rfl⟩ := h1
    rcases h2 with rfl | ⟨b, off, rfl, h2⟩
    · simp at hl; subst hl; simp at e
    · rw [cutV_lt (by omega)]
      exact Holds.drop (c := c) ⟨_, _, rfl, .inr ⟨b, off, rfl, h2⟩⟩ hl
end

section
variable {α : Type} {P : Program} {n : Nat} {E : Env} {w w' : World} {T : TypeId} {v : Value} {M : Mem} {Ls Ls' : List Chunk} {pos : String} {af : Array Edge} {d : Nat} {l : List Oper} {ops : Array Oper} {KE : Env → World → Prop} {A : Enc α}
theorem y_slTo {x h : Operand} {b off m c size hv : Nat} {k : IntKind} {i : Int} {U e : TypeId} (hU : P.underlying U = some (.slice e)) (he : Size P e size) (hx : ev E x = some (.slice (some ⟨b, off, none⟩) m c)) (hh : ev E h = some (.int k i)) (h0 : 0 ≤ i) (h1 : i.toNat = hv) (h2 : hv ≤ c) :
    Y P E (.slice U x none (some h) none) T w (.slice (some ⟨b, off, none⟩) hv c) w := by
  have := y_sl (P := P) (E := E) (T := T) (w := w) (lo := none) (hi := some h) (mx := none) (lv := 0) (hv := hv) (mv := c) hU he hx rfl ⟨k, i, hh, h0, h1, h2⟩ rfl
  rwa [cutV_0] at this
theorem y_slFrom {x h : Operand} {a : Option Addr} {m c size lv : Nat} {k : IntKind} {i : Int} {U e : TypeId} (hU : P.underlying U = some (.slice e)) (he : Size P e size) (hx : ev E x = some (.slice a m c)) (hh : ev E h = some (.int k i)) (h0 : 0 ≤ i) (h1 : i.toNat = lv) (h2 : lv ≤ m) :
    Y P E (.slice U x (some h) none none) T w (cutV a lv m c size) w :=
  y_sl (lo := some h) (hi := none) (mx := none) (lv := lv) (hv := m) (mv := c) hU he hx rfl ⟨rfl, rfl⟩ ⟨k, i, hh, h0, h1, h2⟩
theorem y_slPart {x g h : Operand} {a : Option Addr} {m c size lv hv : Nat} {k k' : IntKind} {i j : Int} {U e : TypeId} (hU : P.underlying U = some (.slice e)) (he : Size P e size) (hx : ev E x = some (.slice a m c)) (hg : ev E g = some (.int k i)) (hh : ev E h = some (.int k' j)) (g0 : 0 ≤ i) (g1 : i.toNat = lv) (h0 : 0 ≤ j) (h1 : j.toNat = hv) (h2 : lv ≤ hv) (h3 : hv ≤ c) :
    Y P E (.slice U x (some g) (some h) none) T w (cutV a lv hv c size) w :=
  y_sl (lo := some g) (hi := some h) (mx := none) (lv := lv) (hv := hv) (mv := c) hU he hx rfl ⟨k', j, hh, h0, h1, h3⟩ ⟨k, i, hg, g0, g1, h2⟩
/-- append that stays in its block -/
theorem a_append_in {e T1 T2 : TypeId} {x y : Operand} {u : Value} {b off cap m : Nat} {xs ys : List α} {H : Chunk} (h1 : P.underlying T1 = some (.slice e)) (h2 : P.underlying T2 = some (.slice e))
    (hk : Size P e A.k) (hx : ev E x = some (.slice (some ⟨b, off, none⟩) m cap)) (hy : ev E y = some u) (ho : Own e A (.slice (some ⟨b, off, none⟩) m cap) xs H) (hu : Holds w A u ys) (hS : St M w Ls) [Pull Ls H Ls'] (hc : m + ys.length ≤ cap) (hd : Nat.blt d n = true)
    (h : ∀ H' w', Own e A (.slice (some ⟨b, off, none⟩) (m + ys.length) cap) (xs ++ ys) H' → St M w' (H' :: Ls') → WL P n ops KE l ((d, .slice (some ⟨b, off, none⟩) (m + ys.length) cap) :: E) w') :
    WL P n ops KE (⟨some d, .call ⟨.builtin .append, #[x, y], #[T1, T2]⟩, T, pos, af, none⟩ :: l) E w := by
  obtain ⟨rfl, _⟩ := ho.cap
  obtain ⟨H', w', e1, e2, e3⟩ := x_append_in (T := T) (z := .bool true) (nb := 0) h1 h2 hk hx hy ho hu (hS.pull H) hc
  rw [List.length_append] at e1 e2
  exact wl e1 hd (h H' w' e2 e3)
theorem a_clear_spare {e U : TypeId} {x : Operand} {b off m cap r c' : Nat} {xs : List α} {H : Chunk} {z : Value} (hU : P.underlying U = some (.slice e)) (hz : Zero P e z) (hzk : z.cells.size = A.k) (hz1 : ∀ v ∈ z.cells.toList, oneC v = true)
    (hx : ev E x = some (.slice (some ⟨b, off + m * A.k, none⟩) r c')) (ho : Own e A (.slice (some ⟨b, off, none⟩) m cap) xs H) (hr : m + r ≤ cap) (hS : St M w Ls) [Pull Ls H Ls']
    (h : ∀ H' w', Own e A (.slice (some ⟨b, off, none⟩) m cap) xs H' → St M w' (H' :: Ls') → WL P n ops KE l E w') :
    WL P n ops KE (⟨none, .call ⟨.builtin .clear, #[x], #[U]⟩, T, pos, af, none⟩ :: l) E w := by
  obtain ⟨rfl, _⟩ := ho.cap
  obtain ⟨H', w', e1, e2, e3⟩ := x_clear_spare (T := T) hU hz hzk hz1 hx ho hr (hS.pull H)
  exact wln e1 (h H' w' e2 e3)
end

/-! ### chunks put in order -/
section
variable {M : Mem} {w : World} {Ls Ls' L1 T : List Chunk} {A : Chunk} {x : Nat × Obj}
instance (priority := 50) Pull.both [h1 : Pull Ls [x] L1] [h2 : Pull L1 A Ls'] : Pull Ls (x :: A) Ls' := ⟨by
  have e1 := h1.perm
  have e2 := h2.perm
  refine e1.trans ?_
  simpa using List.Perm.cons x e2⟩
instance (priority := 60) Pull.inHead : Pull ((x :: A) :: Ls) [x] (A :: Ls) := ⟨by simp⟩
instance (priority := 60) Pull.inTail : Pull ((x :: A) :: Ls) A ([x] :: Ls) := ⟨by
  simp only [List.flatten_cons, List.cons_append, List.nil_append]
  exact List.perm_middle.symm⟩
class Keep (Ls T : List Chunk) : Prop where
  ex : ∃ X, Ls.flatten.Perm (T.flatten ++ X)
instance (priority := 200) Keep.refl : Keep Ls Ls := ⟨[], by simp⟩
instance (priority := 100) Keep.cons [h : Pull Ls A L1] [k : Keep L1 T] : Keep Ls (A :: T) := ⟨by
  obtain ⟨X, hX⟩ := k.ex
  refine ⟨X, h.perm.trans ?_⟩
  simpa using List.Perm.append_left A hX⟩
instance (priority := 20) Keep.drop [k : Keep Ls T] : Keep (A :: Ls) T := ⟨by
  obtain ⟨X, hX⟩ := k.ex
  refine ⟨X ++ A, ?_⟩
  simp only [List.flatten_cons]
  refine (List.perm_append_comm).trans ?_
  rw [← List.append_assoc]
  exact List.Perm.append_right A hX⟩
theorem St.sub (h : St M w Ls) (X : Chunk) (e : Ls.flatten.Perm (T.flatten ++ X)) : St M w T :=
  ⟨h.imm, fun b o hm => h.own b o (e.mem_iff.2 (by simp only [List.mem_append]; exact .inl hm)), fun b o hm => h.apart b o (e.mem_iff.2 (by simp only [List.mem_append]; exact .inl hm)),
   by have := ((e.map _).nodup_iff).1 h.nodup; rw [List.map_append] at this; exact (List.nodup_append.1 this).1, h.io⟩
theorem St.keep (h : St M w Ls) [k : Keep Ls T] : St M w T := by
  obtain ⟨X, e⟩ := k.ex
  exact h.sub X e
theorem CellsAt.sub {b j a : Nat} {vs us : List Value} (h : CellsAt w b j vs) (e : (vs.drop a).take us.length = us) : CellsAt w b (j + a) us := by
  intro i v hi
  rw [Nat.add_assoc]
  refine h (a + i) v ?_
  rw [← e, List.getElem?_take] at hi
  split at hi
  · rwa [List.getElem?_drop] at hi
  · cases hi
end
/-- the cells that a store has left, in plain form -/
theorem cells_agg (vs : Array Value) : (Value.agg vs).cells = vs := rfl
end Go.Proofs.Ytipffnogkijmnaa.Eng
