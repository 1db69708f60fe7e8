import Derived.Test.YtipffnogkijmnaaEng3
set_option linter.unusedVariables false
set_option linter.unusedSimpArgs false
namespace Go.Proofs.Ytipffnogkijmnaa.Eng
open Go

section
variable {P : Program} {n : Nat} {E : Env} {w w' : World} {T : TypeId} {v : Value} {M : Mem} {Ls Ls' : List Chunk} {pos : String} {af : Array Edge} {d : Nat} {l : List Oper} {ops : Array Oper} {KE : Env → World → Prop}

/-- a new block -/
def World.with (w : World) (o : Obj) : World := { w with heap := w.heap.push o }
theorem St.new (h : St M w Ls) (o : Obj) : St M (World.with w o) ([(w.heap.size, o)] :: Ls) := h.push o _ rfl ⟨rfl, rfl, rfl⟩

theorem x_alloc {U : TypeId} {z : Value} (hz : Zero P U z) : Y P E (.alloc U) T w (.pointer (some ⟨w.heap.size, 0, none⟩)) (World.with w (.cells z.cells U)) := by
  obtain ⟨i, h1, h2⟩ := hz
  intro a ha d pos af g
  simp [execOp, Instr.alloc, zeroValue, typeInfo, newVar, newRow, newObj, program, Bind.bind, Sem.bind, Pure.pure, Sem.run, h1, h2, World.with]
theorem a_alloc {U : TypeId} {z : Value} (hz : Zero P U z) (hS : St M w Ls) (hd : Nat.blt d n = true)
    (h : ∀ b w', St M w' ([(b, .cells z.cells U)] :: Ls) → WL P n ops KE l ((d, .pointer (some ⟨b, 0, none⟩)) :: E) w') : WL P n ops KE (⟨some d, .alloc U, T, pos, af, none⟩ :: l) E w :=
  wl (x_alloc hz) hd (h _ _ (hS.new _))
theorem x_box {U : TypeId} {x : Operand} (hx : ev E x = some v) : Y P E (.box U x) T w (.pointer (some ⟨w.heap.size, 0, none⟩)) (World.with w (.cells v.cells U)) := by
  intro a ha d pos af g
  simp [execOp, Instr.box, newVar, newRow, newObj, Bind.bind, Sem.bind, Pure.pure, Sem.run, ev_sound ha hx, World.with]
theorem a_box {U : TypeId} {x : Operand} (hx : ev E x = some v) (hS : St M w Ls) (hd : Nat.blt d n = true)
    (h : ∀ b w', St M w' ([(b, .cells v.cells U)] :: Ls) → WL P n ops KE l ((d, .pointer (some ⟨b, 0, none⟩)) :: E) w') : WL P n ops KE (⟨some d, .box U x, T, pos, af, none⟩ :: l) E w :=
  wl (x_box hx) hd (h _ _ (hS.new _))

/-! stores -/
theorem storeVar_run {b j k : Nat} {V U : TypeId} {cs : Array Value} {fz : Nat × Nat} (hk : Size P U k) (hv : v.cells.size = k) (h1 : ∀ u ∈ v.cells.toList, oneC u = true)
    (hb : w.heap[b]? = some (.cells cs V fz)) (hj : j + k ≤ cs.size) (hf : ∀ i < k, ¬ (fz.1 ≤ j + i ∧ j + i < fz.2)) :
    ∃ w', (storeVar U ⟨b, j, none⟩ v).run P w = .ok () w' ∧ w'.heap[b]? = some (.cells (setCells cs j v.cells.toList) V fz) ∧ ((∀ c, c ≠ b → w'.heap[c]? = w.heap[c]?) ∧ Io w w') := by
  have hl : v.cells.toList.length = k := by simpa using hv
  obtain ⟨w', e1, e2, e3⟩ := storeCells_run (P := P) (b := b) (U := V) (fz := fz) (j := j) (vs := v.cells.toList) (i := 0) hb h1 (by rw [hl]; simpa using hj) (by rw [hl]; simpa using hf)
  refine ⟨w', ?_, by simpa using e2, e3⟩
  unfold storeVar
  rw [run_sizeOf hk]
  simp only [hv, ne_eq, not_true_eq_false, if_false]
  exact e1

theorem x_store {x y : Operand} {b j k : Nat} {V U : TypeId} {cs : Array Value} {fz : Nat × Nat} (hk : Size P U k) (hx : ev E x = some (.pointer (some ⟨b, j, none⟩))) (hy : ev E y = some v) (hv : v.cells.size = k) (h1 : ∀ u ∈ v.cells.toList, oneC u = true)
    (hb : w.heap[b]? = some (.cells cs V fz)) (hj : j + k ≤ cs.size) (hf : ∀ i < k, ¬ (fz.1 ≤ j + i ∧ j + i < fz.2)) :
    ∃ w', YS P E (.store U x y) T w w' ∧ w'.heap[b]? = some (.cells (setCells cs j v.cells.toList) V fz) ∧ ((∀ c, c ≠ b → w'.heap[c]? = w.heap[c]?) ∧ Io w w') := by
  obtain ⟨w', e1, e2, e3⟩ := storeVar_run hk hv h1 hb hj hf
  refine ⟨w', fun a ha d pos af g => ?_, e2, e3⟩
  simp only [execOp, Instr.storeAt, Instr.sureAddr, ev_sound ha hx, ev_sound ha hy]
  exact (Sem.run_bind_ok' e1).trans rfl

/-- a store of a value of one cell into a block of ours -/
theorem a_store {x y : Operand} {b j : Nat} {V U : TypeId} {cs : Array Value} (hk : Size P U 1) (hx : ev E x = some (.pointer (some ⟨b, j, none⟩))) (hy : ev E y = some v) (hv : oneC v = true)
    (hS : St M w Ls) [hh : Has Ls b (.cells cs V (0, 0))] [hu : Upd Ls b (.cells (cs.setIfInBounds j v) V (0, 0)) Ls'] (hj : j < cs.size)
    (h : ∀ w', St M w' Ls' → WL P n ops KE l E w') : WL P n ops KE (⟨none, .store U x y, T, pos, af, none⟩ :: l) E w := by
  have hc : v.cells = #[v] := by cases v <;> simp [oneC] at hv <;> rfl
  obtain ⟨w', e1, e2, e3⟩ := x_store (T := T) hk hx hy (by rw [hc]; rfl) (by rw [hc]; simpa using hv) hS.has (by omega) (by intro i _; simp)
  refine wls e1 (h w' (hS.upd (u := hu) w' ?_ e3))
  rw [e2, hc]; rfl
/-- a store of a struct -/
theorem a_storeS {x y : Operand} {b j k : Nat} {V U : TypeId} {cs : Array Value} {vs : List Value} (hk : Size P U k) (hx : ev E x = some (.pointer (some ⟨b, j, none⟩))) (hy : ev E y = some (.agg vs.toArray)) (hv : vs.all oneC = true) (hl : vs.length = k)
    (hS : St M w Ls) [hh : Has Ls b (.cells cs V (0, 0))] [hu : Upd Ls b (.cells (setCells cs j vs) V (0, 0)) Ls'] (hj : j + k ≤ cs.size)
    (h : ∀ w', St M w' Ls' → WL P n ops KE l E w') : WL P n ops KE (⟨none, .store U x y, T, pos, af, none⟩ :: l) E w := by
  obtain ⟨w', e1, e2, e3⟩ := x_store (T := T) hk hx hy (by simpa [Value.cells] using hl) (by simpa [Value.cells] using List.all_eq_true.1 hv) hS.has hj (by intro i _; simp)
  refine wls e1 (h w' (hS.upd (u := hu) w' ?_ e3))
  rw [e2]; simp [Value.cells]

/-! addresses, parts -/
theorem y_fld {x : Operand} {b j off sz : Nat} {U V : TypeId} {i : Nat} (hF : Fld P U i V off (sz + 1)) (hx : ev E x = some (.pointer (some ⟨b, j, none⟩))) : Y P E (.fieldAddr U x i) T w (.pointer (some ⟨b, j + off, none⟩)) w := by
  obtain ⟨fs, f, h1, h2, rfl, rfl, h5⟩ := hF
  intro a ha d pos af g
  simp only [execOp, Instr.fieldAt, underlying, program, Bind.bind, Sem.bind, Pure.pure, Sem.run, h1, h2, Instr.sureAddr, ev_sound ha hx]
  have : (fieldPlace ⟨b, j, none⟩ f).run P w = .ok ⟨b, j + f.offset, none⟩ w := by
    unfold fieldPlace
    rw [run_sizeOf h5]
    simp [Pure.pure, Sem.run, Addr.add_mk]
  exact (Sem.run_bind_ok (Sem.run_bind_ok this)).trans rfl
theorem y_field {x : Operand} {off : Nat} {U V : TypeId} {i : Nat} {vs : List Value} (hF : Fld P U i V off 1) (hV : Plain P V) (hx : ev E x = some (.agg vs.toArray)) (hv : vs[off]? = some v) : Y P E (.field U x i) T w v w := by
  obtain ⟨fs, f, h1, h2, rfl, rfl, h5⟩ := hF
  intro a ha d pos af g
  simp only [execOp, Instr.field, underlying, program, Bind.bind, Sem.bind, Pure.pure, Sem.run, h1, h2, asAgg, ev_sound ha hx]
  have : (part f.type vs.toArray f.offset).run P w = .ok v w := by
    unfold part
    rw [run_isAgg_plain hV]
    simp [hv, Pure.pure, Sem.run]
  exact (Sem.run_bind_ok this).trans rfl
theorem y_fieldS {x : Operand} {off sz : Nat} {U V : TypeId} {i : Nat} {vs us : List Value} (hF : Fld P U i V off sz) (hV : IsStruct P V) (hx : ev E x = some (.agg vs.toArray)) (hv : (vs.drop off).take sz = us) : Y P E (.field U x i) T w (.agg us.toArray) w := by
  obtain ⟨fs, f, h1, h2, rfl, rfl, h5⟩ := hF
  intro a ha d pos af g
  simp only [execOp, Instr.field, underlying, program, Bind.bind, Sem.bind, Pure.pure, Sem.run, h1, h2, asAgg, ev_sound ha hx]
  have : (part f.type vs.toArray f.offset).run P w = .ok (.agg us.toArray) w := by
    unfold part
    rw [run_isAgg_struct hV]
    simp only [if_true]
    rw [run_sizeOf h5]
    simp only [Pure.pure, Sem.run]
    congr 2
    rw [← hv]
    apply Array.ext'
    simp [List.take_drop, Nat.add_comm]
  exact (Sem.run_bind_ok this).trans rfl
theorem y_ixa_ar {x y : Operand} {b j m sz : Nat} {U e : TypeId} {k : IntKind} {i : Int} (hU : P.underlying U = some (.array m e)) (he : Size P e sz) (hx : ev E x = some (.pointer (some ⟨b, j, none⟩))) (hy : ev E y = some (.int k i)) (h0 : 0 ≤ i) (h1 : i < m) :
    Y P E (.indexAddr U x y) T w (.pointer (some ⟨b, j + i.toNat * sz, none⟩)) w := by
  intro a ha d pos af g
  simp only [execOp, Instr.indexAt, underlying, program, Bind.bind, Sem.bind, Pure.pure, Sem.run, asIntOf, Instr.sureAddr, ev_sound ha hx, ev_sound ha hy, hU]
  obtain ⟨i', h2, rfl⟩ := he
  simp [h0, h1, sizeOf, typeInfo, program, Bind.bind, Sem.bind, Pure.pure, Sem.run, h2, Addr.add_mk]
theorem y_ixa_sl {x y : Operand} {b j m c sz : Nat} {U e : TypeId} {k : IntKind} {i : Int} (hU : P.underlying U = some (.slice e)) (he : Size P e sz) (hx : ev E x = some (.slice (some ⟨b, j, none⟩) m c)) (hy : ev E y = some (.int k i)) (h0 : 0 ≤ i) (h1 : i < m) :
    Y P E (.indexAddr U x y) T w (.pointer (some ⟨b, j + i.toNat * sz, none⟩)) w := by
  intro a ha d pos af g
  simp only [execOp, Instr.indexAt, underlying, program, Bind.bind, Sem.bind, Pure.pure, Sem.run, asIntOf, Instr.sureAddr, ev_sound ha hx, ev_sound ha hy, hU]
  obtain ⟨i', h2, rfl⟩ := he
  simp [h0, h1, sizeOf, typeInfo, program, Bind.bind, Sem.bind, Pure.pure, Sem.run, h2, Addr.add_mk]
theorem y_idx_ar {x y : Operand} {m : Nat} {U e : TypeId} {k : IntKind} {i : Int} {vs : List Value} (hU : P.underlying U = some (.array m e)) (hp : Plain P e) (he : Size P e 1) (hx : ev E x = some (.agg vs.toArray)) (hy : ev E y = some (.int k i)) (h0 : 0 ≤ i) (h1 : i < m) (hv : vs[i.toNat]? = some v) :
    Y P E (.index U x y) T w v w := by
  intro a ha d pos af g
  simp only [execOp, Instr.index, underlying, program, Bind.bind, Sem.bind, Pure.pure, Sem.run, asIntOf, ev_sound ha hx, ev_sound ha hy, hU]
  have : (part e vs.toArray (i.toNat * 1)).run P w = .ok v w := by
    unfold part
    rw [run_isAgg_plain hp]
    simp [hv, Pure.pure, Sem.run]
  simp only [h0, h1, and_self, if_true]
  obtain ⟨i', h2, h3⟩ := he
  simp only [sizeOf, typeInfo, program, Bind.bind, Sem.bind, Pure.pure, Sem.run, h2, h3]
  exact (Sem.run_bind_ok this).trans rfl

/-! bytes and strings -/
def bytesV (s : ByteArray) : List Value := s.data.toList.map fun c => .int .u8 c.toNat
theorem bytesV_length (s : ByteArray) : (bytesV s).length = s.size := by simp [bytesV]
/-- []byte(s): a block of our own; the cell behind its end is marked -/
theorem x_s2b {x : Operand} {s : ByteArray} {U V e : TypeId} (hU : P.underlying U = some .string) (hV : P.underlying V = some (.slice e)) (he : P.underlying e = some (.int .u8)) (hx : ev E x = some (.string s)) :
    ∃ c sp w', s.size ≤ c ∧ sp.length + s.size = c ∧ Y P E (.convert U V x) T w (.slice (some ⟨w.heap.size, 0, none⟩) s.size c) w' ∧
      w'.heap = w.heap.push (.cells (bytesV s ++ sp).toArray e (c, c + 1)) ∧ Io w w' := by
  let q := Question.appendCap s.size 0 e
  let c := q.cut (w.tape w.drawn q)
  have hc : s.size ≤ c := by simp only [c, q, Question.cut]; omega
  refine ⟨c, List.replicate (c - s.size) (.int .u8 0), { w with drawn := w.drawn + 1, heap := w.heap.push (.cells (bytesV s ++ List.replicate (c - s.size) (Value.int .u8 0)).toArray e (c, c + 1)) }, hc, by simp; omega, ?_, rfl, rfl, rfl, rfl⟩
  intro a ha d pos af g
  have hlen : (bytesV s).length = s.size := bytesV_length s
  have hsz : (Array.map (fun b => Value.int IntKind.u8 (b.toNat : Int)) s.data ++ Array.replicate (c - s.size) (Value.int IntKind.u8 0)) = (bytesV s ++ List.replicate (c - s.size) (Value.int .u8 0)).toArray := by
    apply Array.ext'; simp [bytesV]
  have hs2 : (bytesV s ++ List.replicate (c - s.size) (Value.int .u8 0)).toArray.size = c := by simp [hlen]; omega
  have hcc : q.cut (w.tape w.drawn q) = c := rfl
  have hfo : q.forced = false := rfl
  simp only [execOp, convert, underlying, program, Bind.bind, Sem.bind, Pure.pure, Sem.run, hU, hV, he, ev_sound ha hx, Conv.stringToBytes, choose]
  rw [show (Question.appendCap s.size 0 e) = q from rfl, hfo]
  simp only [Bool.false_eq_true, if_false, hcc, newRow, newObj, Bind.bind, Sem.bind, Pure.pure, Sem.run, markStringish, shape, World.shape?, freeze]
  rw [hsz]
  simp only [Array.getElem?_push_size, hs2, Bind.bind, Sem.bind, Sem.run, World.freeze]
  rw [if_neg (by decide)]
  congr 2
  apply Array.ext_getElem?
  intro i
  simp only [Array.getElem?_modify, Array.getElem?_push]
  by_cases hi : i = w.heap.size
  · subst hi; simp
  · simp [hi, Ne.symm hi]
theorem foldl_push : ∀ (l : List UInt8) (r : ByteArray), ((l.map fun c => (c.toNat : Int)).foldl (fun r n => r.push (UInt8.ofNat n.toNat)) r) = ⟨⟨r.data.toList ++ l⟩⟩
  | [], r => by simp
  | c :: l, r => by
    simp only [List.map_cons, List.foldl_cons]
    rw [foldl_push l]
    simp
theorem bytesToString_run {b j m c : Nat} {s : ByteArray} (hs : CellsAt w b j (bytesV s)) (hm : s.size = m) : (Conv.bytesToString (.slice (some ⟨b, j, none⟩) m c)).run P w = .ok (.string s) w := by
  have h := loadCells_run (P := P) hs
  rw [bytesV_length, hm] at h
  have e : bytesV s = (s.data.toList.map fun c => (c.toNat : Int)).map (Value.int .u8) := by simp [bytesV]
  rw [e] at h
  rw [run_bytesToString w _ m c _ h, foldl_push]
  congr 2
theorem y_b2s {x : Operand} {s : ByteArray} {b j m c : Nat} {U V e : TypeId} (hU : P.underlying U = some (.slice e)) (hV : P.underlying V = some .string) (he : P.underlying e = some (.int .u8)) (hx : ev E x = some (.slice (some ⟨b, j, none⟩) m c)) (hs : CellsAt w b j (bytesV s)) (hm : s.size = m) :
    Y P E (.convert U V x) T w (.string s) w := by
  intro a ha d pos af g
  simp only [execOp, convert, underlying, program, Bind.bind, Sem.bind, Pure.pure, Sem.run, hU, hV, he, ev_sound ha hx]
  exact (Sem.run_bind_ok (bytesToString_run hs hm)).trans rfl

end
end Go.Proofs.Ytipffnogkijmnaa.Eng
