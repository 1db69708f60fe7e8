import Derived.Test.YtipffnogkijmnaaEng6
set_option linter.unusedVariables false
set_option linter.unusedSimpArgs false
namespace Go.Proofs.Ytipffnogkijmnaa.Eng
open Go

/-! ### slices -/
/-- how an element lies in cells -/
structure Enc (α : Type) where
  k : Nat
  f : α → List Value
  len : ∀ x, (f x).length = k
  one : ∀ x v, v ∈ f x → oneC v = true

section
variable {α : Type} {P : Program} {n : Nat} {E : Env} {w w' : World} {T : TypeId} {v : Value} {M : Mem} {Ls Ls' : List Chunk} {pos : String} {af : Array Edge} {d : Nat} {l : List Oper} {ops : Array Oper} {KE : Env → World → Prop} {A : Enc α}

theorem Enc.flat_len (A : Enc α) (xs : List α) : (xs.flatMap A.f).length = xs.length * A.k := by
  induction xs with
  | nil => simp
  | cons x xs ih => simp [List.flatMap_cons, ih, A.len, Nat.add_mul, Nat.add_comm]
theorem Enc.flat_one (A : Enc α) (xs : List α) : ∀ v ∈ xs.flatMap A.f, oneC v = true := by
  intro v hv
  obtain ⟨x, _, hx⟩ := List.mem_flatMap.1 hv
  exact A.one x v hx
theorem Enc.flat_at (A : Enc α) : ∀ (xs : List α) (i : Nat) (x : α) (j : Nat) (v : Value), xs[i]? = some x → (A.f x)[j]? = some v → (xs.flatMap A.f)[i * A.k + j]? = some v
  | [], i, x, j, v, h, _ => by simp at h
  | y :: ys, 0, x, j, v, h, hv => by
    simp only [List.getElem?_cons_zero, Option.some.injEq] at h
    subst h
    have hlt : j < (A.f y).length := (List.getElem?_eq_some_iff.1 hv).1
    simp only [List.flatMap_cons, Nat.zero_mul, Nat.zero_add]
    rw [List.getElem?_append_left hlt]; exact hv
  | y :: ys, i + 1, x, j, v, h, hv => by
    have ih := Enc.flat_at A ys i x j v (by simpa using h) hv
    simp only [List.flatMap_cons]
    rw [List.getElem?_append_right (by rw [A.len, Nat.add_mul]; omega), A.len]
    rw [show (i + 1) * A.k + j - A.k = i * A.k + j by rw [Nat.add_mul]; omega]
    exact ih

theorem setCells_mid (pre old post new : List Value) (h : old.length = new.length) : setCells (pre ++ old ++ post).toArray pre.length new = (pre ++ new ++ post).toArray := by
  induction new generalizing pre old with
  | nil =>
    have : old = [] := List.length_eq_zero_iff.1 (by simpa using h)
    subst this; rfl
  | cons u us ih =>
    cases old with
    | nil => simp at h
    | cons o os =>
      have e : (pre ++ o :: os ++ post).toArray.setIfInBounds pre.length u = ((pre ++ [u]) ++ os ++ post).toArray := by
        simp [List.setIfInBounds_toArray, List.set_append]
      simp only [setCells]
      rw [e]
      have := ih (pre ++ [u]) os (by simpa using h)
      simpa using this

/-- A slice that is ours: what it holds; the block, if there is one, is the chunk H. -/
def Own (e : TypeId) (A : Enc α) (s : Value) (xs : List α) (H : Chunk) : Prop :=
  (s = .slice none 0 0 ∧ xs = [] ∧ H = []) ∨
  ∃ b off cap pre sp fz, s = .slice (some ⟨b, off, none⟩) xs.length cap ∧ H = [(b, .cells (pre ++ xs.flatMap A.f ++ sp).toArray e fz)] ∧ pre.length = off ∧
    xs.length ≤ cap ∧ (cap - xs.length) * A.k ≤ sp.length ∧ (fz = (0, 0) ∨ off + cap * A.k ≤ fz.1)

/-- A slice whose elements lie in memory that nobody changes. -/
def Rd (M : Mem) (A : Enc α) (s : Value) (xs : List α) : Prop :=
  ∃ a c, s = .slice a xs.length c ∧ (xs = [] ∨ ∃ b off cs e fz, a = some ⟨b, off, none⟩ ∧ M b = some (.cells cs e fz) ∧ ∀ j v, (xs.flatMap A.f)[j]? = some v → cs[off + j]? = some v)

/-- what a slice holds in a world -/
def Holds (w : World) (A : Enc α) (s : Value) (xs : List α) : Prop :=
  ∃ a c, s = .slice a xs.length c ∧ (xs = [] ∨ ∃ b off, a = some ⟨b, off, none⟩ ∧ CellsAt w b off (xs.flatMap A.f))

theorem Rd.holds {s : Value} {xs : List α} (h : Rd M A s xs) (hS : St M w Ls) : Holds w A s xs := by
  obtain ⟨a, c, rfl, h⟩ := h
  refine ⟨a, c, rfl, ?_⟩
  rcases h with h | ⟨b, off, cs, e, fz, rfl, hM, h⟩
  · exact .inl h
  · refine .inr ⟨b, off, rfl, fun j v hj => ?_⟩
    rw [cell_of (hS.imm _ _ hM)]
    exact h j v hj
theorem Rd.mono {M' : Mem} {s : Value} {xs : List α} (h : Rd M A s xs) (hm : Mle M M') : Rd M' A s xs := by
  obtain ⟨a, c, rfl, h⟩ := h
  refine ⟨a, c, rfl, h.imp id ?_⟩
  rintro ⟨b, off, cs, e, fz, rfl, hM, h⟩
  exact ⟨b, off, cs, e, fz, rfl, hm.1 _ _ hM, h⟩
theorem Own.holds {e : TypeId} {s : Value} {xs : List α} {H : Chunk} (h : Own e A s xs H) (hS : St M w (H :: Ls)) : Holds w A s xs := by
  rcases h with ⟨rfl, rfl, rfl⟩ | ⟨b, off, cap, pre, sp, fz, rfl, rfl, rfl, h1, h2, h3⟩
  · exact ⟨none, 0, rfl, .inl rfl⟩
  · refine ⟨_, cap, rfl, .inr ⟨b, _, rfl, fun j v hj => ?_⟩⟩
    rw [cell_of hS.has]
    simp only [List.getElem?_toArray]
    rw [List.append_assoc, List.getElem?_append_right (by omega), Nat.add_sub_cancel_left]
    rw [List.getElem?_append_left (List.getElem?_eq_some_iff.1 hj).1]
    exact hj
/-- what is ours is fixed for good -/
theorem Own.rd {e : TypeId} {s : Value} {xs : List α} {H : Chunk} (h : Own e A s xs H) (hM : ∀ b o, (b, o) ∈ H → M b = some o) : Rd M A s xs := by
  rcases h with ⟨rfl, rfl, rfl⟩ | ⟨b, off, cap, pre, sp, fz, rfl, rfl, rfl, h1, h2, h3⟩
  · exact ⟨none, 0, rfl, .inl rfl⟩
  · refine ⟨_, cap, rfl, .inr ⟨b, _, (pre ++ xs.flatMap A.f ++ sp).toArray, e, fz, rfl, hM b _ (by simp), fun j v hj => ?_⟩⟩
    simp only [List.getElem?_toArray]
    rw [List.append_assoc, List.getElem?_append_right (by omega), Nat.add_sub_cancel_left]
    rw [List.getElem?_append_left (List.getElem?_eq_some_iff.1 hj).1]
    exact hj
theorem Own.nil {e : TypeId} : Own e A (.slice none 0 0) [] [] := .inl ⟨rfl, rfl, rfl⟩
theorem Rd.nil {c : Nat} {a : Option Addr} : Rd M A (.slice a 0 c) [] := ⟨a, c, rfl, .inl rfl⟩
theorem Own.slice {e : TypeId} {s : Value} {xs : List α} {H : Chunk} (h : Own e A s xs H) : ∃ a c, s = .slice a xs.length c := by
  rcases h with ⟨rfl, rfl, rfl⟩ | ⟨b, off, cap, pre, sp, fz, rfl, _⟩
  · exact ⟨_, _, rfl⟩
  · exact ⟨_, _, rfl⟩
theorem Holds.slice {s : Value} {xs : List α} (h : Holds w A s xs) : ∃ a c, s = .slice a xs.length c := by
  obtain ⟨a, c, rfl, _⟩ := h; exact ⟨_, _, rfl⟩
/-- element i -/
theorem Holds.at {s : Value} {xs : List α} {i : Nat} {x : α} (h : Holds w A s xs) (hi : xs[i]? = some x) : ∃ b off c, s = .slice (some ⟨b, off, none⟩) xs.length c ∧ CellsAt w b (off + i * A.k) (A.f x) := by
  obtain ⟨a, c, rfl, h⟩ := h
  rcases h with rfl | ⟨b, off, rfl, h⟩
  · simp at hi
  · refine ⟨b, off, c, rfl, fun j v hj => ?_⟩
    have := h (i * A.k + j) v (A.flat_at xs i x j v hi hj)
    rwa [← Nat.add_assoc] at this

/-! append -/
theorem growBy_le (need : Nat) : ∀ (r c : Nat), c ≤ need → Builtin.growBy need r c ≤ 2 * need + 192
  | 0, c, h => by simp [Builtin.growBy]; omega
  | r + 1, c, h => by
    unfold Builtin.growBy
    split
    · omega
    · rename_i hc
      by_cases h2 : c + (c + 768) / 4 ≤ need
      · exact growBy_le need r _ h2
      · cases r with
        | zero => simp only [Builtin.growBy]; omega
        | succ r => unfold Builtin.growBy; rw [if_pos (by omega)]; omega
theorem nextcap_le {need c : Nat} (h : c < need) : Builtin.nextslicecap need c ≤ 2 * need + 192 := by
  unfold Builtin.nextslicecap
  split
  · omega
  · split
    · omega
    · exact growBy_le need 4 c (by omega)

theorem run_typeInfo {i : TypeInfo} (h : P.info? T = some i) {β : Type} (f : TypeInfo → Sem β) : (typeInfo T >>= f).run P w = (f i).run P w := by
  simp [typeInfo, program, Bind.bind, Sem.bind, Pure.pure, Sem.run, h]
theorem run_und {t : TypeDesc} (h : P.underlying T = some t) {β : Type} (f : TypeDesc → Sem β) : (underlying T >>= f).run P w = (f t).run P w := by
  simp [underlying, program, Bind.bind, Sem.bind, Pure.pure, Sem.run, h]
theorem run_zero {z : Value} (h : Zero P T z) {β : Type} (f : Value → Sem β) : (zeroValue T >>= f).run P w = (f z).run P w := by
  obtain ⟨i, h1, h2⟩ := h
  simp [zeroValue, typeInfo, program, Bind.bind, Sem.bind, Pure.pure, Sem.run, h1, h2]
theorem run_askRoom {m : Nat} {β : Type} (f : Unit → Sem β) : (askRoom m >>= f).run P w = (f ()).run P w := by
  unfold askRoom
  split <;> simp [mark, Bind.bind, Sem.bind, Pure.pure, Sem.run]
theorem run_choose {q : Question} (hq : q.forced = false) {β : Type} (f : Nat → Sem β) : (choose q >>= f).run P w = (f (q.cut (w.tape w.drawn q))).run P { w with drawn := w.drawn + 1 } := by
  simp [choose, Bind.bind, Sem.bind, Sem.run, hq]
theorem firstCells_run {y : Value} {ys : List α} (h : Holds w A y ys) : (Builtin.firstCells A.k ys.length y).run P w = .ok (ys.flatMap A.f).toArray w := by
  obtain ⟨a, c, rfl, h⟩ := h
  rcases h with rfl | ⟨b, off, rfl, h⟩
  · cases a with
    | none => simp [Builtin.firstCells, Pure.pure, Sem.run]
    | some a => simp [Builtin.firstCells, loadCells, loadCellsFrom, Pure.pure, Sem.run]
  · have := loadCells_run (P := P) h
    rw [A.flat_len] at this
    simpa [Builtin.firstCells] using this

theorem append_run {e T1 T2 : TypeId} {s y : Value} {xs ys : List α} {H : Chunk} {z : Value} {nb : Nat} (h1 : P.underlying T1 = some (.slice e)) {t2 : TypeDesc} (h2 : P.underlying T2 = some t2) (h2' : ∀ k, t2 ≠ .int k)
    (hk : Size P e A.k) (hz : Zero P e z) (hzk : z.cells.size = A.k) (hb : Bytes P e nb) (hnb : nb ≤ 256)
    (ho : Own e A s xs H) (hlen : Builtin.lenOf y = Sem.pure ys.length) (hy : ∀ dr, (Builtin.firstCells A.k ys.length y).run P { w with drawn := dr } = .ok (ys.flatMap A.f).toArray { w with drawn := dr }) (hS : St M w (H :: Ls)) (hl : xs.length + ys.length ≤ 274877906944) :
    ∃ s' H' w', (Builtin.append_ #[T1, T2] T #[s, y]).run P w = .ok s' w' ∧ Own e A s' (xs ++ ys) H' ∧ St M w' (H' :: Ls) := by
  obtain ⟨i, hi, hbytes⟩ := hb
  have hy' : ∀ {dr : Nat}, (Builtin.firstCells A.k ys.length y).run P { w with drawn := dr } = .ok (ys.flatMap A.f).toArray { w with drawn := dr } := by
    intro dr
    exact hy dr
  have hold : ∀ {dr : Nat} {a : Option Addr} {cap : Nat}, s = .slice a xs.length cap → (Builtin.firstCells A.k xs.length (.slice a xs.length cap)).run P { w with drawn := dr } = .ok (xs.flatMap A.f).toArray { w with drawn := dr } := by
    intro dr a cap hs
    have h1 := ho.holds (hS.same (w' := { w with drawn := dr }) ⟨rfl, rfl, rfl, rfl⟩)
    rw [← hs]
    exact firstCells_run h1
  have hhead : ∀ {a : Option Addr} {cap : Nat} {r : Result Value}, s = .slice a xs.length cap →
      ((if xs.length + ys.length ≤ cap then (do
          let new ← Builtin.firstCells A.k ys.length y
          match a with
            | some a_1 => do
              storeCells (a_1.add (xs.length * A.k)) new.toList
              pure (Value.slice a (xs.length + ys.length) cap)
            | x => pure (Value.slice a (xs.length + ys.length) cap) : Sem Value) else (do
          let newCap ← choose (.appendCap (xs.length + ys.length) cap e)
          askRoom (newCap * i.bytes)
          let old ← Builtin.firstCells A.k xs.length s
          let new ← Builtin.firstCells A.k ys.length y
          let ad ← newRow e (old ++ new ++ Builtin.zeroCells z.cells (newCap - (xs.length + ys.length)))
          pure (.slice (some ad) (xs.length + ys.length) newCap) : Sem Value)).run P w = r) →
      (Builtin.append_ #[T1, T2] T #[s, y]).run P w = r := by
    intro a cap r hs hr
    subst hs
    rw [← hr]
    unfold Builtin.append_
    simp only [List.getElem?_toArray, List.getElem?_cons_zero, List.getElem?_cons_succ]
    rw [run_und h1]
    simp only
    rw [run_sizeOf hk, run_und h2]
    rw [Sem.run_bind_ok' (w' := w) (a := false) (by simp only [Pure.pure, Sem.run])]
    simp only [Bool.false_eq_true, if_false, hlen]
    rw [Sem.run_bind_ok' (w' := w) (a := ys.length) rfl]
    by_cases hc : xs.length + ys.length ≤ cap
    · simp only [if_pos hc, Bool.not_false, if_true]; rfl
    · simp only [if_neg hc, Bool.not_false, if_true]
      rw [run_typeInfo hi]
      have hg : ¬ (((xs.length + ys.length : Nat) : Int) > IntKind.i64.max ∧ (False ∨ i.bytes = 0)) := by
        intro h
        have := h.1
        simp [IntKind.max, IntKind.bits, IntKind.signed] at this
        omega
      have hg2 : ¬ (Builtin.nextslicecap (xs.length + ys.length) cap * i.bytes > 2 ^ 48) := by
        have h3 := nextcap_le (need := xs.length + ys.length) (c := cap) (by omega)
        have h4 : Builtin.nextslicecap (xs.length + ys.length) cap * i.bytes ≤ (2 * 274877906944 + 192) * 256 := Nat.mul_le_mul (by omega) (by omega)
        omega
      rw [if_neg hg, run_typeInfo hi, if_neg hg2, run_choose rfl, run_choose rfl, run_typeInfo hi, run_askRoom, run_askRoom]
      rw [Sem.run_bind_ok' (w' := { w with drawn := w.drawn + 1 }) (hold (cap := cap) rfl), Sem.run_bind_ok' (w' := { w with drawn := w.drawn + 1 }) (hold (cap := cap) rfl)]
      rw [Sem.run_bind_ok' hy', Sem.run_bind_ok' hy']
      rw [run_zero hz]
  by_cases hcase : ∃ a cap, s = .slice a xs.length cap ∧ xs.length + ys.length ≤ cap
  · obtain ⟨a, cap, hs, hc⟩ := hcase
    rcases ho with ⟨rfl, rfl, rfl⟩ | ⟨b, off, cap', pre, sp, fz, rfl, rfl, rfl, g1, g2, g3⟩
    · simp only [Value.slice.injEq, List.length_nil] at hs
      obtain ⟨rfl, _, rfl⟩ := hs
      have hys : ys = [] := List.length_eq_zero_iff.1 (by simpa using hc)
      subst hys
      refine ⟨.slice none 0 0, [], w, hhead (a := none) (cap := 0) rfl ?_, .inl ⟨rfl, rfl, rfl⟩, hS⟩
      rw [if_pos (by simp)]
      exact (Sem.run_bind_ok' (hy w.drawn)).trans rfl
    · simp only [Value.slice.injEq] at hs
      obtain ⟨rfl, _, rfl⟩ := hs
      have hsz : pre.length + cap' * A.k ≤ (pre ++ xs.flatMap A.f ++ sp).toArray.size := by
        simp only [List.size_toArray, List.length_append, A.flat_len]
        have : cap' * A.k = xs.length * A.k + (cap' - xs.length) * A.k := by rw [← Nat.add_mul]; congr 1; omega
        omega
      have hle : (ys.flatMap A.f).length ≤ sp.length := by
        rw [A.flat_len]; exact Nat.le_trans (Nat.mul_le_mul_right _ (by omega)) g2
      have hb0 := hS.has (b := b)
      obtain ⟨w', e1, e2, e3⟩ := storeCells_run (P := P) (j := pre.length + xs.length * A.k) (vs := ys.flatMap A.f) (i := 0) hb0 (A.flat_one ys)
        (by refine Nat.le_trans ?_ hsz; rw [A.flat_len]; have : cap' * A.k ≥ (xs.length + ys.length) * A.k := Nat.mul_le_mul_right _ hc; rw [Nat.add_mul] at this; omega)
        (by
          intro i' hi'
          rcases g3 with g3 | g3
          · subst g3; simp
          · have : cap' * A.k ≥ (xs.length + ys.length) * A.k := Nat.mul_le_mul_right _ hc
            rw [Nat.add_mul] at this
            rw [A.flat_len] at hi'
            omega)
      refine ⟨.slice (some ⟨b, pre.length, none⟩) (xs ++ ys).length cap', [(b, .cells (pre ++ (xs ++ ys).flatMap A.f ++ sp.drop (ys.length * A.k)).toArray e fz)], w', hhead (a := some ⟨b, pre.length, none⟩) (cap := cap') rfl ?_, ?_, ?_⟩
      · rw [if_pos hc, Sem.run_bind_ok' (hy w.drawn)]
        simp only [Addr.add_mk, List.length_append]
        exact (Sem.run_bind_ok' e1).trans rfl
      · refine .inr ⟨b, pre.length, cap', pre, _, fz, rfl, rfl, rfl, by simpa using hc, ?_, g3⟩
        simp only [List.length_drop, List.length_append]
        have : (cap' - xs.length) * A.k = (cap' - (xs.length + ys.length)) * A.k + ys.length * A.k := by rw [← Nat.add_mul]; congr 1; omega
        omega
      · refine hS.upd (b := b) w' ?_ e3
        rw [e2]
        have hsp : sp = sp.take (ys.length * A.k) ++ sp.drop (ys.length * A.k) := (List.take_append_drop _ _).symm
        have := setCells_mid (pre ++ xs.flatMap A.f) (sp.take (ys.length * A.k)) (sp.drop (ys.length * A.k)) (ys.flatMap A.f) (by rw [List.length_take, A.flat_len]; rw [A.flat_len] at hle; omega)
        rw [List.append_assoc (pre ++ xs.flatMap A.f), List.take_append_drop] at this
        simp only [List.length_append, A.flat_len] at this
        rw [Nat.add_zero, this]
        simp [List.flatMap_append]
  · obtain ⟨a, cap, hs⟩ := ho.slice
    have hc : ¬ xs.length + ys.length ≤ cap := fun h => hcase ⟨a, cap, hs, h⟩
    let q := Question.appendCap (xs.length + ys.length) cap e
    have hq : xs.length + ys.length ≤ q.cut (w.tape w.drawn q) := by simp only [q, Question.cut]; omega
    generalize hN : q.cut (w.tape w.drawn q) = N at hq
    have hzc : (Builtin.zeroCells z.cells (N - (xs.length + ys.length))).size = (N - (xs.length + ys.length)) * A.k := by simp [Builtin.zeroCells, hzk]
    have harr : ((xs.flatMap A.f).toArray ++ (ys.flatMap A.f).toArray ++ Builtin.zeroCells z.cells (N - (xs.length + ys.length))) = (([] : List Value) ++ (xs ++ ys).flatMap A.f ++ (Builtin.zeroCells z.cells (N - (xs.length + ys.length))).toList).toArray := by
      apply Array.ext'
      simp [List.flatMap_append]
    refine ⟨.slice (some ⟨w.heap.size, 0, none⟩) (xs ++ ys).length N, [(w.heap.size, .cells (([] : List Value) ++ (xs ++ ys).flatMap A.f ++ (Builtin.zeroCells z.cells (N - (xs.length + ys.length))).toList).toArray e (0, 0))], { w with drawn := w.drawn + 1, heap := w.heap.push _ }, hhead hs ?_, .inr ⟨_, 0, N, [], _, (0, 0), rfl, rfl, rfl, by simpa using hq, by simpa using Nat.le_of_eq hzc.symm, .inl rfl⟩, (hS.drop.push _ _ rfl ⟨rfl, rfl, rfl⟩)⟩
    rw [if_neg hc, run_choose rfl, run_askRoom]
    have := hold (dr := w.drawn + 1) hs
    rw [← hs] at this
    rw [Sem.run_bind_ok' this, Sem.run_bind_ok' hy', show (Question.appendCap (xs.length + ys.length) cap e).cut (w.tape w.drawn (Question.appendCap (xs.length + ys.length) cap e)) = N from hN, harr]
    simp [newRow, newObj, Bind.bind, Sem.bind, Pure.pure, Sem.run]
    exact ⟨rfl, rfl, rfl⟩

theorem y_builtin {b : Builtin} {x y : Operand} {u : Value} {ts : Array TypeId} {s' : Value} (hx : ev E x = some v) (hy : ev E y = some u)
    (h : ∀ cs, (builtin b ts T cs #[v, u]).run P w = .ok (.value s') w') : Y P E (.call ⟨.builtin b, #[x, y], ts⟩) T w s' w' := by
  intro a ha d pos af g
  simp only [execOp, resolve, invoke, Bind.bind, Pure.pure, Sem.bind]
  have e : (#[x, y].map a.eval) = #[v, u] := by simp [ev_sound ha hx, ev_sound ha hy]
  rw [e]
  exact h _

/-- append(s, y...) of a slice of ours and what another one holds -/
theorem x_append {e T1 T2 : TypeId} {x y : Operand} {s u : Value} {xs ys : List α} {H : Chunk} {z : Value} {nb : Nat} (h1 : P.underlying T1 = some (.slice e)) (h2 : P.underlying T2 = some (.slice e))
    (hk : Size P e A.k) (hz : Zero P e z) (hzk : z.cells.size = A.k) (hb : Bytes P e nb) (hnb : nb ≤ 256)
    (hx : ev E x = some s) (hy : ev E y = some u) (ho : Own e A s xs H) (hu : Holds w A u ys) (hS : St M w (H :: Ls)) (hl : xs.length + ys.length ≤ 274877906944) :
    ∃ s' H' w', Y P E (.call ⟨.builtin .append, #[x, y], #[T1, T2]⟩) T w s' w' ∧ Own e A s' (xs ++ ys) H' ∧ St M w' (H' :: Ls) := by
  have hlen : Builtin.lenOf u = Sem.pure ys.length := by obtain ⟨a, c, rfl⟩ := hu.slice; rfl
  have hu' : ∀ dr, Holds { w with drawn := dr } A u ys := by
    intro dr
    obtain ⟨a, c, rfl, h⟩ := hu
    exact ⟨a, c, rfl, h⟩
  obtain ⟨s', H', w', e1, e2, e3⟩ := append_run (T := T) h1 h2 (by intro k hk; cases hk) hk hz hzk hb hnb ho hlen (fun dr => firstCells_run (hu' dr)) hS hl
  refine ⟨s', H', w', y_builtin hx hy fun cs => ?_, e2, e3⟩
  simp only [builtin]
  exact (Sem.run_bind_ok' e1).trans rfl

theorem a_append {e T1 T2 : TypeId} {x y : Operand} {s u : Value} {xs ys : List α} {H : Chunk} {z : Value} {nb : Nat} (h1 : P.underlying T1 = some (.slice e)) (h2 : P.underlying T2 = some (.slice e))
    (hk : Size P e A.k) (hz : Zero P e z) (hzk : z.cells.size = A.k) (hb : Bytes P e nb) (hnb : nb ≤ 256)
    (hx : ev E x = some s) (hy : ev E y = some u) (ho : Own e A s xs H) (hu : Holds w A u ys) (hS : St M w Ls) [Pull Ls H Ls'] (hl : xs.length + ys.length ≤ 274877906944) (hd : Nat.blt d n = true)
    (h : ∀ s' H' w', Own e A s' (xs ++ ys) H' → St M w' (H' :: Ls') → WL P n ops KE l ((d, s') :: E) w') :
    WL P n ops KE (⟨some d, .call ⟨.builtin .append, #[x, y], #[T1, T2]⟩, T, pos, af, none⟩ :: l) E w := by
  obtain ⟨s', H', w', e1, e2, e3⟩ := x_append (T := T) h1 h2 hk hz hzk hb hnb hx hy ho hu (hS.pull H) hl
  exact wl e1 hd (h s' H' w' e2 e3)


/-! literals -/
theorem foldl_set : ∀ (vs : List Value) (off j : Nat) (cs : Array Value), (vs.zipIdx j).foldl (fun cs (x : Value × Nat) => cs.setIfInBounds (off + x.2) x.1) cs = setCells cs (off + j) vs
  | [], off, j, cs => rfl
  | v :: vs, off, j, cs => by
    simp only [List.zipIdx_cons, List.foldl_cons, setCells]
    rw [foldl_set vs off (j + 1), Nat.add_assoc]
theorem setCells_size : ∀ (vs : List Value) (j : Nat) (cs : Array Value), (setCells cs j vs).size = cs.size
  | [], j, cs => rfl
  | v :: vs, j, cs => by simp [setCells, setCells_size vs]
theorem fill_run : ∀ (vs : List Value) (xs : List α) (j : Nat) (pre old : List Value), vs.length = xs.length → (∀ (i : Nat) (v : Value) (x : α), vs[i]? = some v → xs[i]? = some x → v.cells.toList = A.f x) → pre.length = j * A.k → old.length = xs.length * A.k →
    Instr.fill (fun i => some (i * A.k, A.k)) (pre ++ old).toArray ((vs.zipIdx j).map fun x => (x.2, x.1)) = some (pre ++ xs.flatMap A.f).toArray
  | [], xs, j, pre, old, h1, h2, h3, h4 => by
    have : xs = [] := List.length_eq_zero_iff.1 (by simpa using h1.symm)
    subst this
    have : old = [] := List.length_eq_zero_iff.1 (by simpa using h4)
    subst this
    simp [Instr.fill]
  | v :: vs, [], j, pre, old, h1, h2, h3, h4 => by simp at h1
  | v :: vs, x :: xs, j, pre, old, h1, h2, h3, h4 => by
    have hv : v.cells.toList = A.f x := h2 0 v x rfl rfl
    have hvs : v.cells.size = A.k := by rw [← Array.length_toList, hv, A.len]
    simp only [List.length_cons, Nat.add_mul, Nat.one_mul] at h4
    have hsplit : old = old.take A.k ++ old.drop A.k := (List.take_append_drop _ _).symm
    simp only [List.zipIdx_cons, List.map_cons, Instr.fill]
    have hc : (v.cells.size ≠ A.k || j * A.k + v.cells.size > (pre ++ old).toArray.size) = false := by
      simp only [hvs, ne_eq, not_true_eq_false, decide_false, Bool.false_or, decide_eq_false_iff_not, List.size_toArray, List.length_append]
      omega
    rw [hc]
    simp only [Bool.false_eq_true, if_false]
    have e1 : (v.cells.zipIdx.foldl (fun cs (x : Value × Nat) => cs.setIfInBounds (j * A.k + x.2) x.1) (pre ++ old).toArray) = (pre ++ A.f x ++ old.drop A.k).toArray := by
      rw [← Array.foldl_toList]
      have : v.cells.zipIdx.toList = v.cells.toList.zipIdx 0 := by simp
      rw [this, foldl_set, hv]
      have h5 := setCells_mid pre (old.take A.k) (old.drop A.k) (A.f x) (by rw [A.len, List.length_take]; omega)
      rw [List.append_assoc, List.take_append_drop, h3] at h5
      simpa using h5
    have e2 : (v.cells.zipIdx.foldl (fun cs (c, i) => cs.setIfInBounds (j * A.k + i) c) (pre ++ old).toArray) = (pre ++ A.f x ++ old.drop A.k).toArray := e1
    rw [e2]
    have ih := fill_run vs xs (j + 1) (pre ++ A.f x) (old.drop A.k) (by simpa using h1) (fun i u y hu hy => h2 (i + 1) u y (by simpa using hu) (by simpa using hy)) (by rw [List.length_append, A.len, h3, Nat.add_mul]; omega) (by rw [List.length_drop]; omega)
    simpa using ih

theorem x_bslice {U e : TypeId} {m : Nat} {z : Value} {xs : List α} {vs : List Value} {ps : List (Nat × Operand)} (hU : P.underlying U = some (.slice e)) (hk : Size P e A.k) (hz : Zero P e z) (hzk : z.cells.size = A.k)
    (hv : Evs E (ps.map (·.2)) vs) (hi : ps.map (·.1) = List.range m) (hm : xs.length = m) (hc : ∀ (i : Nat) (v : Value) (x : α), vs[i]? = some v → xs[i]? = some x → v.cells.toList = A.f x) (hbig : m * A.k ≤ 16777216) :
    Y P E (.buildSlice U m ps.toArray) T w (.slice (some ⟨w.heap.size, 0, none⟩) xs.length xs.length) (World.with w (.cells (xs.flatMap A.f).toArray e)) := by
  intro a ha d pos af g
  subst hm
  have hlen : vs.length = xs.length := by
    have h1 := congrArg List.length (Evs.sound ha hv)
    have h2 := congrArg List.length hi
    simp only [List.length_map, List.length_range] at h1 h2
    omega
  have hparts : (ps.map fun x => (x.1, a.eval x.2)) = (vs.zipIdx 0).map fun x => (x.2, x.1) := by
    have h1 := Evs.sound ha hv
    apply List.ext_getElem?
    intro i
    simp only [List.getElem?_map, List.getElem?_zipIdx]
    have h2 := congrArg (·[i]?) h1
    have h3 := congrArg (·[i]?) hi
    simp only [List.getElem?_map] at h2 h3
    cases hp : ps[i]? with
    | none =>
      rw [hp] at h2
      simp only [Option.map_none] at h2
      rw [← h2]; rfl
    | some p =>
      rw [hp] at h2 h3
      simp only [Option.map_some] at h2 h3
      rw [← h2]
      have h4 : p.1 = i := by
        obtain ⟨h5, h6⟩ := List.getElem?_eq_some_iff.1 h3.symm
        simpa using h6.symm
      simp [h4]
  have hpa : (Array.map (fun x => (x.1, a.eval x.2)) ps.toArray) = ((vs.zipIdx 0).map fun x => (x.2, x.1)).toArray := by rw [← hparts]; simp
  have hr : (Instr.buildSlice U xs.length (Array.map (fun x => (x.1, a.eval x.2)) ps.toArray)).run P w = .ok (.slice (some ⟨w.heap.size, 0, none⟩) xs.length xs.length) (World.with w (.cells (xs.flatMap A.f).toArray e)) := by
    rw [hpa]
    unfold Instr.buildSlice
    rw [run_und hU]
    simp only
    rw [run_sizeOf hk, if_neg (by omega)]
    have hfin : ∀ (old : List Value), old.length = xs.length * A.k → Instr.fill (fun i => some (i * A.k, A.k)) old.toArray ((vs.zipIdx 0).map fun x => (x.2, x.1)) = some (xs.flatMap A.f).toArray := by
      intro old ho
      have := fill_run (A := A) vs xs 0 [] old hlen hc (by simp) ho
      simpa using this
    by_cases h0 : xs.length * A.k = 0
    · simp only [h0, if_true]
      have := hfin [] (by simp [h0])
      rw [Sem.run_bind_ok' (w' := w) (a := #[]) rfl]
      have e0 : (Array.map (fun x => (#[] : Array Value)[x % (#[] : Array Value).size]!) (Array.range 0)) = ([] : List Value).toArray := Array.eq_empty_of_size_eq_zero (by simp)
      rw [e0]
      simp only [this]
      simp [newRow, newObj, Bind.bind, Sem.bind, Pure.pure, Sem.run, World.with]
    · simp only [h0, if_false]
      rw [run_zero hz, Sem.run_bind_ok' (w' := w) (a := z.cells) rfl]
      have := hfin ((Array.range (xs.length * A.k)).map fun i => z.cells[i % z.cells.size]!).toList (by simp)
      simp only [Array.toArray_toList] at this
      simp only [this]
      simp [newRow, newObj, Bind.bind, Sem.bind, Pure.pure, Sem.run, World.with]
  exact (Sem.run_bind_ok' hr).trans rfl

theorem map_hc {vs : List Value} {xs : List α} (h : vs.map (fun v => v.cells.toList) = xs.map A.f) : ∀ (i : Nat) (v : Value) (x : α), vs[i]? = some v → xs[i]? = some x → v.cells.toList = A.f x := by
  intro i v x hv hx
  have := congrArg (·[i]?) h
  simpa [List.getElem?_map, hv, hx] using this
theorem a_bslice {U e : TypeId} {m : Nat} {z : Value} {vs : List Value} {ps : List (Nat × Operand)} (A : Enc α) (xs : List α) (hU : P.underlying U = some (.slice e)) (hk : Size P e A.k) (hz : Zero P e z) (hzk : z.cells.size = A.k)
    (hv : Evs E (ps.map (·.2)) vs) (hi : ps.map (·.1) = List.range m) (hm : xs.length = m) (hc : vs.map (fun v => v.cells.toList) = xs.map A.f) (hbig : m * A.k ≤ 16777216) (hS : St M w Ls) (hd : Nat.blt d n = true)
    (h : ∀ s H w', Own e A s xs H → St M w' (H :: Ls) → WL P n ops KE l ((d, s) :: E) w') : WL P n ops KE (⟨some d, .buildSlice U m ps.toArray, T, pos, af, none⟩ :: l) E w :=
  wl (x_bslice hU hk hz hzk hv hi hm (map_hc hc) hbig) hd (h _ [(w.heap.size, .cells (xs.flatMap A.f).toArray e)] _ (.inr ⟨w.heap.size, 0, xs.length, [], [], (0, 0), rfl, by simp, rfl, Nat.le_refl _, by simp, .inl rfl⟩) (by simpa using hS.new _))


/-! bytes -/
def encB : Enc UInt8 := ⟨1, fun c => [.int .u8 c.toNat], fun _ => rfl, by simp [oneC]⟩
theorem encB_flat (l : List UInt8) : l.flatMap encB.f = bytesV ⟨l.toArray⟩ := by
  simp only [bytesV]
  induction l with
  | nil => rfl
  | cons c l ih => rw [List.flatMap_cons, ih]; rfl
theorem y_b2sh {x : Operand} {u : Value} {bs : List UInt8} {U V e : TypeId} (hU : P.underlying U = some (.slice e)) (hV : P.underlying V = some .string) (he : P.underlying e = some (.int .u8)) (hx : ev E x = some u) (hu : Holds w encB u bs) :
    Y P E (.convert U V x) T w (.string ⟨bs.toArray⟩) w := by
  obtain ⟨a, c, rfl, h⟩ := hu
  rcases h with rfl | ⟨b, off, rfl, h⟩
  · intro ac ha d pos af g
    cases a with
    | none => simp [execOp, convert, underlying, program, Bind.bind, Sem.bind, Pure.pure, Sem.run, hU, hV, he, ev_sound ha hx, Conv.bytesToString]; rfl
    | some ad =>
      simp [execOp, convert, underlying, program, Bind.bind, Sem.bind, Pure.pure, Sem.run, hU, hV, he, ev_sound ha hx, Conv.bytesToString, loadCells, loadCellsFrom]; rfl
  · rw [encB_flat] at h
    exact y_b2s hU hV he hx h rfl
theorem a_s2b {x : Operand} {s : ByteArray} {U V e : TypeId} (hU : P.underlying U = some .string) (hV : P.underlying V = some (.slice e)) (he : P.underlying e = some (.int .u8)) (hx : ev E x = some (.string s)) (hS : St M w Ls) (hd : Nat.blt d n = true)
    (h : ∀ v H w', Own e encB v s.data.toList H → St M w' (H :: Ls) → WL P n ops KE l ((d, v) :: E) w') : WL P n ops KE (⟨some d, .convert U V x, T, pos, af, none⟩ :: l) E w := by
  obtain ⟨c, sp, w', h1, h2, h3, h4, h5⟩ := x_s2b (T := T) (w := w) hU hV he hx
  refine wl h3 hd (h _ [(w.heap.size, _)] w' (.inr ⟨w.heap.size, 0, c, [], sp, (c, c + 1), ?_, ?_, rfl, ?_, ?_, .inr ?_⟩) (hS.push _ w' h4 h5))
  · simp
  · rw [encB_flat]; rfl
  · simpa using h1
  · simp only [Array.length_toList, encB, Nat.mul_one]
    show c - s.size ≤ _
    omega
  · simp [encB]

/-! elements -/
theorem Own.expose {e : TypeId} {s : Value} {xs : List α} {H : Chunk} (h : Own e A s xs H) (hx : 0 < xs.length) : ∃ b off cap, s = .slice (some ⟨b, off, none⟩) xs.length cap := by
  rcases h with ⟨rfl, rfl, rfl⟩ | ⟨b, off, cap, pre, sp, fz, rfl, _⟩
  · simp at hx
  · exact ⟨_, _, _, rfl⟩
theorem Holds.cells {b off m c i : Nat} {xs : List α} {x : α} (h : Holds w A (.slice (some ⟨b, off, none⟩) m c) xs) (hi : xs[i]? = some x) : CellsAt w b (off + i * A.k) (A.f x) := by
  obtain ⟨b', off', c', he, h⟩ := h.at hi
  simp only [Value.slice.injEq, Option.some.injEq, Addr.mk.injEq] at he
  obtain ⟨⟨rfl, rfl, _⟩, _, _⟩ := he
  exact h
theorem CellsAt.one {b j : Nat} {v : Value} (h : CellsAt w b j [v]) : w.cell? ⟨b, j, none⟩ = some v := by simpa using h 0 v rfl
theorem flat_set (A : Enc α) : ∀ (xs : List α) (i : Nat) (x : α) (pre sp : List Value), i < xs.length →
    setCells (pre ++ xs.flatMap A.f ++ sp).toArray (pre.length + i * A.k) (A.f x) = (pre ++ (xs.set i x).flatMap A.f ++ sp).toArray
  | [], i, x, pre, sp, h => by simp at h
  | y :: ys, 0, x, pre, sp, h => by
    have := setCells_mid pre (A.f y) (ys.flatMap A.f ++ sp) (A.f x) (by rw [A.len, A.len])
    simpa [List.flatMap_cons] using this
  | y :: ys, i + 1, x, pre, sp, h => by
    have := flat_set A ys i x (pre ++ A.f y) sp (by simpa using h)
    rw [List.length_append, A.len] at this
    simp only [List.set_cons_succ, List.flatMap_cons]
    rw [Nat.add_mul, Nat.one_mul]
    rw [show pre.length + (i * A.k + A.k) = pre.length + A.k + i * A.k by omega]
    simpa using this

/-- a store into an element of a slice of ours -/
theorem a_storeE {e U : TypeId} {x y : Operand} {b off cap i m : Nat} {xs : List α} {x' : α} {H : Chunk} (hk : Size P U A.k) (hx : ev E x = some (.pointer (some ⟨b, off + i * A.k, none⟩))) (hy : ev E y = some v) (hv : v.cells.toList = A.f x')
    (ho : Own e A (.slice (some ⟨b, off, none⟩) m cap) xs H) (hi : i < xs.length) (hS : St M w Ls) [hp : Pull Ls H Ls']
    (h : ∀ H' w', Own e A (.slice (some ⟨b, off, none⟩) m cap) (xs.set i x') H' → St M w' (H' :: Ls') → WL P n ops KE l E w') : WL P n ops KE (⟨none, .store U x y, T, pos, af, none⟩ :: l) E w := by
  rcases ho with ⟨h1, _⟩ | ⟨b', off', cap', pre, sp, fz, h1, rfl, rfl, h2, h3, h4⟩
  · cases h1
  · simp only [Value.slice.injEq, Option.some.injEq, Addr.mk.injEq] at h1
    obtain ⟨⟨rfl, rfl, _⟩, rfl, rfl⟩ := h1
    have hS' := hS.pull [(b, .cells (pre ++ xs.flatMap A.f ++ sp).toArray e fz)]
    have hsz : (i + 1) * A.k ≤ xs.length * A.k := Nat.mul_le_mul_right _ hi
    have hcap : xs.length * A.k ≤ cap * A.k := Nat.mul_le_mul_right _ h2
    rw [Nat.add_mul, Nat.one_mul] at hsz
    obtain ⟨w', e1, e2, e3⟩ := x_store (T := T) hk hx hy (by rw [← Array.length_toList, hv, A.len]) (by rw [hv]; exact A.one x') hS'.has (by simp only [List.size_toArray, List.length_append, A.flat_len]; omega)
      (by
        intro j hj
        rcases h4 with h4 | h4
        · subst h4; simp
        · omega)
    rw [hv, flat_set A xs i x' pre sp hi] at e2
    refine wls e1 (h [(b, .cells (pre ++ (xs.set i x').flatMap A.f ++ sp).toArray e fz)] w' (.inr ⟨b, pre.length, cap, pre, sp, fz, by rw [List.length_set], rfl, rfl, by rw [List.length_set]; exact h2, by rw [List.length_set]; exact h3, h4⟩) ?_)
    exact hS'.upd (b := b) w' e2 e3

end
end Go.Proofs.Ytipffnogkijmnaa.Eng
