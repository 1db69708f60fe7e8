import Derived.Test.YtipffnogkijmnaaEng7
set_option linter.unusedVariables false
set_option linter.unusedSimpArgs false
namespace Go.Proofs.Ytipffnogkijmnaa.Eng
open Go

section
variable {α : Type} {P : Program} {n : Nat} {E : Env} {w w' : World} {T : TypeId} {v : Value} {M : Mem} {Ls Ls' : List Chunk} {pos : String} {af : Array Edge} {d : Nat} {l : List Oper} {ops : Array Oper} {KE : Env → World → Prop} {A : Enc α}

theorem Enc.flat_split (A : Enc α) (xs : List α) (k : Nat) : xs.flatMap A.f = (xs.take k).flatMap A.f ++ (xs.drop k).flatMap A.f := by
  rw [← List.flatMap_append, List.take_append_drop]

/-! ### cutting slices -/
theorem Own.take {e : TypeId} {a : Option Addr} {m c k : Nat} {xs : List α} {H : Chunk} (h : Own e A (.slice a m c) xs H) (hk : k ≤ xs.length) : Own e A (.slice a k c) (xs.take k) H := by
  rcases h with ⟨h1, rfl, rfl⟩ | ⟨b, off, cap, pre, sp, fz, h1, rfl, h2, h3, h4, h5⟩
  · simp only [Value.slice.injEq] at h1
    obtain ⟨rfl, rfl, rfl⟩ := h1
    obtain rfl : k = 0 := by simpa using hk
    exact .inl ⟨rfl, rfl, rfl⟩
  · simp only [Value.slice.injEq] at h1
    obtain ⟨rfl, rfl, rfl⟩ := h1
    have hl : (xs.take k).length = k := by rw [List.length_take]; omega
    refine .inr ⟨b, off, c, pre, (xs.drop k).flatMap A.f ++ sp, fz, by rw [hl], ?_, h2, by rw [hl]; omega, ?_, h5⟩
    · rw [show xs.flatMap A.f = _ from A.flat_split xs k]; simp
    · rw [hl, List.length_append, A.flat_len, List.length_drop]
      have : (c - k) * A.k = (xs.length - k) * A.k + (c - xs.length) * A.k := by rw [← Nat.add_mul]; congr 1; omega
      omega
theorem Own.drop {e : TypeId} {b off m c k : Nat} {xs : List α} {H : Chunk} (h : Own e A (.slice (some ⟨b, off, none⟩) m c) xs H) (hk : k ≤ xs.length) : Own e A (.slice (some ⟨b, off + k * A.k, none⟩) (xs.length - k) (c - k)) (xs.drop k) H := by
  rcases h with ⟨h1, rfl, rfl⟩ | ⟨b, off, cap, pre, sp, fz, h1, rfl, h2, h3, h4, h5⟩
  · cases h1
  · simp only [Value.slice.injEq, Option.some.injEq, Addr.mk.injEq] at h1
    obtain ⟨⟨rfl, rfl, _⟩, rfl, rfl⟩ := h1
    have hl : (xs.drop k).length = xs.length - k := List.length_drop
    refine .inr ⟨_, _, c - k, pre ++ (xs.take k).flatMap A.f, sp, fz, by rw [hl], ?_, ?_, by rw [hl]; omega, ?_, ?_⟩
    · rw [show xs.flatMap A.f = _ from A.flat_split xs k]; simp
    · rw [List.length_append, A.flat_len, List.length_take, h2, Nat.min_eq_left hk]
    · rw [hl, show c - k - (xs.length - k) = c - xs.length by omega]; exact h4
    · refine h5.imp id fun h => ?_
      have : c * A.k = k * A.k + (c - k) * A.k := by rw [← Nat.add_mul]; congr 1; omega
      omega
/-- all of it cut away: the address stays -/
theorem Own.none {e : TypeId} {a : Option Addr} {m c : Nat} {xs : List α} {H : Chunk} (h : Own e A (.slice a m c) xs H) : Own e A (.slice a 0 0) [] H := by
  have h := h.take (k := 0) (Nat.zero_le _)
  rcases h with ⟨h1, h2, rfl⟩ | ⟨b, off, cap, pre, sp, fz, h1, rfl, h2, h3, h4, h5⟩
  · simp only [Value.slice.injEq] at h1
    obtain ⟨rfl, _, _⟩ := h1
    exact .inl ⟨rfl, rfl, rfl⟩
  · simp only [Value.slice.injEq] at h1
    obtain ⟨rfl, _, _⟩ := h1
    refine .inr ⟨b, off, 0, pre, sp, fz, rfl, by simp, h2, Nat.le_refl _, by simp, ?_⟩
    refine h5.imp id fun h => ?_
    simp; omega
theorem Holds.take {a : Option Addr} {m c k c' : Nat} {xs : List α} (h : Holds w A (.slice a m c) xs) (hk : k ≤ xs.length) : Holds w A (.slice a k c') (xs.take k) := by
  obtain ⟨a', c', h1, h2⟩ := h
  simp only [Value.slice.injEq] at h1
  obtain ⟨rfl, rfl, rfl⟩ := h1
  have hl : (xs.take k).length = k := by rw [List.length_take]; omega
  refine ⟨a, _, by rw [hl], ?_⟩
  rcases h2 with rfl | ⟨b, off, rfl, h2⟩
  · exact .inl (by simp)
  · refine .inr ⟨b, off, rfl, fun i v hi => h2 i v ?_⟩
    have e : xs.flatMap A.f = (xs.take k).flatMap A.f ++ (xs.drop k).flatMap A.f := by rw [← List.flatMap_append, List.take_append_drop]
    rw [e, List.getElem?_append_left (List.getElem?_eq_some_iff.1 hi).1]; exact hi
theorem Holds.drop {b off m c k c' : Nat} {xs : List α} (h : Holds w A (.slice (some ⟨b, off, none⟩) m c) xs) (hk : k ≤ xs.length) : Holds w A (.slice (some ⟨b, off + k * A.k, none⟩) (xs.length - k) c') (xs.drop k) := by
  obtain ⟨a', c', h1, h2⟩ := h
  simp only [Value.slice.injEq] at h1
  obtain ⟨rfl, rfl, rfl⟩ := h1
  have hl : (xs.drop k).length = xs.length - k := List.length_drop
  refine ⟨_, _, by rw [hl], ?_⟩
  rcases h2 with rfl | ⟨b, off, he, h2⟩
  · exact .inl (by simp)
  · simp only [Option.some.injEq, Addr.mk.injEq] at he
    obtain ⟨rfl, rfl, _⟩ := he
    refine .inr ⟨_, _, rfl, fun i v hi => ?_⟩
    have e : xs.flatMap A.f = (xs.take k).flatMap A.f ++ (xs.drop k).flatMap A.f := by rw [← List.flatMap_append, List.take_append_drop]
    have := h2 (k * A.k + i) v (by rw [e, List.getElem?_append_right (by rw [A.flat_len, List.length_take, Nat.min_eq_left hk]; omega), A.flat_len, List.length_take, Nat.min_eq_left hk, Nat.add_sub_cancel_left]; exact hi)
    rwa [← Nat.add_assoc] at this
theorem Holds.nil {a : Option Addr} {c : Nat} : Holds w A (.slice a 0 c) ([] : List α) := ⟨a, c, rfl, .inl rfl⟩

/-- a slice of a slice: its bounds -/
def cutV (a : Option Addr) (lo hi m size : Nat) : Value := .slice (if m = lo then a else a.map (·.add (lo * size))) (hi - lo) (m - lo)
theorem y_sl {x : Operand} {a : Option Addr} {m c size lv hv mv : Nat} {U e : TypeId} {lo hi mx : Option Operand} (hU : P.underlying U = some (.slice e)) (he : Size P e size) (hx : ev E x = some (.slice a m c))
    (hm : match mx with | none => mv = c | some o => ∃ k i, ev E o = some (.int k i) ∧ 0 ≤ i ∧ i.toNat = mv ∧ mv ≤ c)
    (hh : match hi with | none => hv = m ∧ mx = none | some o => ∃ k i, ev E o = some (.int k i) ∧ 0 ≤ i ∧ i.toNat = hv ∧ hv ≤ mv)
    (hl : match lo with | none => lv = 0 | some o => ∃ k i, ev E o = some (.int k i) ∧ 0 ≤ i ∧ i.toNat = lv ∧ lv ≤ hv) :
    Y P E (.slice U x lo hi mx) T w (cutV a lv hv mv size) w := by
  intro ac ha d pos af g
  have e1 : ∀ {z : Operand} {k : IntKind} {i : Int}, ev E z = some (.int k i) → ac.eval z = .int k i := fun h => ev_sound ha h
  have hb : (Instr.sliceBounds true m c (lo.map ac.eval) (hi.map ac.eval) (mx.map ac.eval)).run P w = .ok (lv, hv, mv) w := by
    cases mx with
    | none =>
      simp only at hm
      subst hm
      cases hi with
      | none =>
        simp only at hh
        obtain ⟨rfl, _⟩ := hh
        cases lo with
        | none => simp only at hl; subst hl; rfl
        | some o =>
          obtain ⟨k, i, h1, h2, h3, h4⟩ := hl
          have : i ≤ (hv : Int) := by omega
          simp [Instr.sliceBounds, Instr.sliceBound, asIntOf, Bind.bind, Sem.bind, Pure.pure, Sem.run, e1 h1, h2, h3, this]
      | some oh =>
        obtain ⟨k, i, h1, h2, h3, h4⟩ := hh
        have hi1 : i ≤ (mv : Int) := by omega
        cases lo with
        | none => simp only at hl; subst hl; simp [Instr.sliceBounds, Instr.sliceBound, asIntOf, Bind.bind, Sem.bind, Pure.pure, Sem.run, e1 h1, h2, h3, hi1]
        | some o =>
          obtain ⟨k', i', g1, g2, g3, g4⟩ := hl
          have hi2 : i' ≤ ((i.toNat : Nat) : Int) := by omega
          have hi3 : i' ≤ i := by omega
          have hi4 : i' ≤ (hv : Int) := by omega
          simp [Instr.sliceBounds, Instr.sliceBound, asIntOf, Bind.bind, Sem.bind, Pure.pure, Sem.run, e1 h1, h2, h3, hi1, e1 g1, g2, g3, hi2, hi3, hi4]
    | some om =>
      obtain ⟨km, im, m1, m2, m3, m4⟩ := hm
      have hi0 : im ≤ (c : Int) := by omega
      cases hi with
      | none => exact absurd hh.2 (by simp)
      | some oh =>
        obtain ⟨k, i, h1, h2, h3, h4⟩ := hh
        have hi1 : i ≤ ((im.toNat : Nat) : Int) := by omega
        have hi1' : i ≤ im := by omega
        have hi5 : i ≤ (mv : Int) := by omega
        cases lo with
        | none => simp only at hl; subst hl; simp [Instr.sliceBounds, Instr.sliceBound, asIntOf, Bind.bind, Sem.bind, Pure.pure, Sem.run, e1 h1, h2, h3, hi1, hi1', hi5, e1 m1, m2, m3, hi0]
        | some o =>
          obtain ⟨k', i', g1, g2, g3, g4⟩ := hl
          have hi2 : i' ≤ ((i.toNat : Nat) : Int) := by omega
          have hi3 : i' ≤ i := by omega
          have hi4 : i' ≤ (hv : Int) := by omega
          simp [Instr.sliceBounds, Instr.sliceBound, asIntOf, Bind.bind, Sem.bind, Pure.pure, Sem.run, e1 h1, h2, h3, hi1, hi1', hi5, e1 m1, m2, m3, hi0, e1 g1, g2, g3, hi2, hi3, hi4]
  have hs : (Instr.sliceAt U (ac.eval x) (lo.map ac.eval) (hi.map ac.eval) (mx.map ac.eval)).run P w = .ok (cutV a lv hv mv size) w := by
    unfold Instr.sliceAt
    rw [run_und hU]
    simp only
    unfold Instr.slice
    rw [run_und hU, ev_sound ha hx]
    simp only
    rw [Sem.run_bind_ok' hb]
    simp only
    rw [run_sizeOf he]
    rfl
  simp only [execOp]
  exact (Sem.run_bind_ok' hs).trans rfl

/-- append that stays in its block -/
theorem x_append_in {e T1 T2 : TypeId} {x y : Operand} {u : Value} {b off cap : Nat} {xs ys : List α} {H : Chunk} {z : Value} {nb : Nat} (h1 : P.underlying T1 = some (.slice e)) (h2 : P.underlying T2 = some (.slice e))
    (hk : Size P e A.k) (hx : ev E x = some (.slice (some ⟨b, off, none⟩) xs.length cap)) (hy : ev E y = some u) (ho : Own e A (.slice (some ⟨b, off, none⟩) xs.length cap) xs H) (hu : Holds w A u ys) (hS : St M w (H :: Ls)) (hc : xs.length + ys.length ≤ cap) :
    ∃ H' w', Y P E (.call ⟨.builtin .append, #[x, y], #[T1, T2]⟩) T w (.slice (some ⟨b, off, none⟩) (xs ++ ys).length cap) w' ∧ Own e A (.slice (some ⟨b, off, none⟩) (xs ++ ys).length cap) (xs ++ ys) H' ∧ St M w' (H' :: Ls) := by
  have hlen : Builtin.lenOf u = Sem.pure ys.length := by obtain ⟨a, c, rfl⟩ := hu.slice; rfl
  have hy1 := firstCells_run (P := P) hu
  rcases ho with ⟨he, _⟩ | ⟨b', off', cap', pre, sp, fz, he, rfl, rfl, g1, g2, g3⟩
  · cases he
  simp only [Value.slice.injEq, Option.some.injEq, Addr.mk.injEq] at he
  obtain ⟨⟨rfl, rfl, _⟩, _, rfl⟩ := he
  have hsz : pre.length + cap * A.k ≤ (pre ++ xs.flatMap A.f ++ sp).toArray.size := by
    simp only [List.size_toArray, List.length_append, A.flat_len]
    have : cap * A.k = xs.length * A.k + (cap - xs.length) * A.k := by rw [← Nat.add_mul]; congr 1; omega
    omega
  have hle : (ys.flatMap A.f).length ≤ sp.length := by
    rw [A.flat_len]; exact Nat.le_trans (Nat.mul_le_mul_right _ (by omega)) g2
  have hb0 := hS.has (b := b)
  obtain ⟨w', e1, e2, e3⟩ := storeCells_run (P := P) (j := pre.length + xs.length * A.k) (vs := ys.flatMap A.f) (i := 0) hb0 (A.flat_one ys)
    (by refine Nat.le_trans ?_ hsz; rw [A.flat_len]; have : cap * A.k ≥ (xs.length + ys.length) * A.k := Nat.mul_le_mul_right _ hc; rw [Nat.add_mul] at this; omega)
    (by
      intro i' hi'
      rcases g3 with g3 | g3
      · subst g3; simp
      · have : cap * A.k ≥ (xs.length + ys.length) * A.k := Nat.mul_le_mul_right _ hc
        rw [Nat.add_mul] at this
        rw [A.flat_len] at hi'
        omega)
  refine ⟨[(b, .cells (pre ++ (xs ++ ys).flatMap A.f ++ sp.drop (ys.length * A.k)).toArray e fz)], w', y_builtin hx hy fun cs => ?_, ?_, ?_⟩
  · have hr : (Builtin.append_ #[T1, T2] T #[.slice (some ⟨b, pre.length, none⟩) xs.length cap, u]).run P w = .ok (.slice (some ⟨b, pre.length, none⟩) (xs ++ ys).length cap) w' := by
      unfold Builtin.append_
      simp only [List.getElem?_toArray, List.getElem?_cons_zero, List.getElem?_cons_succ]
      rw [run_und h1]
      simp only
      rw [run_sizeOf hk, run_und h2]
      rw [Sem.run_bind_ok' (w' := w) (a := false) rfl]
      simp only [Bool.false_eq_true, if_false, hlen]
      rw [Sem.run_bind_ok' (w' := w) (a := ys.length) rfl]
      simp only [if_pos hc, Bool.not_false, if_true]
      rw [Sem.run_bind_ok' hy1]
      simp only [Addr.add_mk, List.length_append]
      exact (Sem.run_bind_ok' e1).trans rfl
    simp only [builtin]
    exact (Sem.run_bind_ok' hr).trans rfl
  · refine .inr ⟨b, pre.length, cap, pre, _, fz, rfl, rfl, rfl, by simpa using hc, ?_, g3⟩
    simp only [List.length_drop, List.length_append]
    have : (cap - xs.length) * A.k = (cap - (xs.length + ys.length)) * A.k + ys.length * A.k := by rw [← Nat.add_mul]; congr 1; omega
    omega
  · refine hS.upd (b := b) w' ?_ e3
    rw [e2]
    have := setCells_mid (pre ++ xs.flatMap A.f) (sp.take (ys.length * A.k)) (sp.drop (ys.length * A.k)) (ys.flatMap A.f) (by rw [List.length_take, A.flat_len]; rw [A.flat_len] at hle; omega)
    rw [List.append_assoc (pre ++ xs.flatMap A.f), List.take_append_drop] at this
    simp only [List.length_append, A.flat_len] at this
    rw [Nat.add_zero, this]
    simp [List.flatMap_append]

/-- clear of cells behind a slice's end -/
theorem x_clear_spare {e U : TypeId} {x : Operand} {b off m cap r c' : Nat} {xs : List α} {H : Chunk} {z : Value} (hU : P.underlying U = some (.slice e)) (hz : Zero P e z) (hzk : z.cells.size = A.k) (hz1 : ∀ v ∈ z.cells.toList, oneC v = true)
    (hx : ev E x = some (.slice (some ⟨b, off + xs.length * A.k, none⟩) r c')) (ho : Own e A (.slice (some ⟨b, off, none⟩) m cap) xs H) (hr : xs.length + r ≤ cap) (hS : St M w (H :: Ls)) :
    ∃ H' w', Y P E (.call ⟨.builtin .clear, #[x], #[U]⟩) T w (.tuple #[]) w' ∧ Own e A (.slice (some ⟨b, off, none⟩) m cap) xs H' ∧ St M w' (H' :: Ls) := by
  rcases ho with ⟨he, _⟩ | ⟨b', off', cap', pre, sp, fz, he, rfl, rfl, g1, g2, g3⟩
  · cases he
  simp only [Value.slice.injEq, Option.some.injEq, Addr.mk.injEq] at he
  obtain ⟨⟨rfl, rfl, _⟩, rfl, rfl⟩ := he
  have hcall : ∀ {w' : World}, (Builtin.clear_ #[U] T #[.slice (some ⟨b, pre.length + xs.length * A.k, none⟩) r c']).run P w = .ok (.tuple #[]) w' → Y P E (.call ⟨.builtin .clear, #[x], #[U]⟩) T w (.tuple #[]) w' := by
    intro w' h a ha d pos af g
    simp only [execOp, resolve, invoke, Bind.bind, Pure.pure, Sem.bind, builtin]
    have e0 : (#[x].map a.eval) = #[.slice (some ⟨b, pre.length + xs.length * A.k, none⟩) r c'] := by simp [ev_sound ha hx]
    rw [e0]
    exact (Sem.run_bind_ok' h).trans rfl
  by_cases hr0 : r = 0
  · subst hr0
    refine ⟨_, w, hcall ?_, .inr ⟨b, pre.length, cap, pre, sp, fz, rfl, rfl, rfl, g1, g2, g3⟩, hS⟩
    unfold Builtin.clear_
    simp only [List.getElem?_toArray, List.getElem?_cons_zero]
    rw [run_und hU]
    rfl
  · have hzl : (Builtin.zeroCells z.cells r).toList.length = r * A.k := by simp [Builtin.zeroCells, hzk]
    have hle : r * A.k ≤ sp.length := Nat.le_trans (Nat.mul_le_mul_right _ (by omega)) g2
    have hz2 : ∀ v ∈ (Builtin.zeroCells z.cells r).toList, oneC v = true := by
      intro v hv
      simp only [Builtin.zeroCells, Array.toList_map, List.mem_map] at hv
      obtain ⟨i, hi, rfl⟩ := hv
      have hpos : 0 < z.cells.size := by
        rcases Nat.eq_zero_or_pos z.cells.size with h | h
        · rw [h] at hi; simp at hi
        · exact h
      have hm : i % z.cells.size < z.cells.size := Nat.mod_lt _ hpos
      rw [getElem!_pos z.cells _ hm]
      exact hz1 _ (by simp)
    have hcap : cap * A.k = xs.length * A.k + (cap - xs.length) * A.k := by rw [← Nat.add_mul]; congr 1; omega
    have hrr : r * A.k ≤ (cap - xs.length) * A.k := Nat.mul_le_mul_right _ (by omega)
    obtain ⟨w', e1, e2, e3⟩ := storeCells_run (P := P) (j := pre.length + xs.length * A.k) (vs := (Builtin.zeroCells z.cells r).toList) (i := 0) (hS.has (b := b)) hz2
      (by simp only [List.size_toArray, List.length_append, A.flat_len, hzl]; omega)
      (by
        intro i' hi'
        rw [hzl] at hi'
        rcases g3 with g3 | g3
        · subst g3; simp
        · omega)
    refine ⟨[(b, .cells (pre ++ xs.flatMap A.f ++ ((Builtin.zeroCells z.cells r).toList ++ sp.drop (r * A.k))).toArray e fz)], w', hcall ?_, .inr ⟨b, pre.length, cap, pre, _, fz, rfl, rfl, rfl, g1, ?_, g3⟩, ?_⟩
    · unfold Builtin.clear_
      simp only [List.getElem?_toArray, List.getElem?_cons_zero]
      rw [run_und hU]
      obtain ⟨r', rfl⟩ : ∃ r', r = r' + 1 := ⟨r - 1, by omega⟩
      simp only
      rw [run_zero hz]
      exact (Sem.run_bind_ok' e1).trans rfl
    · rw [List.length_append, hzl, List.length_drop]; omega
    · refine hS.upd (b := b) w' ?_ e3
      rw [e2]
      have := setCells_mid (pre ++ xs.flatMap A.f) (sp.take (r * A.k)) (sp.drop (r * A.k)) (Builtin.zeroCells z.cells r).toList (by rw [hzl, List.length_take]; omega)
      rw [List.append_assoc (pre ++ xs.flatMap A.f), List.take_append_drop] at this
      simp only [List.length_append, A.flat_len] at this
      rw [Nat.add_zero, this]
      simp

/-! ### a store into a part of an element -/
theorem flat_setF (A : Enc α) (xs : List α) (i : Nat) (x x' : α) (pre sp p o q vs : List Value) (hi : xs[i]? = some x) (h1 : A.f x = p ++ o ++ q) (h2 : A.f x' = p ++ vs ++ q) (ho : o.length = vs.length) :
    setCells (pre ++ xs.flatMap A.f ++ sp).toArray (pre.length + i * A.k + p.length) vs = (pre ++ (xs.set i x').flatMap A.f ++ sp).toArray := by
  obtain ⟨hlt, he⟩ := List.getElem?_eq_some_iff.1 hi
  have hs : xs = xs.take i ++ x :: xs.drop (i + 1) := by rw [← he, ← List.drop_eq_getElem_cons hlt, List.take_append_drop]
  have hs' : xs.set i x' = xs.take i ++ x' :: xs.drop (i + 1) := by rw [List.set_eq_take_append_cons_drop, if_pos hlt]
  have htl : (xs.take i).length = i := by rw [List.length_take]; omega
  have e1 : pre ++ xs.flatMap A.f ++ sp = (pre ++ (xs.take i).flatMap A.f ++ p) ++ o ++ (q ++ (xs.drop (i + 1)).flatMap A.f ++ sp) := by
    conv => lhs; rw [hs]
    simp [List.flatMap_append, List.flatMap_cons, h1]
  have e2 : pre ++ (xs.set i x').flatMap A.f ++ sp = (pre ++ (xs.take i).flatMap A.f ++ p) ++ vs ++ (q ++ (xs.drop (i + 1)).flatMap A.f ++ sp) := by
    rw [hs']
    simp [List.flatMap_append, List.flatMap_cons, h2]
  have hl : (pre ++ (xs.take i).flatMap A.f ++ p).length = pre.length + i * A.k + p.length := by
    simp only [List.length_append, A.flat_len, htl]
  rw [e1, e2, ← hl]
  exact setCells_mid _ _ _ _ ho

theorem a_storeF {e U : TypeId} {x y : Operand} {b off cap i m fo : Nat} {xs : List α} {x0 x' : α} {H : Chunk} {k : Nat} (hk : Size P U k) (hx : ev E x = some (.pointer (some ⟨b, off + i * A.k + fo, none⟩))) (hy : ev E y = some v) (hvk : v.cells.size = k)
    (p o q : List Value) (h1 : A.f x0 = p ++ o ++ q) (h2 : A.f x' = p ++ v.cells.toList ++ q) (hp : p.length = fo) (hol : o.length = k)
    (ho : Own e A (.slice (some ⟨b, off, none⟩) m cap) xs H) (hi : xs[i]? = some x0) (hS : St M w Ls) [hpl : Pull Ls H Ls']
    (h : ∀ H' w', Own e A (.slice (some ⟨b, off, none⟩) m cap) (xs.set i x') H' → St M w' (H' :: Ls') → WL P n ops KE l E w') : WL P n ops KE (⟨none, .store U x y, T, pos, af, none⟩ :: l) E w := by
  obtain ⟨hlt, _⟩ := List.getElem?_eq_some_iff.1 hi
  rcases ho with ⟨he, _⟩ | ⟨b', off', cap', pre, sp, fz, he, rfl, rfl, g1, g2, g3⟩
  · cases he
  simp only [Value.slice.injEq, Option.some.injEq, Addr.mk.injEq] at he
  obtain ⟨⟨rfl, rfl, _⟩, rfl, rfl⟩ := he
  subst hp
  have hS' := hS.pull [(b, .cells (pre ++ xs.flatMap A.f ++ sp).toArray e fz)]
  have hsz : (i + 1) * A.k ≤ xs.length * A.k := Nat.mul_le_mul_right _ hlt
  have hcap : xs.length * A.k ≤ cap * A.k := Nat.mul_le_mul_right _ g1
  rw [Nat.add_mul, Nat.one_mul] at hsz
  have hfl : p.length + k ≤ A.k := by rw [← A.len x0, h1]; simp [hol]
  have hvl : v.cells.toList.length = k := by simpa using hvk
  obtain ⟨w', e1, e2, e3⟩ := x_store (T := T) hk hx hy hvk (by intro u hu; exact A.one x' u (by rw [h2]; simp [hu])) hS'.has (by simp only [List.size_toArray, List.length_append, A.flat_len]; omega)
    (by
      intro j hj
      rcases g3 with h4 | h4
      · subst h4; simp
      · omega)
  rw [flat_setF A xs i x0 x' pre sp p o q _ hi h1 h2 (by rw [hol, hvl])] at e2
  refine wls e1 (h [(b, .cells (pre ++ (xs.set i x').flatMap A.f ++ sp).toArray e fz)] w' (.inr ⟨b, pre.length, cap, pre, sp, fz, by rw [List.length_set], rfl, rfl, by rw [List.length_set]; exact g1, by rw [List.length_set]; exact g2, g3⟩) ?_)
  exact hS'.upd (b := b) w' e2 e3

end
end Go.Proofs.Ytipffnogkijmnaa.Eng
