import Derived.Test.YtipffnogkijmnaaEng2
set_option linter.unusedVariables false
set_option linter.unusedSimpArgs false
namespace Go.Proofs.Ytipffnogkijmnaa.Eng
open Go

/-! ### What is known of memory: M, blocks that nobody changes any more; Ls, chunks of blocks that are ours -/
structure Mem where
  at_ : Nat → Option Obj
  os : Os
  out : Array (Nat × ByteArray)
  tape : Nat → Question → Nat
instance : CoeFun Mem fun _ => Nat → Option Obj := ⟨Mem.at_⟩
def Io (w w' : World) : Prop := w'.os = w.os ∧ w'.output = w.output ∧ w'.tape = w.tape
theorem Io.refl (w : World) : Io w w := ⟨rfl, rfl, rfl⟩
theorem Io.trans {w1 w2 w3 : World} (h : Io w1 w2) (h' : Io w2 w3) : Io w1 w3 := ⟨h'.1.trans h.1, h'.2.1.trans h.2.1, h'.2.2.trans h.2.2⟩
abbrev Chunk := List (Nat × Obj)
structure St (M : Mem) (w : World) (Ls : List Chunk) : Prop where
  imm : ∀ b o, M b = some o → w.heap[b]? = some o
  own : ∀ b o, (b, o) ∈ Ls.flatten → w.heap[b]? = some o
  apart : ∀ b o, (b, o) ∈ Ls.flatten → M b = none
  nodup : (Ls.flatten.map (·.1)).Nodup
  io : w.os = M.os ∧ w.output = M.out ∧ w.tape = M.tape

/-- Block b holds o in one of the chunks. -/
class Has (Ls : List Chunk) (b : Nat) (o : outParam Obj) : Prop where
  mem : (b, o) ∈ Ls.flatten
instance Has.head {b : Nat} {o : Obj} {Ls : List Chunk} : Has ([(b, o)] :: Ls) b o := ⟨by simp⟩
instance (priority := low) Has.tail {b : Nat} {o : Obj} {A : Chunk} {Ls : List Chunk} [h : Has Ls b o] : Has (A :: Ls) b o := ⟨by simp [h.mem]⟩
instance Has.headc {b : Nat} {o : Obj} {A : Chunk} {Ls : List Chunk} : Has (((b, o) :: A) :: Ls) b o := ⟨by simp⟩

/-- Block b of Ls holds another thing: Ls'. -/
class Upd (Ls : List Chunk) (b : Nat) (o : Obj) (Ls' : outParam (List Chunk)) : Prop where
  split : ∃ (X Y : Chunk) (o0 : Obj), Ls.flatten = X ++ (b, o0) :: Y ∧ Ls'.flatten = X ++ (b, o) :: Y
instance Upd.head {b : Nat} {o o0 : Obj} {A : Chunk} {Ls : List Chunk} : Upd (((b, o0) :: A) :: Ls) b o (((b, o) :: A) :: Ls) := ⟨[], A ++ Ls.flatten, o0, by simp, by simp⟩
instance (priority := low) Upd.tail {b : Nat} {o : Obj} {A : Chunk} {Ls Ls' : List Chunk} [h : Upd Ls b o Ls'] : Upd (A :: Ls) b o (A :: Ls') := ⟨by
  obtain ⟨X, Y, o0, h1, h2⟩ := h.split
  exact ⟨A ++ X, Y, o0, by simp [h1], by simp [h2]⟩⟩

/-- Chunk A is one of Ls; the others: Ls'. -/
class Pull (Ls : List Chunk) (A : Chunk) (Ls' : outParam (List Chunk)) : Prop where
  perm : Ls.flatten.Perm (A ++ Ls'.flatten)
instance Pull.head {A : Chunk} {Ls : List Chunk} : Pull (A :: Ls) A Ls := ⟨by simp⟩
instance (priority := low) Pull.tail {A B : Chunk} {Ls Ls' : List Chunk} [h : Pull Ls A Ls'] : Pull (B :: Ls) A (B :: Ls') := ⟨by
  have := h.perm
  simp only [List.flatten_cons]
  refine (List.Perm.append_left B this).trans ?_
  rw [← List.append_assoc, ← List.append_assoc]
  exact List.Perm.append_right _ List.perm_append_comm⟩

section
variable {M : Mem} {w : World} {Ls Ls' : List Chunk} {A B : Chunk}

theorem St.perm (h : St M w Ls) (hp : Ls.flatten.Perm Ls'.flatten) : St M w Ls' :=
  ⟨h.imm, fun b o hm => h.own b o (hp.mem_iff.2 hm), fun b o hm => h.apart b o (hp.mem_iff.2 hm), ((hp.map _).nodup_iff).1 h.nodup, h.io⟩
theorem St.pull (h : St M w Ls) (A : Chunk) [p : Pull Ls A Ls'] : St M w (A :: Ls') := h.perm (by simpa using p.perm)
theorem St.split (h : St M w ((A ++ B) :: Ls)) : St M w (A :: B :: Ls) := h.perm (by simp)
theorem St.join (h : St M w (A :: B :: Ls)) : St M w ((A ++ B) :: Ls) := h.perm (by simp)
theorem St.uncons {x : Nat × Obj} (h : St M w ((x :: A) :: Ls)) : St M w ([x] :: A :: Ls) := h.perm (by simp)
theorem St.cons {x : Nat × Obj} (h : St M w ([x] :: A :: Ls)) : St M w ((x :: A) :: Ls) := h.perm (by simp)
theorem St.drop (h : St M w (A :: Ls)) : St M w Ls :=
  ⟨h.imm, fun b o hm => h.own b o (by simp; exact .inr (by simpa using hm)), fun b o hm => h.apart b o (by simp; exact .inr (by simpa using hm)),
   by have := h.nodup; simp only [List.flatten_cons, List.map_append] at this; exact (List.nodup_append.1 this).2.1, h.io⟩
theorem St.nil (h : St M w Ls) : St M w ([] :: Ls) := h.perm (by simp)
theorem St.nils (h : St M w Ls) : St M w [] := ⟨h.imm, by simp, by simp, by simp, h.io⟩

theorem St.has {b : Nat} {o : Obj} (h : St M w Ls) [m : Has Ls b o] : w.heap[b]? = some o := h.own b o m.mem

/-- A world that differs in its draws alone. -/
theorem St.same {w' : World} (h : St M w Ls) (e : w'.heap = w.heap ∧ Io w w') : St M w' Ls :=
  have e2 := e.2
  have e := e.1
  ⟨fun b o hm => by rw [e]; exact h.imm b o hm, fun b o hm => by rw [e]; exact h.own b o hm, h.apart, h.nodup, e2.1.trans h.io.1, e2.2.1.trans h.io.2.1, e2.2.2.trans h.io.2.2⟩

theorem St.push (h : St M w Ls) (o : Obj) (w' : World) (e : w'.heap = w.heap.push o) (i : Io w w') : St M w' ([(w.heap.size, o)] :: Ls) := by
  have lt : ∀ b o, w.heap[b]? = some o → b < w.heap.size := fun b o h => by
    rcases Nat.lt_or_ge b w.heap.size with h' | h'
    · exact h'
    · rw [Array.getElem?_eq_none h'] at h; cases h
  refine ⟨fun b x hm => ?_, fun b x hm => ?_, fun b x hm => ?_, ?_, i.1.trans h.io.1, i.2.1.trans h.io.2.1, i.2.2.trans h.io.2.2⟩
  · have := h.imm b x hm
    rw [e, Array.getElem?_push, if_neg (by have := lt _ _ this; omega)]; exact this
  · simp only [List.flatten_cons, List.cons_append, List.nil_append, List.mem_cons, Prod.mk.injEq] at hm
    rcases hm with ⟨rfl, rfl⟩ | hm
    · rw [e]; simp
    · have := h.own b x hm
      rw [e, Array.getElem?_push, if_neg (by have := lt _ _ this; omega)]; exact this
  · simp only [List.flatten_cons, List.cons_append, List.nil_append, List.mem_cons, Prod.mk.injEq] at hm
    rcases hm with ⟨rfl, rfl⟩ | hm
    · cases hM : M w.heap.size with
      | none => rfl
      | some y => exact absurd (lt _ _ (h.imm _ _ hM)) (by omega)
    · exact h.apart b x hm
  · simp only [List.flatten_cons, List.cons_append, List.nil_append, List.map_cons, List.nodup_cons]
    refine ⟨fun hm => ?_, h.nodup⟩
    obtain ⟨⟨b, x⟩, hm, hb⟩ := List.mem_map.1 hm
    have := lt _ _ (h.own b x hm)
    simp only at hb; omega

theorem St.upd {b : Nat} {o : Obj} (h : St M w Ls) [u : Upd Ls b o Ls'] (w' : World) (hb : w'.heap[b]? = some o) (ho : (∀ c, c ≠ b → w'.heap[c]? = w.heap[c]?) ∧ Io w w') : St M w' Ls' := by
  have i := ho.2
  replace ho := ho.1
  obtain ⟨X, Y, o0, h1, h2⟩ := u.split
  have hap : M b = none := h.apart b o0 (by rw [h1]; simp)
  have hnd := h.nodup
  rw [h1] at hnd
  simp only [List.map_append, List.map_cons] at hnd
  have hX : ∀ c x, (c, x) ∈ X → c ≠ b := by
    intro c x hm e
    subst e
    exact (List.nodup_append.1 hnd).2.2 c (List.mem_map.2 ⟨(c, x), hm, rfl⟩) c (by simp) rfl
  have hY : ∀ c x, (c, x) ∈ Y → c ≠ b := by
    intro c x hm e
    subst e
    have := (List.nodup_cons.1 (List.nodup_append.1 hnd).2.1).1
    exact this (List.mem_map.2 ⟨(c, x), hm, rfl⟩)
  refine ⟨fun c x hm => ?_, fun c x hm => ?_, fun c x hm => ?_, ?_, i.1.trans h.io.1, i.2.1.trans h.io.2.1, i.2.2.trans h.io.2.2⟩
  · rw [ho c (by intro e; subst e; rw [hap] at hm; cases hm)]; exact h.imm c x hm
  · rw [h2] at hm
    simp only [List.mem_append, List.mem_cons, Prod.mk.injEq] at hm
    rcases hm with hm | ⟨rfl, rfl⟩ | hm
    · rw [ho c (hX c x hm)]; exact h.own c x (by rw [h1]; simp [hm])
    · exact hb
    · rw [ho c (hY c x hm)]; exact h.own c x (by rw [h1]; simp [hm])
  · rw [h2] at hm
    simp only [List.mem_append, List.mem_cons, Prod.mk.injEq] at hm
    rcases hm with hm | ⟨rfl, rfl⟩ | hm
    · exact h.apart c x (by rw [h1]; simp [hm])
    · exact hap
    · exact h.apart c x (by rw [h1]; simp [hm])
  · rw [h2]; simp only [List.map_append, List.map_cons]; exact hnd

/-- More is fixed for good. -/
def Mle (M M' : Mem) : Prop := (∀ b o, M b = some o → M' b = some o) ∧ M'.os = M.os ∧ M'.out = M.out ∧ M'.tape = M.tape
theorem Mle.refl (M : Mem) : Mle M M := ⟨fun _ _ h => h, rfl, rfl, rfl⟩
theorem Mle.trans {M1 M2 M3 : Mem} (h : Mle M1 M2) (h' : Mle M2 M3) : Mle M1 M3 := ⟨fun b o hm => h'.1 b o (h.1 b o hm), h'.2.1.trans h.2.1, h'.2.2.1.trans h.2.2.1, h'.2.2.2.trans h.2.2.2⟩
/-- A chunk of ours is fixed for good. -/
theorem St.freeze (h : St M w (A :: Ls)) : ∃ M', Mle M M' ∧ (∀ b o, (b, o) ∈ A → M' b = some o) ∧ St M' w Ls := by
  classical
  have hnd := h.nodup
  simp only [List.flatten_cons, List.map_append] at hnd
  refine ⟨⟨fun b => if hb : ∃ o, (b, o) ∈ A then some (Classical.choose hb) else M b, M.os, M.out, M.tape⟩, ⟨?_, rfl, rfl, rfl⟩, ?_, ?_⟩
  · intro b o hm
    have : ¬ ∃ o, (b, o) ∈ A := fun ⟨x, hx⟩ => by rw [h.apart b x (by simp; exact .inl hx)] at hm; cases hm
    simp only [dif_neg this]; exact hm
  · intro b o hm
    have hb : ∃ o, (b, o) ∈ A := ⟨o, hm⟩
    simp only [dif_pos hb]
    have h1 := h.own b _ (by simp; exact .inl (Classical.choose_spec hb))
    have h2 := h.own b o (by simp; exact .inl hm)
    rw [h1] at h2; exact h2
  · refine ⟨fun b o hm => ?_, h.drop.own, fun b o hm => ?_, h.drop.nodup, h.io⟩
    · by_cases hb : ∃ o, (b, o) ∈ A
      · simp only [dif_pos hb, Option.some.injEq] at hm
        subst hm
        exact h.own b _ (by simp; exact .inl (Classical.choose_spec hb))
      · simp only [dif_neg hb] at hm; exact h.imm b o hm
    · have hb : ¬ ∃ o, (b, o) ∈ A := fun ⟨x, hx⟩ =>
        (List.nodup_append.1 hnd).2.2 b (List.mem_map.2 ⟨(b, x), hx, rfl⟩) b (List.mem_map.2 ⟨(b, o), hm, rfl⟩) rfl
      simp only [dif_neg hb]
      exact h.drop.apart b o hm

/-! cells -/
theorem cell_of {b j : Nat} {cs : Array Value} {T : TypeId} {fz : Nat × Nat} (h : w.heap[b]? = some (.cells cs T fz)) : w.cell? ⟨b, j, none⟩ = cs[j]? := by
  simp [World.cell?, h]
end

section
variable {P : Program} {E : Env} {w : World} {T : TypeId} {v : Value} {M : Mem} {Ls Ls' : List Chunk}

theorem run_sizeOf {k : Nat} (h : Size P T k) {α : Type} (f : Nat → Sem α) : (sizeOf T >>= f).run P w = (f k).run P w := by
  obtain ⟨i, h1, rfl⟩ := h
  simp [sizeOf, typeInfo, program, Bind.bind, Sem.bind, Pure.pure, Sem.run, h1]
theorem run_isAgg_plain (h : Plain P T) {α : Type} (f : Bool → Sem α) : (isAgg T >>= f).run P w = (f false).run P w := by
  obtain ⟨d, h1, h2, h3⟩ := h
  cases d <;> simp_all [isAgg, underlying, program, Bind.bind, Sem.bind, Pure.pure, Sem.run]
theorem run_isAgg_struct (h : IsStruct P T) {α : Type} (f : Bool → Sem α) : (isAgg T >>= f).run P w = (f true).run P w := by
  obtain ⟨d, h1⟩ := h
  simp_all [isAgg, underlying, program, Bind.bind, Sem.bind, Pure.pure, Sem.run]
theorem run_isAgg_array {m : Nat} {e : TypeId} (h : P.underlying T = some (.array m e)) {α : Type} (f : Bool → Sem α) : (isAgg T >>= f).run P w = (f true).run P w := by
  simp_all [isAgg, underlying, program, Bind.bind, Sem.bind, Pure.pure, Sem.run]

theorem Addr.add_mk {b j k : Nat} : (Addr.mk b j none).add k = ⟨b, j + k, none⟩ := by
  unfold Addr.add; split
  · subst_vars; rfl
  · rfl

/-- the k values from cell j on -/
def CellsAt (w : World) (b j : Nat) (vs : List Value) : Prop := ∀ i v, vs[i]? = some v → w.cell? ⟨b, j + i, none⟩ = some v

theorem loadCellsFrom_run {b j : Nat} : ∀ {vs : List Value} {i : Nat} {acc : Array Value}, CellsAt w b (j + i) vs →
    (loadCellsFrom ⟨b, j, none⟩ i vs.length acc).run P w = .ok (acc ++ vs.toArray) w
  | [], i, acc, h => by simp [loadCellsFrom, Pure.pure, Sem.run]
  | v :: vs, i, acc, h => by
    have h0 := h 0 v rfl
    have ih := loadCellsFrom_run (j := j) (vs := vs) (i := i + 1) (acc := acc.push v) fun k u hk => by
      have := h (k + 1) u (by simpa using hk)
      rwa [show j + (i + 1) + k = j + i + (k + 1) by omega]
    simp only [List.length_cons, loadCellsFrom]
    simp only [load, Bind.bind, Sem.bind, Sem.run, Addr.add_mk]
    rw [show j + i + 0 = j + i by omega] at h0
    rw [h0]
    simpa using ih

theorem loadCells_run {b j : Nat} {vs : List Value} (h : CellsAt w b j vs) : (loadCells ⟨b, j, none⟩ vs.length).run P w = .ok vs.toArray w := by
  have := loadCellsFrom_run (P := P) (j := j) (vs := vs) (i := 0) (acc := #[]) (by simpa using h)
  simpa [loadCells] using this

theorem loadVar_plain {b j : Nat} (hT : Plain P T) (hc : w.cell? ⟨b, j, none⟩ = some v) : (loadVar T ⟨b, j, none⟩).run P w = .ok v w := by
  unfold loadVar
  rw [run_isAgg_plain hT]
  simp [load, Sem.run, hc]
theorem loadVar_struct {b j k : Nat} {vs : List Value} (hT : IsStruct P T) (hk : Size P T k) (hl : vs.length = k) (hc : CellsAt w b j vs) : (loadVar T ⟨b, j, none⟩).run P w = .ok (.agg vs.toArray) w := by
  unfold loadVar
  rw [run_isAgg_struct hT]
  simp only [if_true]
  rw [run_sizeOf hk, ← hl]
  exact (Sem.run_bind_ok' (loadCells_run hc)).trans rfl
theorem loadVar_array {b j k m : Nat} {e : TypeId} {vs : List Value} (hT : P.underlying T = some (.array m e)) (hk : Size P T k) (hl : vs.length = k) (hc : CellsAt w b j vs) : (loadVar T ⟨b, j, none⟩).run P w = .ok (.agg vs.toArray) w := by
  unfold loadVar
  rw [run_isAgg_array hT]
  simp only [if_true]
  rw [run_sizeOf hk, ← hl]
  exact (Sem.run_bind_ok' (loadCells_run hc)).trans rfl

theorem y_load {x : Operand} {b j : Nat} {U : TypeId} (hU : Plain P U) (hx : ev E x = some (.pointer (some ⟨b, j, none⟩))) (hc : w.cell? ⟨b, j, none⟩ = some v) : Y P E (.load U x) T w v w := by
  intro a ha d pos af g
  simp only [execOp, Instr.loadAt, Instr.sureAddr, ev_sound ha hx]
  exact (Sem.run_bind_ok' (loadVar_plain hU hc)).trans rfl
theorem y_loadS {x : Operand} {b j k : Nat} {U : TypeId} {vs : List Value} (hU : IsStruct P U) (hk : Size P U k) (hx : ev E x = some (.pointer (some ⟨b, j, none⟩))) (hc : CellsAt w b j vs) (hl : vs.length = k) : Y P E (.load U x) T w (.agg vs.toArray) w := by
  intro a ha d pos af g
  simp only [execOp, Instr.loadAt, Instr.sureAddr, ev_sound ha hx]
  exact (Sem.run_bind_ok' (loadVar_struct hU hk hl hc)).trans rfl
theorem y_loadArr {x : Operand} {b j k m : Nat} {U e : TypeId} {vs : List Value} (hU : P.underlying U = some (.array m e)) (hk : Size P U k) (hx : ev E x = some (.pointer (some ⟨b, j, none⟩))) (hc : CellsAt w b j vs) (hl : vs.length = k) : Y P E (.load U x) T w (.agg vs.toArray) w := by
  intro a ha d pos af g
  simp only [execOp, Instr.loadAt, Instr.sureAddr, ev_sound ha hx]
  exact (Sem.run_bind_ok' (loadVar_array hU hk hl hc)).trans rfl

def oneC : Value → Bool
  | .agg _ | .tuple _ => false
  | _ => true
/-- storing values one by one into a block -/
def setCells (cs : Array Value) (j : Nat) : List Value → Array Value
  | [] => cs
  | v :: vs => setCells (cs.setIfInBounds j v) (j + 1) vs

theorem storeCells_run {b : Nat} {U : TypeId} {fz : Nat × Nat} {j : Nat} : ∀ {vs : List Value} {i : Nat} {w : World} {cs : Array Value}, w.heap[b]? = some (.cells cs U fz) → (∀ v ∈ vs, oneC v = true) → j + i + vs.length ≤ cs.size →
    (∀ i' < vs.length, ¬ (fz.1 ≤ j + i + i' ∧ j + i + i' < fz.2)) →
    ∃ w', (storeCells ⟨b, j, none⟩ vs i).run P w = .ok () w' ∧ w'.heap[b]? = some (.cells (setCells cs (j + i) vs) U fz) ∧ (∀ c, c ≠ b → w'.heap[c]? = w.heap[c]?) ∧ Io w w'
  | [], i, w, cs, h, _, _, _ => ⟨w, by simp [storeCells, Pure.pure, Sem.run], by simpa [setCells] using h, fun _ _ => rfl, Io.refl _⟩
  | v :: vs, i, w, cs, h, h1, h2, h3 => by
    have hlt : j + i < cs.size := by simp at h2; omega
    have hc : w.cell? ⟨b, j + i, none⟩ = some cs[j + i] := by rw [cell_of h]; simp [hlt]
    have hf : w.frozen? ⟨b, j + i, none⟩ = false := by
      have := h3 0 (by simp)
      simp only [World.frozen?, h]
      obtain ⟨lo, hi⟩ := fz
      simp only [Nat.add_zero] at this
      simp only [Bool.and_eq_false_imp, decide_eq_true_eq, decide_eq_false_iff_not]
      intro ha hb; exact this ⟨ha, hb⟩
    have hb : b < w.heap.size := by
      rcases Nat.lt_or_ge b w.heap.size with h' | h'
      · exact h'
      · rw [Array.getElem?_eq_none h'] at h; cases h
    have hw : (w.setCell ⟨b, j + i, none⟩ v).heap[b]? = some (.cells (cs.setIfInBounds (j + i) v) U fz) := by
      simp [World.setCell, Array.getElem?_modify, h]
    have ho : ∀ c, c ≠ b → (w.setCell ⟨b, j + i, none⟩ v).heap[c]? = w.heap[c]? := by
      intro c hc'
      simp [World.setCell, Array.getElem?_modify, Ne.symm hc']
    obtain ⟨w', e1, e2, e3, e4⟩ := storeCells_run (j := j) (vs := vs) (i := i + 1) hw (fun u hu => h1 u (List.mem_cons_of_mem _ hu)) (by simp at h2 ⊢; omega)
      (fun i' hi' => by have := h3 (i' + 1) (by simp; omega); rwa [show j + (i + 1) + i' = j + i + (i' + 1) by omega])
    refine ⟨w', ?_, by simpa [setCells, Nat.add_assoc] using e2, fun c hc' => by rw [e3 c hc', ho c hc'], e4⟩
    have hone := h1 v (by simp)
    rw [← e1]
    simp only [storeCells, store, Bind.bind, Sem.bind, Addr.add_mk]
    cases v <;> simp [oneC] at hone <;> simp [Sem.run, hc, hf]

end
end Go.Proofs.Ytipffnogkijmnaa.Eng
