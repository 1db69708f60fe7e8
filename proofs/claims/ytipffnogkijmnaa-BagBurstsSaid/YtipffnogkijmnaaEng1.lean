import Derived.Calls
import Derived.Tactics
import Derived.KernelRfl
import Derived.Deep.LoopGhost
import Derived.Laws.Strings
import Derived.Laws.BytesString
set_option linter.unusedVariables false
set_option linter.unusedSimpArgs false
namespace Go.Proofs.Ytipffnogkijmnaa.Eng
open Go

/-! ### Environments: what is known of a frame's slots -/
abbrev Env := List (Nat × Value)
def Env.get : Env → Nat → Option Value
  | [], _ => none
  | (j, v) :: E, k => bif Nat.beq j k then some v else Env.get E k
def has (a : Act) (E : Env) : Prop := ∀ k v, Env.get E k = some v → a.tmps.getD k undef = v
def Ok (n : Nat) (a : Act) : Prop := a.tmps.size = n ∧ a.defers = []
def ev (E : Env) : Operand → Option Value
  | .tmp t => Env.get E t
  | .const v => some v
  | .global g => some (.pointer (some ⟨g, 0, none⟩))
  | .func f => some (.func (.func f) #[] #[])

theorem ev_sound {a : Act} {E : Env} {x : Operand} {v : Value} (h : has a E) (hx : ev E x = some v) : a.eval x = v := by
  cases x with
  | tmp t => exact h t v hx
  | const c => exact Option.some.inj hx
  | global g => exact Option.some.inj hx
  | func f => exact Option.some.inj hx

theorem has_put {a : Act} {E : Env} {n d : Nat} {v : Value} (hn : Ok n a) (hd : Nat.blt d n = true) (h : has a E) : has (a.put (some d) v) ((d, v) :: E) := by
  intro k u hk
  have hlt : d < a.tmps.size := by rw [hn.1]; simpa [Nat.blt_eq] using hd
  simp only [Env.get] at hk
  by_cases e : Nat.beq d k = true
  · rw [e] at hk
    have e' : d = k := Nat.eq_of_beq_eq_true e
    subst e'
    simp only [cond_true, Option.some.injEq] at hk
    subst hk
    simp [Act.put, Array.getD_eq_getD_getElem?, hlt]
  · have e0 : Nat.beq d k = false := Bool.eq_false_iff.2 e
    rw [e0] at hk
    have e' : d ≠ k := by intro e'; subst e'; exact e (Nat.beq_refl d)
    have := h k u hk
    simpa [Act.put, Array.getD_eq_getD_getElem?, Array.getElem?_setIfInBounds_ne e'] using this

theorem ok_put {a : Act} {n : Nat} {d : Option Tmp} {v : Value} (hn : Ok n a) : Ok n (a.put d v) := by
  cases d <;> simp [Act.put, Ok] at * <;> exact hn

/-- A smaller environment. -/
def Sub (E' E : Env) : Prop := ∀ k v, Env.get E' k = some v → Env.get E k = some v
theorem sub_nil {E : Env} : Sub [] E := fun _ _ h => by simp [Env.get] at h
theorem sub_cons {E' E : Env} {k : Nat} {v : Value} (h : Env.get E k = some v) (hs : Sub E' E) : Sub ((k, v) :: E') E := by
  intro j u hj
  simp only [Env.get] at hj
  by_cases e : Nat.beq k j = true
  · rw [e] at hj
    have e' : k = j := Nat.eq_of_beq_eq_true e
    subst e'
    simp only [cond_true, Option.some.injEq] at hj
    subst hj; exact h
  · have e0 : Nat.beq k j = false := Bool.eq_false_iff.2 e
    rw [e0] at hj; exact hs j u hj
theorem has_sub {a : Act} {E' E : Env} (hs : Sub E' E) (h : has a E) : has a E' := fun k v hk => h k v (hs k v hk)

/-! ### The calculus -/
abbrev Kont := Exit → Env → World → Prop
def Post (n : Nat) (K : Kont) : Exit → Act → World → Prop
  | .panic _, _, _ => False
  | .outgrown, _, _ => False
  | e, a, w => Ok n a ∧ ∃ E, has a E ∧ K e E w

def WC (P : Program) (n : Nat) (c : Code) (K : Kont) (E : Env) (w : World) : Prop :=
  ∀ a, Ok n a → has a E → c.wp P (Post n K) a w
def WL (P : Program) (n : Nat) (ops : Array Oper) (K : Env → World → Prop) (l : List Oper) (E : Env) (w : World) : Prop :=
  ∀ a, Ok n a → has a E → wpList P ops (Post n fun e E w => match e with | .normal => K E w | _ => False) l a w

@[reducible] def seqK (K : Kont) (N : Env → World → Prop) : Kont := fun e E w => match e with | .normal => N E w | e => K e E w
@[reducible] def blockK (K : Kont) (id : Nat) : Kont := fun e E w => match e with | .exit j => bif Nat.beq j id then K .normal E w else K (.exit j) E w | e => K e E w

section
variable {P : Program} {n : Nat} {K : Kont} {E : Env} {w : World}

theorem wc_sub {c : Code} {E' : Env} (hs : Sub E' E) (h : WC P n c K E' w) : WC P n c K E w :=
  fun a hn ha => h a hn (has_sub hs ha)

theorem wc_mono {c : Code} {K' : Kont} (h : WC P n c K E w) (hk : ∀ e E w, K e E w → K' e E w) : WC P n c K' E w := by
  intro a hn ha
  refine wp_mono (h a hn ha) fun e a w hq => ?_
  cases e <;> simp only [Post] at hq ⊢ <;> (obtain ⟨h1, E, h2, h3⟩ := hq; exact ⟨h1, E, h2, hk _ _ _ h3⟩)

theorem wc_seq {x y : Code} (h : WC P n x (seqK K fun E w => WC P n y K E w) E w) : WC P n (.seq x y) K E w := by
  intro a hn ha
  refine wp_seq (wp_mono (h a hn ha) fun e a w hq => ?_)
  cases e <;> simp only [Post, Exit.then] at hq ⊢
  · obtain ⟨h1, E, h2, h3⟩ := hq; exact h3 a h1 h2
  all_goals exact hq

theorem wc_block {c : Code} {id : Nat} (h : WC P n c (blockK K id) E w) : WC P n (.block id c) K E w := by
  intro a hn ha
  refine wp_block (wp_mono (h a hn ha) fun e a w hq => ?_)
  cases e with
  | exit j =>
    simp only [Post, Exit.inBlock, blockK] at hq ⊢
    obtain ⟨h1, E, h2, h3⟩ := hq
    by_cases e : j = id
    · subst e; rw [if_pos rfl]; rw [Nat.beq_refl] at h3; exact ⟨h1, E, h2, h3⟩
    · rw [if_neg e]
      have e0 : Nat.beq j id = false := by
        cases hb : Nat.beq j id
        · rfl
        · exact absurd (Nat.eq_of_beq_eq_true hb) e
      rw [e0] at h3; exact ⟨h1, E, h2, h3⟩
  | _ => exact hq

/-- A cut: what is known ahead of y, whichever way x went. -/
theorem wc_cut {x y : Code} {α : Type} (Ex : α → Env) (I : α → World → Prop) (h1 : WC P n x (seqK K fun E' w' => ∃ g, Sub (Ex g) E' ∧ I g w') E w) (h2 : ∀ g w, I g w → WC P n y K (Ex g) w) : WC P n (.seq x y) K E w :=
  wc_seq (wc_mono h1 fun e E' w' h => by
    cases e <;> first | exact h | (obtain ⟨g, hs, hI⟩ := h; exact wc_sub hs (h2 g w' hI)))
theorem wc_skip (h : K .normal E w) : WC P n .skip K E w := fun a hn ha => wp_skip ⟨hn, E, ha, h⟩
theorem wc_ret (h : K .ret E w) : WC P n .ret K E w := fun a hn ha => wp_ret ⟨hn, E, ha, h⟩
theorem wc_exit {id : Nat} (h : K (.exit id) E w) : WC P n (.exit id) K E w := fun a hn ha => wp_exit ⟨hn, E, ha, h⟩
theorem wc_if {c : Operand} {x y : Code} {t : Bool} (hc : ev E c = some (.bool t)) (ht : t = true → WC P n x K E w) (hf : t = false → WC P n y K E w) :
    WC P n (.cond c x y) K E w := fun a hn ha => wp_cond_split (ev_sound ha hc) (fun h => ht h a hn ha) (fun h => hf h a hn ha)
theorem wc_ifT {c : Operand} {x y : Code} {t : Bool} (hc : ev E c = some (.bool t)) (ht : t = true) (h : WC P n x K E w) :
    WC P n (.cond c x y) K E w := wc_if hc (fun _ => h) (fun h' => by rw [ht] at h'; cases h')
theorem wc_ifF {c : Operand} {x y : Code} {t : Bool} (hc : ev E c = some (.bool t)) (ht : t = false) (h : WC P n y K E w) :
    WC P n (.cond c x y) K E w := wc_if hc (fun h' => by rw [ht] at h'; cases h') (fun _ => h)

theorem wc_region {id : Nat} {l : List Oper} (h : WL P n l.toArray (K .normal) l E w) : WC P n (.region id l.toArray false) K E w := by
  intro a hn ha
  have h1 : (Code.region id l.toArray false).wp P (Post n fun e E w => match e with | .normal => K .normal E w | _ => False) a w := wp_region_lit (h a hn ha)
  refine wp_mono h1 fun e a w hq => ?_
  cases e <;> simp only [Post] at hq ⊢
  · exact hq
  all_goals first | exact hq | (obtain ⟨_, _, _, h⟩ := hq; exact h.elim)

/-- A loop. 'x': what is known ahead of a round (a ghost); 'Ex x': the environment; 'I x': the world. -/
theorem wc_loop {c : Code} {α : Type} (Ex : α → Env) (I : α → World → Prop) (μ : α → Nat) (x0 : α) (hE : Sub (Ex x0) E) (h0 : I x0 w)
    (round : ∀ x w, I x w → WC P n c (seqK K fun E' w' => ∃ x', μ x' < μ x ∧ Sub (Ex x') E' ∧ I x' w') (Ex x) w) : WC P n (.loop c) K E w := by
  intro a hn ha
  refine wp_loop_ghost (fun m a w => ∃ x, μ x = m ∧ Ok n a ∧ has a (Ex x) ∧ I x w) (μ x0) ⟨x0, rfl, hn, has_sub hE ha, h0⟩ ?_
  rintro m a w ⟨x, rfl, hn, ha, hI⟩
  refine wp_mono (round x w hI a hn ha) fun e a w hq => ?_
  cases e <;> simp only [Post, Exit.then] at hq ⊢
  · obtain ⟨h1, E, h2, x', h3, h4, h5⟩ := hq
    exact ⟨μ x', h3, x', rfl, h1, has_sub h4 h2, h5⟩
  all_goals exact hq

/-! ### Operations -/
theorem wl_nil {ops : Array Oper} {KE : Env → World → Prop} (h : KE E w) : WL P n ops KE [] E w :=
  fun a hn ha => wpList_nil ⟨hn, E, ha, h⟩
theorem wl_sub {ops : Array Oper} {KE : Env → World → Prop} {l : List Oper} {E' : Env} (hs : Sub E' E) (h : WL P n ops KE l E' w) : WL P n ops KE l E w :=
  fun a hn ha => h a hn (has_sub hs ha)

/-- What an operation yields, whatever the rest of the frame holds. -/
def Yld (P : Program) (n : Nat) (o : Oper) (E : Env) (w : World) (v : Value) (w' : World) : Prop :=
  ∀ a, has a E → (execOp a.eval o).run P w = .ok (.value v) w'

theorem wl_put {ops : Array Oper} {KE : Env → World → Prop} {l : List Oper} {op : Op} {T : TypeId} {pos : String} {af : Array Edge} {d : Nat} {v : Value} {w' : World}
    (hy : ∀ a, has a E → (execOp a.eval ⟨some d, op, T, pos, af, none⟩).run P w = .ok (.value v) w') (hd : Nat.blt d n = true) (h : WL P n ops KE l ((d, v) :: E) w') :
    WL P n ops KE (⟨some d, op, T, pos, af, none⟩ :: l) E w := by
  intro a hn ha
  refine wpList_plain rfl fun C hC => ?_
  unfold Oper.wp
  rw [hy a ha]
  exact hC _ _ (h _ (ok_put hn) (has_put hn hd ha))

theorem wl_skip {ops : Array Oper} {KE : Env → World → Prop} {l : List Oper} {op : Op} {T : TypeId} {pos : String} {af : Array Edge} {w' : World}
    (hy : ∀ a, has a E → (execOp a.eval ⟨none, op, T, pos, af, none⟩).run P w = .ok .skip w') (h : WL P n ops KE l E w') :
    WL P n ops KE (⟨none, op, T, pos, af, none⟩ :: l) E w := by
  intro a hn ha
  refine wpList_plain rfl fun C hC => ?_
  unfold Oper.wp
  rw [hy a ha]
  exact hC _ _ (h _ hn ha)

/-- An operation under a guard: the guard's own operation has told 't'. -/
theorem wl_guard {ops : Array Oper} {KE : Env → World → Prop} {l : List Oper} {op : Op} {T : TypeId} {pos : String} {af : Array Edge} {d j s : Nat} {want t : Bool}
    (hj : (ops[j]?).bind (·.dst) = some s) (ht : Env.get E s = some (.bool t)) (hd : Nat.blt d n = true)
    (h1 : t = want → WL P n ops KE (⟨some d, op, T, pos, af, none⟩ :: l) E w)
    (h2 : t = !want → WL P n ops KE l ((d, undef) :: E) w) :
    WL P n ops KE (⟨some d, op, T, pos, af, some (j, want)⟩ :: l) E w := by
  intro a hn ha
  have hy : yielded ops a.tmps j = some t := by
    unfold yielded
    rw [hj]
    have h := ha s _ ht
    simp only [Array.getD_eq_getD_getElem?] at h
    cases hs : a.tmps[s]? with
    | none => rw [hs] at h; simp [undef] at h
    | some u => rw [hs] at h; simp at h; subst h; simp [hs]
  unfold wpList
  by_cases e : t = want
  · have hw : Region.wanted ⟨some d, op, T, pos, af, some (j, want)⟩ (yielded ops a.tmps) = true := by simp [Region.wanted, hy, e]
    rw [if_pos hw]
    have := h1 e a hn ha
    unfold wpList at this
    have hw' : Region.wanted ⟨some d, op, T, pos, af, none⟩ (yielded ops a.tmps) = true := by simp [Region.wanted]
    rw [if_pos hw'] at this
    exact this
  · have hw : Region.wanted ⟨some d, op, T, pos, af, some (j, want)⟩ (yielded ops a.tmps) = false := by simp [Region.wanted, hy, e]
    rw [if_neg (by rw [hw]; simp)]
    exact h2 (by cases t <;> cases want <;> simp_all) _ (ok_put hn) (has_put hn hd ha)

/-- A call, by the callee's contract. -/
def CallsR (P : Program) (f : FuncId) (args : Array Value) (w : World) (R : Value → World → Prop) : Prop :=
  (∃ fn, P.funcs[f]? = some fn ∧ (fn.name == "runtime.NumGoroutine") = false ∧ fn.body.isNone = false) ∧
  Calls P f args w fun e w' => ∃ v, e = .returned v ∧ R v w'

theorem CallsR.mono {f : FuncId} {args : Array Value} {R R' : Value → World → Prop} (h : CallsR P f args w R) (hr : ∀ v w', R v w' → R' v w') :
    CallsR P f args w R' := ⟨h.1, h.2.mono fun _ _ ⟨v, e, r⟩ => ⟨v, e, hr _ _ r⟩⟩

theorem run_callFunc {f : FuncId} {args : Array Value} (h : ∃ fn, P.funcs[f]? = some fn ∧ (fn.name == "runtime.NumGoroutine") = false ∧ fn.body.isNone = false) :
    (callFunc f args).run P w = .ok (.enter f args) w := by
  obtain ⟨fn, h1, h2, h3⟩ := h
  have h2' : ¬ fn.name = "runtime.NumGoroutine" := by simpa using h2
  have h3' : ¬ fn.body = none := by intro e; rw [e] at h3; simp at h3
  simp [callFunc, program, Bind.bind, Sem.bind, Sem.run, Pure.pure, h1, h2', h3']

def evs (E : Env) : List Operand → Option (List Value)
  | [] => some []
  | x :: l => match ev E x, evs E l with
    | some v, some vs => some (v :: vs)
    | _, _ => none
theorem evs_sound {a : Act} (h : has a E) : ∀ {xs : List Operand} {vs : List Value}, evs E xs = some vs → xs.map a.eval = vs
  | [], vs, hv => by simp [evs] at hv; simp [hv]
  | x :: l, vs, hv => by
    simp only [evs] at hv
    split at hv
    · rename_i v us h1 h2
      simp only [Option.some.injEq] at hv
      subst hv
      simp [ev_sound h h1, evs_sound h h2]
    · cases hv

/-- The operands' values, one by one. -/
inductive Evs (E : Env) : List Operand → List Value → Prop
  | nil : Evs E [] []
  | cons {x : Operand} {v : Value} {l : List Operand} {vs : List Value} : ev E x = some v → Evs E l vs → Evs E (x :: l) (v :: vs)
theorem Evs.sound {a : Act} (h : has a E) {xs : List Operand} {vs : List Value} (hv : Evs E xs vs) : xs.map a.eval = vs := by
  induction hv with
  | nil => rfl
  | cons h1 _ ih => simp [ev_sound h h1, ih]

theorem wl_call {ops : Array Oper} {KE : Env → World → Prop} {l : List Oper} {T : TypeId} {pos : String} {af : Array Edge} {d : Nat} {f : FuncId} {xs : List Operand} {vs : List Value} {ts : Array TypeId} {R : Value → World → Prop}
    (hv : Evs E xs vs) (hc : CallsR P f vs.toArray w R) (hd : Nat.blt d n = true) (h : ∀ v w', R v w' → WL P n ops KE l ((d, v) :: E) w') :
    WL P n ops KE (⟨some d, .call ⟨.value (.func f), xs.toArray, ts⟩, T, pos, af, none⟩ :: l) E w := by
  intro a hn ha
  refine wpList_plain rfl fun C hC => ?_
  unfold Oper.wp
  have h1 := Evs.sound ha hv
  have hr : (execOp a.eval ⟨some d, .call ⟨.value (.func f), xs.toArray, ts⟩, T, pos, af, none⟩).run P w = .ok (.enter f vs.toArray) w := by
    simp only [execOp, resolve, Act.eval, Deferred.ofValue, invoke, Bind.bind, Pure.pure, Sem.bind, List.map_toArray, h1, Array.empty_append, Array.append_empty]
    simpa using run_callFunc hc.1
  rw [hr]
  simp only [Oper.upon]
  refine hc.2.mono fun e w' ⟨v, he, hR⟩ => ?_
  subst he
  exact hC _ _ (h v w' hR _ (ok_put hn) (has_put hn hd ha))

theorem wl_call0 {ops : Array Oper} {KE : Env → World → Prop} {l : List Oper} {T : TypeId} {pos : String} {af : Array Edge} {f : FuncId} {xs : List Operand} {vs : List Value} {ts : Array TypeId} {R : Value → World → Prop}
    (hv : Evs E xs vs) (hc : CallsR P f vs.toArray w R) (h : ∀ v w', R v w' → WL P n ops KE l E w') :
    WL P n ops KE (⟨none, .call ⟨.value (.func f), xs.toArray, ts⟩, T, pos, af, none⟩ :: l) E w := by
  intro a hn ha
  refine wpList_plain rfl fun C hC => ?_
  unfold Oper.wp
  have h1 := Evs.sound ha hv
  have hr : (execOp a.eval ⟨none, .call ⟨.value (.func f), xs.toArray, ts⟩, T, pos, af, none⟩).run P w = .ok (.enter f vs.toArray) w := by
    simp only [execOp, resolve, Act.eval, Deferred.ofValue, invoke, Bind.bind, Pure.pure, Sem.bind, List.map_toArray, h1, Array.empty_append, Array.append_empty]
    simpa using run_callFunc hc.1
  rw [hr]
  simp only [Oper.upon]
  refine hc.2.mono fun e w' ⟨v, he, hR⟩ => ?_
  subst he
  exact hC _ _ (h v w' hR _ (ok_put hn) ha)

end

/-! ### A function -/
/-- What a frame's results come to. -/
inductive Res (P : Program) (E : Env) (w : World) : List ResultVar → List Value → Prop
  | nil : Res P E w [] []
  | tmp {t : Tmp} {v : Value} {l : List ResultVar} {vs : List Value} : Env.get E t = some v → Res P E w l vs → Res P E w (.tmp t :: l) (v :: vs)
  | cell {t : Tmp} {T : TypeId} {ad : Addr} {v : Value} {l : List ResultVar} {vs : List Value} : Env.get E t = some (.pointer (some ad)) → (loadVar T ad).run P w = .ok v w → Res P E w l vs → Res P E w (.cell t T :: l) (v :: vs)

def tupled : List Value → Value
  | [v] => v
  | vs => .tuple vs.toArray

def retK (P : Program) (rs : List ResultVar) (R : Value → World → Prop) : Kont := fun e E w =>
  match e with
  | .normal | .ret => ∃ vs, Res P E w rs vs ∧ R (tupled vs) w
  | _ => False

theorem Sem.run_bind_ok {α β : Type} {P : Program} {s : Sem α} {f : α → Sem β} {w w' : World} {a : α} (h : s.run P w = .ok a w') :
    (s.bind f).run P w = (f a).run P w' := by
  induction s generalizing w with
  | pure b => simp [Sem.run] at h; obtain ⟨rfl, rfl⟩ := h; rfl
  | load m ad k ih =>
    simp only [Sem.run, Sem.bind] at h ⊢
    split <;> rename_i hc <;> rw [hc] at h
    · exact ih _ h
    · simp only at h
      split <;> rename_i hf <;> rw [hf] at h
      · exact ih _ h
      · cases h
  | store m ad v k ih =>
    cases v <;> simp only [Sem.run, Sem.bind] at h ⊢ <;>
    first
    | (cases h; done)
    | (split <;> rename_i hc <;> rw [hc] at h
       · simp only at h
         split <;> rename_i hf <;> simp only [hf] at h
         · cases h
         · exact ih h
       · simp only at h
         split <;> rename_i hf <;> rw [hf] at h
         · exact ih h
         · cases h)
  | new o k ih => exact ih _ h
  | shape r k ih => exact ih _ h
  | freeze ad n k ih => exact ih h
  | frozen ad k ih => exact ih _ h
  | getObj r k ih =>
    simp only [Sem.run, Sem.bind] at h ⊢
    split <;> rename_i hc <;> simp only [hc] at h
    · cases h
    · exact ih _ h
    · cases h
  | setObj r o k ih =>
    simp only [Sem.run, Sem.bind] at h ⊢
    split <;> rename_i hc <;> simp only [hc] at h
    · cases h
    · exact ih h
    · cases h
  | choose q k ih =>
    simp only [Sem.run, Sem.bind] at h ⊢
    split <;> rename_i hc <;> simp only [hc] at h
    · exact ih _ h
    · exact ih _ h
  | sys c k ih => exact ih _ h
  | program k ih => exact ih _ h
  | mark m k ih => exact ih h
  | halt x => simp [Sem.run] at h

theorem Sem.run_bind_ok' {α β : Type} {P : Program} {s : Sem α} {f : α → Sem β} {w w' : World} {a : α} (h : s.run P w = .ok a w') :
    (s >>= f).run P w = (f a).run P w' := Sem.run_bind_ok h

theorem mapM_res {P : Program} {a : Act} {E : Env} {w : World} (ha : has a E) {rs : List ResultVar} {vs : List Value} (h : Res P E w rs vs) :
    (rs.mapM (m := Sem) fun r => match r with
      | .tmp t => pure (a.tmps.getD t undef)
      | .cell t T => do loadVar T (← asAddr (a.tmps.getD t undef))).run P w = .ok vs w := by
  induction h with
  | nil => rfl
  | tmp h1 _ ih =>
    rw [List.mapM_cons]
    simp only [ha _ _ h1]
    refine (Sem.run_bind_ok' (a := _) (w' := w) rfl).trans ?_
    exact (Sem.run_bind_ok' ih).trans rfl
  | cell h1 h2 _ ih =>
    rw [List.mapM_cons]
    simp only [ha _ _ h1]
    refine (Sem.run_bind_ok' (w' := w) ((Sem.run_bind_ok' (w' := w) (a := _) rfl).trans h2)).trans ?_
    exact (Sem.run_bind_ok' ih).trans rfl

theorem results_run {P : Program} {fn : Func} {a : Act} {E : Env} {w : World} (ha : has a E) {rs : List ResultVar} {vs : List Value} (hf : fn.results = rs.toArray) (h : Res P E w rs vs) :
    (results fn a.tmps).run P w = .ok (tupled vs) w := by
  unfold results
  rw [hf]
  refine (Sem.run_bind_ok' (a := vs.toArray) (w' := w) ?_).trans ?_
  · rw [List.mapM_toArray]
    exact (Sem.run_bind_ok' (mapM_res ha h)).trans rfl
  · match vs with
    | [] => rfl
    | [v] => rfl
    | v :: u :: l => rfl

theorem has_args {args : List Value} {m : Nat} : ∀ {E : Env}, (∀ k v, Env.get E k = some v → args[k]? = some v) → has ⟨args.toArray ++ Array.replicate m undef, []⟩ E := by
  intro E h k v hk
  have := h k v hk
  obtain ⟨hlt, he⟩ := List.getElem?_eq_some_iff.1 this
  simp [Array.getD_eq_getD_getElem?, Array.getElem?_append, hlt, he]

def argEnv : Nat → List Value → Env
  | _, [] => []
  | k, v :: l => (k, v) :: argEnv (k + 1) l
theorem argEnv_get : ∀ {l : List Value} {j k : Nat} {v : Value}, Env.get (argEnv j l) k = some v → j ≤ k ∧ l[k - j]? = some v
  | [], j, k, v, h => by simp [argEnv, Env.get] at h
  | u :: l, j, k, v, h => by
    simp only [argEnv, Env.get] at h
    by_cases e : Nat.beq j k = true
    · rw [e] at h
      have e' : j = k := Nat.eq_of_beq_eq_true e
      subst e'
      simpa using h
    · rw [Bool.eq_false_iff.2 e] at h
      obtain ⟨h1, h2⟩ := argEnv_get (l := l) h
      refine ⟨by omega, ?_⟩
      have : k - j = (k - (j + 1)) + 1 := by omega
      rw [this]; simpa using h2

theorem calls_of {P : Program} {f : FuncId} {fn : Func} {c : Code} {args : List Value} {w : World} {R : Value → World → Prop} {rs : List ResultVar} {n : Nat}
    (hf : P.funcs[f]? = some fn) (hb : fn.body = some c) (hn : fn.ntmps = n) (hrs : fn.results = rs.toArray) (hname : (fn.name == "runtime.NumGoroutine") = false) (hlen : Nat.ble args.length n = true)
    (h : WC P n c (retK P rs R) (argEnv 0 args) w) : CallsR P f args.toArray w R := by
  refine ⟨⟨fn, hf, hname, by rw [hb]; rfl⟩, ?_⟩
  refine calls_of_wp hf hb ?_
  have hle : args.length ≤ n := by simpa using hlen
  have ha : has ⟨args.toArray ++ Array.replicate (fn.ntmps - args.toArray.size) undef, []⟩ (argEnv 0 args) := has_args fun k v hk => by simpa using (argEnv_get hk).2
  have hok : Ok n ⟨args.toArray ++ Array.replicate (fn.ntmps - args.toArray.size) undef, []⟩ := by
    refine ⟨?_, rfl⟩
    simp [hn]; omega
  refine wp_mono (h _ hok ha) fun e a w hq => ?_
  cases e <;> simp only [Post, retK, bodyPost] at hq ⊢
  · obtain ⟨h1, E, h2, vs, h3, h4⟩ := hq
    exact ⟨h1.2, _, results_run h2 hrs h3, _, rfl, h4⟩
  · obtain ⟨_, _, _, h⟩ := hq; exact h
  · obtain ⟨_, _, _, h⟩ := hq; exact h
  · obtain ⟨h1, E, h2, vs, h3, h4⟩ := hq
    exact ⟨h1.2, _, results_run h2 hrs h3, _, rfl, h4⟩

end Go.Proofs.Ytipffnogkijmnaa.Eng
