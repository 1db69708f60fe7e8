/-
  Part 1 of the proof: Eng1, Eng2, Eng3, Eng4, Eng5, Eng6, Eng7, Eng8, Eng9, Eng10, Eng11, PreM, Ty, PreC, PakC, RdrC.
-/
import Derived.Calls
import Derived.Tactics
import Derived.KernelRfl
import Derived.Deep.LoopGhost
import Derived.Laws.Strings
import Derived.Laws.BytesString
import Derived.OrdersHeld
import Derived.Laws.StructEq
import Derived.Lib.UnsafeStr
import Derived.Lib.Builder
import Derived.Laws.Externs
import Derived.Test.YtndahppmjdbifaaGreatDoorProg
set_option linter.unusedVariables false
set_option linter.unusedSimpArgs false
namespace Go.Proofs.YtndahppmjdbifaaGreatDoor.Eng
open Go
abbrev Env := List (Nat × Value)
def Env.get : Env → Nat → Option Value
  | [], _ => none
  | (j, v) :: E, k => bif Nat.beq j k then some v else Env.get E k
def has (a : Act) (E : Env) : Prop := ∀ k v, Env.get E k = some v → a.tmps.getD k undef = v
def Ok (n : Nat) (a : Act) : Prop := a.tmps.size = n ∧ a.defers = []
def ev (E : Env) : Operand → Option Value
  | .tmp t => Env.get E t
  | .const v => some v
  | .global g => some (.pointer (some ⟨g, 0, none⟩))
  | .func f => some (.func (.func f) #[] #[])
theorem ev_sound {a : Act} {E : Env} {x : Operand} {v : Value} (h : has a E) (hx : ev E x = some v) : a.eval x = v := by
  cases x with
  | tmp t => exact h t v hx
  | const c => exact Option.some.inj hx
  | global g => exact Option.some.inj hx
  | func f => exact Option.some.inj hx
theorem has_put {a : Act} {E : Env} {n d : Nat} {v : Value} (hn : Ok n a) (hd : Nat.blt d n = true) (h : has a E) : has (a.put (some d) v) ((d, v) :: E) := by
  intro k u hk
  have hlt : d < a.tmps.size := by rw [hn.1]; simpa [Nat.blt_eq] using hd
  simp only [Env.get] at hk
  by_cases e : Nat.beq d k = true
  · rw [e] at hk
    have e' : d = k := Nat.eq_of_beq_eq_true e
    subst e'
    simp only [cond_true, Option.some.injEq] at hk
    subst hk
    simp [Act.put, Array.getD_eq_getD_getElem?, hlt]
  · have e0 : Nat.beq d k = false := Bool.eq_false_iff.2 e
    rw [e0] at hk
    have e' : d ≠ k := by intro e'; subst e'; exact e (Nat.beq_refl d)
    have := h k u hk
    simpa [Act.put, Array.getD_eq_getD_getElem?, Array.getElem?_setIfInBounds_ne e'] using this
theorem ok_put {a : Act} {n : Nat} {d : Option Tmp} {v : Value} (hn : Ok n a) : Ok n (a.put d v) := by
  cases d <;> simp [Act.put, Ok] at * <;> exact hn
def Sub (E' E : Env) : Prop := ∀ k v, Env.get E' k = some v → Env.get E k = some v
theorem sub_nil {E : Env} : Sub [] E := fun _ _ h => by simp [Env.get] at h
theorem sub_cons {E' E : Env} {k : Nat} {v : Value} (h : Env.get E k = some v) (hs : Sub E' E) : Sub ((k, v) :: E') E := by
  intro j u hj
  simp only [Env.get] at hj
  by_cases e : Nat.beq k j = true
  · rw [e] at hj
    have e' : k = j := Nat.eq_of_beq_eq_true e
    subst e'
    simp only [cond_true, Option.some.injEq] at hj
    subst hj; exact h
  · have e0 : Nat.beq k j = false := Bool.eq_false_iff.2 e
    rw [e0] at hj; exact hs j u hj
theorem has_sub {a : Act} {E' E : Env} (hs : Sub E' E) (h : has a E) : has a E' := fun k v hk => h k v (hs k v hk)
abbrev Kont := Exit → Env → World → Prop
def Post (n : Nat) (K : Kont) : Exit → Act → World → Prop
  | .panic _, _, _ => False
  | .outgrown, _, _ => False
  | e, a, w => Ok n a ∧ ∃ E, has a E ∧ K e E w
def WC (P : Program) (n : Nat) (c : Code) (K : Kont) (E : Env) (w : World) : Prop :=
  ∀ a, Ok n a → has a E → c.wp P (Post n K) a w
def WL (P : Program) (n : Nat) (ops : Array Oper) (K : Env → World → Prop) (l : List Oper) (E : Env) (w : World) : Prop :=
  ∀ a, Ok n a → has a E → wpList P ops (Post n fun e E w => match e with | .normal => K E w | _ => False) l a w
@[reducible] def seqK (K : Kont) (N : Env → World → Prop) : Kont := fun e E w => match e with | .normal => N E w | e => K e E w
@[reducible] def blockK (K : Kont) (id : Nat) : Kont := fun e E w => match e with | .exit j => bif Nat.beq j id then K .normal E w else K (.exit j) E w | e => K e E w
section
variable {P : Program} {n : Nat} {K : Kont} {E : Env} {w : World}
theorem wc_sub {c : Code} {E' : Env} (hs : Sub E' E) (h : WC P n c K E' w) : WC P n c K E w :=
  fun a hn ha => h a hn (has_sub hs ha)
theorem wc_mono {c : Code} {K' : Kont} (h : WC P n c K E w) (hk : ∀ e E w, K e E w → K' e E w) : WC P n c K' E w := by
  intro a hn ha
  refine wp_mono (h a hn ha) fun e a w hq => ?_
  cases e <;> simp only [Post] at hq ⊢ <;> (obtain ⟨h1, E, h2, h3⟩ := hq; exact ⟨h1, E, h2, hk _ _ _ h3⟩)
theorem wc_seq {x y : Code} (h : WC P n x (seqK K fun E w => WC P n y K E w) E w) : WC P n (.seq x y) K E w := by
  intro a hn ha
  refine wp_seq (wp_mono (h a hn ha) fun e a w hq => ?_)
  cases e <;> simp only [Post, Exit.then] at hq ⊢
  · obtain ⟨h1, E, h2, h3⟩ := hq; exact h3 a h1 h2
  all_goals exact hq
theorem wc_block {c : Code} {id : Nat} (h : WC P n c (blockK K id) E w) : WC P n (.block id c) K E w := by
  intro a hn ha
  refine wp_block (wp_mono (h a hn ha) fun e a w hq => ?_)
  cases e with
  | exit j =>
    simp only [Post, Exit.inBlock, blockK] at hq ⊢
    obtain ⟨h1, E, h2, h3⟩ := hq
    by_cases e : j = id
    · subst e; rw [if_pos rfl]; rw [Nat.beq_refl] at h3; exact ⟨h1, E, h2, h3⟩
    · rw [if_neg e]
      have e0 : Nat.beq j id = false := by
        cases hb : Nat.beq j id
        · rfl
        · exact absurd (Nat.eq_of_beq_eq_true hb) e
      rw [e0] at h3; exact ⟨h1, E, h2, h3⟩
  | _ => exact hq
theorem wc_cut {x y : Code} {α : Type} (Ex : α → Env) (I : α → World → Prop) (h1 : WC P n x (seqK K fun E' w' => ∃ g, Sub (Ex g) E' ∧ I g w') E w) (h2 : ∀ g w, I g w → WC P n y K (Ex g) w) : WC P n (.seq x y) K E w :=
  wc_seq (wc_mono h1 fun e E' w' h => by
    cases e <;> first | exact h | (obtain ⟨g, hs, hI⟩ := h; exact wc_sub hs (h2 g w' hI)))
theorem wc_skip (h : K .normal E w) : WC P n .skip K E w := fun a hn ha => wp_skip ⟨hn, E, ha, h⟩
theorem wc_ret (h : K .ret E w) : WC P n .ret K E w := fun a hn ha => wp_ret ⟨hn, E, ha, h⟩
theorem wc_exit {id : Nat} (h : K (.exit id) E w) : WC P n (.exit id) K E w := fun a hn ha => wp_exit ⟨hn, E, ha, h⟩
theorem wc_if {c : Operand} {x y : Code} {t : Bool} (hc : ev E c = some (.bool t)) (ht : t = true → WC P n x K E w) (hf : t = false → WC P n y K E w) :
    WC P n (.cond c x y) K E w := fun a hn ha => wp_cond_split (ev_sound ha hc) (fun h => ht h a hn ha) (fun h => hf h a hn ha)
theorem wc_ifT {c : Operand} {x y : Code} {t : Bool} (hc : ev E c = some (.bool t)) (ht : t = true) (h : WC P n x K E w) :
    WC P n (.cond c x y) K E w := wc_if hc (fun _ => h) (fun h' => by rw [ht] at h'; cases h')
theorem wc_ifF {c : Operand} {x y : Code} {t : Bool} (hc : ev E c = some (.bool t)) (ht : t = false) (h : WC P n y K E w) :
    WC P n (.cond c x y) K E w := wc_if hc (fun h' => by rw [ht] at h'; cases h') (fun _ => h)
theorem wc_region {id : Nat} {l : List Oper} (h : WL P n l.toArray (K .normal) l E w) : WC P n (.region id l.toArray false) K E w := by
  intro a hn ha
  have h1 : (Code.region id l.toArray false).wp P (Post n fun e E w => match e with | .normal => K .normal E w | _ => False) a w := wp_region_lit (h a hn ha)
  refine wp_mono h1 fun e a w hq => ?_
  cases e <;> simp only [Post] at hq ⊢
  · exact hq
  all_goals first | exact hq | (obtain ⟨_, _, _, h⟩ := hq; exact h.elim)
theorem wc_loop {c : Code} {α : Type} (Ex : α → Env) (I : α → World → Prop) (μ : α → Nat) (x0 : α) (hE : Sub (Ex x0) E) (h0 : I x0 w)
    (round : ∀ x w, I x w → WC P n c (seqK K fun E' w' => ∃ x', μ x' < μ x ∧ Sub (Ex x') E' ∧ I x' w') (Ex x) w) : WC P n (.loop c) K E w := by
  intro a hn ha
  refine wp_loop_ghost (fun m a w => ∃ x, μ x = m ∧ Ok n a ∧ has a (Ex x) ∧ I x w) (μ x0) ⟨x0, rfl, hn, has_sub hE ha, h0⟩ ?_
  rintro m a w ⟨x, rfl, hn, ha, hI⟩
  refine wp_mono (round x w hI a hn ha) fun e a w hq => ?_
  cases e <;> simp only [Post, Exit.then] at hq ⊢
  · obtain ⟨h1, E, h2, x', h3, h4, h5⟩ := hq
    exact ⟨μ x', h3, x', rfl, h1, has_sub h4 h2, h5⟩
  all_goals exact hq
theorem wl_nil {ops : Array Oper} {KE : Env → World → Prop} (h : KE E w) : WL P n ops KE [] E w :=
  fun a hn ha => wpList_nil ⟨hn, E, ha, h⟩
theorem wl_sub {ops : Array Oper} {KE : Env → World → Prop} {l : List Oper} {E' : Env} (hs : Sub E' E) (h : WL P n ops KE l E' w) : WL P n ops KE l E w :=
  fun a hn ha => h a hn (has_sub hs ha)
def Yld (P : Program) (n : Nat) (o : Oper) (E : Env) (w : World) (v : Value) (w' : World) : Prop :=
  ∀ a, has a E → (execOp a.eval o).run P w = .ok (.value v) w'
theorem wl_put {ops : Array Oper} {KE : Env → World → Prop} {l : List Oper} {op : Op} {T : TypeId} {pos : String} {af : Array Edge} {d : Nat} {v : Value} {w' : World}
    (hy : ∀ a, has a E → (execOp a.eval ⟨some d, op, T, pos, af, none⟩).run P w = .ok (.value v) w') (hd : Nat.blt d n = true) (h : WL P n ops KE l ((d, v) :: E) w') :
    WL P n ops KE (⟨some d, op, T, pos, af, none⟩ :: l) E w := by
  intro a hn ha
  refine wpList_plain rfl fun C hC => ?_
  unfold Oper.wp
  rw [hy a ha]
  exact hC _ _ (h _ (ok_put hn) (has_put hn hd ha))
theorem wl_skip {ops : Array Oper} {KE : Env → World → Prop} {l : List Oper} {op : Op} {T : TypeId} {pos : String} {af : Array Edge} {w' : World}
    (hy : ∀ a, has a E → (execOp a.eval ⟨none, op, T, pos, af, none⟩).run P w = .ok .skip w') (h : WL P n ops KE l E w') :
    WL P n ops KE (⟨none, op, T, pos, af, none⟩ :: l) E w := by
  intro a hn ha
  refine wpList_plain rfl fun C hC => ?_
  unfold Oper.wp
  rw [hy a ha]
  exact hC _ _ (h _ hn ha)
def CallsR (P : Program) (f : FuncId) (args : Array Value) (w : World) (R : Value → World → Prop) : Prop :=
  (∃ fn, P.funcs[f]? = some fn ∧ (fn.name == "runtime.NumGoroutine") = false ∧ fn.body.isNone = false) ∧
  Calls P f args w fun e w' => ∃ v, e = .returned v ∧ R v w'
theorem CallsR.mono {f : FuncId} {args : Array Value} {R R' : Value → World → Prop} (h : CallsR P f args w R) (hr : ∀ v w', R v w' → R' v w') :
    CallsR P f args w R' := ⟨h.1, h.2.mono fun _ _ ⟨v, e, r⟩ => ⟨v, e, hr _ _ r⟩⟩
theorem run_callFunc {f : FuncId} {args : Array Value} (h : ∃ fn, P.funcs[f]? = some fn ∧ (fn.name == "runtime.NumGoroutine") = false ∧ fn.body.isNone = false) :
    (callFunc f args).run P w = .ok (.enter f args) w := by
  obtain ⟨fn, h1, h2, h3⟩ := h
  have h2' : ¬ fn.name = "runtime.NumGoroutine" := by simpa using h2
  have h3' : ¬ fn.body = none := by intro e; rw [e] at h3; simp at h3
  simp [callFunc, program, Bind.bind, Sem.bind, Sem.run, Pure.pure, h1, h2', h3']
def evs (E : Env) : List Operand → Option (List Value)
  | [] => some []
  | x :: l => match ev E x, evs E l with
    | some v, some vs => some (v :: vs)
    | _, _ => none
inductive Evs (E : Env) : List Operand → List Value → Prop
  | nil : Evs E [] []
  | cons {x : Operand} {v : Value} {l : List Operand} {vs : List Value} : ev E x = some v → Evs E l vs → Evs E (x :: l) (v :: vs)
theorem Evs.sound {a : Act} (h : has a E) {xs : List Operand} {vs : List Value} (hv : Evs E xs vs) : xs.map a.eval = vs := by
  induction hv with
  | nil => rfl
  | cons h1 _ ih => simp [ev_sound h h1, ih]
theorem wl_call {ops : Array Oper} {KE : Env → World → Prop} {l : List Oper} {T : TypeId} {pos : String} {af : Array Edge} {d : Nat} {f : FuncId} {xs : List Operand} {vs : List Value} {ts : Array TypeId} {R : Value → World → Prop}
    (hv : Evs E xs vs) (hc : CallsR P f vs.toArray w R) (hd : Nat.blt d n = true) (h : ∀ v w', R v w' → WL P n ops KE l ((d, v) :: E) w') :
    WL P n ops KE (⟨some d, .call ⟨.value (.func f), xs.toArray, ts⟩, T, pos, af, none⟩ :: l) E w := by
  intro a hn ha
  refine wpList_plain rfl fun C hC => ?_
  unfold Oper.wp
  have h1 := Evs.sound ha hv
  have hr : (execOp a.eval ⟨some d, .call ⟨.value (.func f), xs.toArray, ts⟩, T, pos, af, none⟩).run P w = .ok (.enter f vs.toArray) w := by
    simp only [execOp, resolve, Act.eval, Deferred.ofValue, invoke, Bind.bind, Pure.pure, Sem.bind, List.map_toArray, h1, Array.empty_append, Array.append_empty]
    simpa using run_callFunc hc.1
  rw [hr]
  simp only [Oper.upon]
  refine hc.2.mono fun e w' ⟨v, he, hR⟩ => ?_
  subst he
  exact hC _ _ (h v w' hR _ (ok_put hn) (has_put hn hd ha))
end
inductive Res (P : Program) (E : Env) (w : World) : List ResultVar → List Value → Prop
  | nil : Res P E w [] []
  | tmp {t : Tmp} {v : Value} {l : List ResultVar} {vs : List Value} : Env.get E t = some v → Res P E w l vs → Res P E w (.tmp t :: l) (v :: vs)
  | cell {t : Tmp} {T : TypeId} {ad : Addr} {v : Value} {l : List ResultVar} {vs : List Value} : Env.get E t = some (.pointer (some ad)) → (loadVar T ad).run P w = .ok v w → Res P E w l vs → Res P E w (.cell t T :: l) (v :: vs)
def tupled : List Value → Value
  | [v] => v
  | vs => .tuple vs.toArray
def retK (P : Program) (rs : List ResultVar) (R : Value → World → Prop) : Kont := fun e E w =>
  match e with
  | .normal | .ret => ∃ vs, Res P E w rs vs ∧ R (tupled vs) w
  | _ => False
theorem Sem.run_bind_ok {α β : Type} {P : Program} {s : Sem α} {f : α → Sem β} {w w' : World} {a : α} (h : s.run P w = .ok a w') :
    (s.bind f).run P w = (f a).run P w' := by
  induction s generalizing w with
  | pure b => simp [Sem.run] at h; obtain ⟨rfl, rfl⟩ := h; rfl
  | load m ad k ih =>
    simp only [Sem.run, Sem.bind] at h ⊢
    split <;> rename_i hc <;> rw [hc] at h
    · exact ih _ h
    · simp only at h
      split <;> rename_i hf <;> rw [hf] at h
      · exact ih _ h
      · cases h
  | store m ad v k ih =>
    cases v <;> simp only [Sem.run, Sem.bind] at h ⊢ <;>
    first
    | (cases h; done)
    | (split <;> rename_i hc <;> rw [hc] at h
       · simp only at h
         split <;> rename_i hf <;> simp only [hf] at h
         · cases h
         · exact ih h
       · simp only at h
         split <;> rename_i hf <;> rw [hf] at h
         · exact ih h
         · cases h)
  | new o k ih => exact ih _ h
  | shape r k ih => exact ih _ h
  | freeze ad n k ih => exact ih h
  | frozen ad k ih => exact ih _ h
  | getObj r k ih =>
    simp only [Sem.run, Sem.bind] at h ⊢
    split <;> rename_i hc <;> simp only [hc] at h
    · cases h
    · exact ih _ h
    · cases h
  | setObj r o k ih =>
    simp only [Sem.run, Sem.bind] at h ⊢
    split <;> rename_i hc <;> simp only [hc] at h
    · cases h
    · exact ih h
    · cases h
  | choose q k ih =>
    simp only [Sem.run, Sem.bind] at h ⊢
    split <;> rename_i hc <;> simp only [hc] at h
    · exact ih _ h
    · exact ih _ h
  | sys c k ih => exact ih _ h
  | program k ih => exact ih _ h
  | mark m k ih => exact ih h
  | halt x => simp [Sem.run] at h
theorem Sem.run_bind_ok' {α β : Type} {P : Program} {s : Sem α} {f : α → Sem β} {w w' : World} {a : α} (h : s.run P w = .ok a w') :
    (s >>= f).run P w = (f a).run P w' := Sem.run_bind_ok h
theorem mapM_res {P : Program} {a : Act} {E : Env} {w : World} (ha : has a E) {rs : List ResultVar} {vs : List Value} (h : Res P E w rs vs) :
    (rs.mapM (m := Sem) fun r => match r with
      | .tmp t => pure (a.tmps.getD t undef)
      | .cell t T => do loadVar T (← asAddr (a.tmps.getD t undef))).run P w = .ok vs w := by
  induction h with
  | nil => rfl
  | tmp h1 _ ih =>
    rw [List.mapM_cons]
    simp only [ha _ _ h1]
    refine (Sem.run_bind_ok' (a := _) (w' := w) rfl).trans ?_
    exact (Sem.run_bind_ok' ih).trans rfl
  | cell h1 h2 _ ih =>
    rw [List.mapM_cons]
    simp only [ha _ _ h1]
    refine (Sem.run_bind_ok' (w' := w) ((Sem.run_bind_ok' (w' := w) (a := _) rfl).trans h2)).trans ?_
    exact (Sem.run_bind_ok' ih).trans rfl
theorem results_run {P : Program} {fn : Func} {a : Act} {E : Env} {w : World} (ha : has a E) {rs : List ResultVar} {vs : List Value} (hf : fn.results = rs.toArray) (h : Res P E w rs vs) :
    (results fn a.tmps).run P w = .ok (tupled vs) w := by
  unfold results
  rw [hf]
  refine (Sem.run_bind_ok' (a := vs.toArray) (w' := w) ?_).trans ?_
  · rw [List.mapM_toArray]
    exact (Sem.run_bind_ok' (mapM_res ha h)).trans rfl
  · match vs with
    | [] => rfl
    | [v] => rfl
    | v :: u :: l => rfl
theorem has_args {args : List Value} {m : Nat} : ∀ {E : Env}, (∀ k v, Env.get E k = some v → args[k]? = some v) → has ⟨args.toArray ++ Array.replicate m undef, []⟩ E := by
  intro E h k v hk
  have := h k v hk
  obtain ⟨hlt, he⟩ := List.getElem?_eq_some_iff.1 this
  simp [Array.getD_eq_getD_getElem?, Array.getElem?_append, hlt, he]
def argEnv : Nat → List Value → Env
  | _, [] => []
  | k, v :: l => (k, v) :: argEnv (k + 1) l
theorem argEnv_get : ∀ {l : List Value} {j k : Nat} {v : Value}, Env.get (argEnv j l) k = some v → j ≤ k ∧ l[k - j]? = some v
  | [], j, k, v, h => by simp [argEnv, Env.get] at h
  | u :: l, j, k, v, h => by
    simp only [argEnv, Env.get] at h
    by_cases e : Nat.beq j k = true
    · rw [e] at h
      have e' : j = k := Nat.eq_of_beq_eq_true e
      subst e'
      simpa using h
    · rw [Bool.eq_false_iff.2 e] at h
      obtain ⟨h1, h2⟩ := argEnv_get (l := l) h
      refine ⟨by omega, ?_⟩
      have : k - j = (k - (j + 1)) + 1 := by omega
      rw [this]; simpa using h2
theorem calls_of {P : Program} {f : FuncId} {fn : Func} {c : Code} {args : List Value} {w : World} {R : Value → World → Prop} {rs : List ResultVar} {n : Nat}
    (hf : P.funcs[f]? = some fn) (hb : fn.body = some c) (hn : fn.ntmps = n) (hrs : fn.results = rs.toArray) (hname : (fn.name == "runtime.NumGoroutine") = false) (hlen : Nat.ble args.length n = true)
    (h : WC P n c (retK P rs R) (argEnv 0 args) w) : CallsR P f args.toArray w R := by
  refine ⟨⟨fn, hf, hname, by rw [hb]; rfl⟩, ?_⟩
  refine calls_of_wp hf hb ?_
  have hle : args.length ≤ n := by simpa using hlen
  have ha : has ⟨args.toArray ++ Array.replicate (fn.ntmps - args.toArray.size) undef, []⟩ (argEnv 0 args) := has_args fun k v hk => by simpa using (argEnv_get hk).2
  have hok : Ok n ⟨args.toArray ++ Array.replicate (fn.ntmps - args.toArray.size) undef, []⟩ := by
    refine ⟨?_, rfl⟩
    simp [hn]; omega
  refine wp_mono (h _ hok ha) fun e a w hq => ?_
  cases e <;> simp only [Post, retK, bodyPost] at hq ⊢
  · obtain ⟨h1, E, h2, vs, h3, h4⟩ := hq
    exact ⟨h1.2, _, results_run h2 hrs h3, _, rfl, h4⟩
  · obtain ⟨_, _, _, h⟩ := hq; exact h
  · obtain ⟨_, _, _, h⟩ := hq; exact h
  · obtain ⟨h1, E, h2, vs, h3, h4⟩ := hq
    exact ⟨h1.2, _, results_run h2 hrs h3, _, rfl, h4⟩
end Go.Proofs.YtndahppmjdbifaaGreatDoor.Eng
set_option linter.unusedVariables false
set_option linter.unusedSimpArgs false
namespace Go.Proofs.YtndahppmjdbifaaGreatDoor.Eng
open Go
def Y (P : Program) (E : Env) (op : Op) (T : TypeId) (w : World) (v : Value) (w' : World) : Prop :=
  ∀ a, has a E → ∀ d pos af g, (execOp a.eval ⟨d, op, T, pos, af, g⟩).run P w = .ok (.value v) w'
def YS (P : Program) (E : Env) (op : Op) (T : TypeId) (w : World) (w' : World) : Prop :=
  ∀ a, has a E → ∀ d pos af g, (execOp a.eval ⟨d, op, T, pos, af, g⟩).run P w = .ok .skip w'
def Plain (P : Program) (T : TypeId) : Prop := ∃ d, P.underlying T = some d ∧ (∀ fs, d ≠ .struct fs) ∧ (∀ n e, d ≠ .array n e)
def Size (P : Program) (T : TypeId) (k : Nat) : Prop := ∃ i, P.info? T = some i ∧ i.size = k
def Zero (P : Program) (T : TypeId) (v : Value) : Prop := ∃ i, P.info? T = some i ∧ i.zero = some v
def Bytes (P : Program) (T : TypeId) (k : Nat) : Prop := ∃ i, P.info? T = some i ∧ i.bytes = k
def IsStruct (P : Program) (T : TypeId) : Prop := ∃ fs, P.underlying T = some (.struct fs)
def Fld (P : Program) (T : TypeId) (i : Nat) (U : TypeId) (off sz : Nat) : Prop :=
  ∃ fs f, P.underlying T = some (.struct fs) ∧ fs[i]? = some f ∧ f.type = U ∧ f.offset = off ∧ Size P U sz
section
variable {P : Program} {T : TypeId}
theorem size_of {k : Nat} (h : (P.info? T).map (·.size) = some k) : Size P T k := by
  cases hi : P.info? T with
  | none => rw [hi] at h; cases h
  | some i => rw [hi] at h; exact ⟨i, hi, by simpa using h⟩
theorem bytes_of {k : Nat} (h : (P.info? T).map (·.bytes) = some k) : Bytes P T k := by
  cases hi : P.info? T with
  | none => rw [hi] at h; cases h
  | some i => rw [hi] at h; exact ⟨i, hi, by simpa using h⟩
theorem zero_of {z : Value} (h : (P.info? T).bind (·.zero) = some z) : Zero P T z := by
  cases hi : P.info? T with
  | none => rw [hi] at h; cases h
  | some i => rw [hi] at h; exact ⟨i, hi, by simpa using h⟩
theorem plain_of {d : TypeDesc} (h : P.underlying T = some d) (h' : (match d with | .struct _ | .array _ _ => false | _ => true) = true) : Plain P T :=
  ⟨d, h, fun fs e => by subst e; simp at h', fun n e f => by subst f; simp at h'⟩
theorem fld_of {fs : Array Field} {i : Nat} {U : TypeId} {off sz : Nat} (h : P.underlying T = some (.struct fs)) (h' : (fs[i]?).map (fun f => (f.type, f.offset)) = some (U, off)) (hs : Size P U sz) : Fld P T i U off sz := by
  cases hi : fs[i]? with
  | none => rw [hi] at h'; cases h'
  | some f =>
    rw [hi] at h'
    simp only [Option.map_some, Option.some.injEq, Prod.mk.injEq] at h'
    exact ⟨fs, f, h, hi, h'.1, h'.2, hs⟩
end
section
variable {P : Program} {n : Nat} {E : Env} {w w' : World} {op : Op} {T : TypeId} {v : Value} {pos : String} {af : Array Edge} {d : Nat} {l : List Oper} {ops : Array Oper} {KE : Env → World → Prop}
theorem wl (hy : Y P E op T w v w') (hd : Nat.blt d n = true) (h : WL P n ops KE l ((d, v) :: E) w') :
    WL P n ops KE (⟨some d, op, T, pos, af, none⟩ :: l) E w := wl_put (fun a ha => hy a ha _ _ _ _) hd h
theorem wls (hy : YS P E op T w w') (h : WL P n ops KE l E w') :
    WL P n ops KE (⟨none, op, T, pos, af, none⟩ :: l) E w := wl_skip (fun a ha => hy a ha _ _ _ _) h
theorem wln (hy : Y P E op T w v w') (h : WL P n ops KE l E w') :
    WL P n ops KE (⟨none, op, T, pos, af, none⟩ :: l) E w := by
  intro a hn ha
  refine wpList_plain rfl fun C hC => ?_
  unfold Oper.wp
  rw [hy a ha]
  exact hC _ _ (h _ hn ha)
theorem Y.val {u : Value} (h : Y P E op T w v w') (e : v = u) : Y P E op T w u w' := e ▸ h
theorem y_move {x : Operand} (hx : ev E x = some v) : Y P E (.move x) T w v w := by
  intro a ha d pos af g; simp [execOp, Pure.pure, Sem.run, ev_sound ha hx]
theorem y_assign {x : Operand} (hx : ev E x = some v) : Y P E (.assign x) T w v w := by
  intro a ha d pos af g; simp [execOp, Pure.pure, Sem.run, ev_sound ha hx]
theorem y_pickT {c x y : Operand} (hc : ev E c = some (.bool true)) (hx : ev E x = some v) : Y P E (.pick c x y) T w v w := by
  intro a ha d pos af g; simp [execOp, Bind.bind, Sem.bind, Pure.pure, Sem.run, asBool, ev_sound ha hx, ev_sound ha hc]
theorem y_pickF {c x y : Operand} (hc : ev E c = some (.bool false)) (hy : ev E y = some v) : Y P E (.pick c x y) T w v w := by
  intro a ha d pos af g; simp [execOp, Bind.bind, Sem.bind, Pure.pure, Sem.run, asBool, ev_sound ha hy, ev_sound ha hc]
theorem y_nil {x : Operand} {ad : Addr} (hx : ev E x = some (.pointer (some ad))) : Y P E (.nilCheck x) T w (.pointer (some ad)) w := by
  intro a ha d pos af g; simp [execOp, Bind.bind, Sem.bind, Pure.pure, Sem.run, ev_sound ha hx]
theorem y_add {x y : Operand} {k : IntKind} {a b r : Int} {U V : TypeId} (hx : ev E x = some (.int k a)) (hy : ev E y = some (.int k b)) (hr : k.wrap (a + b) = r) :
    Y P E (.binOp .add U x y V) T w (.int k r) w := by
  intro c ha d pos af g
  simp [execOp, Bind.bind, Sem.bind, Pure.pure, Sem.run, eqGuard, binOp, Op.intArith, ev_sound ha hx, ev_sound ha hy, hr]
theorem y_sub {x y : Operand} {k : IntKind} {a b r : Int} {U V : TypeId} (hx : ev E x = some (.int k a)) (hy : ev E y = some (.int k b)) (hr : k.wrap (a - b) = r) :
    Y P E (.binOp .sub U x y V) T w (.int k r) w := by
  intro c ha d pos af g
  simp [execOp, Bind.bind, Sem.bind, Pure.pure, Sem.run, eqGuard, binOp, Op.intArith, ev_sound ha hx, ev_sound ha hy, hr]
theorem y_mul {x y : Operand} {k : IntKind} {a b r : Int} {U V : TypeId} (hx : ev E x = some (.int k a)) (hy : ev E y = some (.int k b)) (hr : k.wrap (a * b) = r) :
    Y P E (.binOp .mul U x y V) T w (.int k r) w := by
  intro c ha d pos af g
  simp [execOp, Bind.bind, Sem.bind, Pure.pure, Sem.run, eqGuard, binOp, Op.intArith, ev_sound ha hx, ev_sound ha hy, hr]
theorem y_quo {x y : Operand} {k : IntKind} {a b r : Int} {U V : TypeId} (hx : ev E x = some (.int k a)) (hy : ev E y = some (.int k b)) (hb : b ≠ 0) (hr : k.wrap (a.tdiv b) = r) :
    Y P E (.binOp .quo U x y V) T w (.int k r) w := by
  intro c ha d pos af g
  simp [execOp, Bind.bind, Sem.bind, Pure.pure, Sem.run, eqGuard, binOp, Op.intDiv, ev_sound ha hx, ev_sound ha hy, hr, hb]
theorem y_rem {x y : Operand} {k : IntKind} {a b r : Int} {U V : TypeId} (hx : ev E x = some (.int k a)) (hy : ev E y = some (.int k b)) (hb : b ≠ 0) (hr : a.tmod b = r) :
    Y P E (.binOp .rem U x y V) T w (.int k r) w := by
  intro c ha d pos af g
  simp [execOp, Bind.bind, Sem.bind, Pure.pure, Sem.run, eqGuard, binOp, Op.intDiv, ev_sound ha hx, ev_sound ha hy, hr, hb]
theorem y_and {x y : Operand} {k : IntKind} {a b r : Int} {U V : TypeId} (hx : ev E x = some (.int k a)) (hy : ev E y = some (.int k b)) (hr : k.wrap ((BitVec.ofInt k.bits a &&& BitVec.ofInt k.bits b).toNat : Int) = r) :
    Y P E (.binOp .and U x y V) T w (.int k r) w := by
  intro c ha d pos af g
  subst hr
  simp [execOp, Bind.bind, Sem.bind, Pure.pure, Sem.run, eqGuard, binOp, Op.intBits, ev_sound ha hx, ev_sound ha hy]
theorem y_or {x y : Operand} {k : IntKind} {a b r : Int} {U V : TypeId} (hx : ev E x = some (.int k a)) (hy : ev E y = some (.int k b)) (hr : k.wrap ((BitVec.ofInt k.bits a ||| BitVec.ofInt k.bits b).toNat : Int) = r) :
    Y P E (.binOp .or U x y V) T w (.int k r) w := by
  intro c ha d pos af g
  subst hr
  simp [execOp, Bind.bind, Sem.bind, Pure.pure, Sem.run, eqGuard, binOp, Op.intBits, ev_sound ha hx, ev_sound ha hy]
theorem y_xor {x y : Operand} {k : IntKind} {a b r : Int} {U V : TypeId} (hx : ev E x = some (.int k a)) (hy : ev E y = some (.int k b)) (hr : k.wrap ((BitVec.ofInt k.bits a ^^^ BitVec.ofInt k.bits b).toNat : Int) = r) :
    Y P E (.binOp .xor U x y V) T w (.int k r) w := by
  intro c ha d pos af g
  subst hr
  simp [execOp, Bind.bind, Sem.bind, Pure.pure, Sem.run, eqGuard, binOp, Op.intBits, ev_sound ha hx, ev_sound ha hy]
theorem y_shl {x y : Operand} {k k' : IntKind} {a b r : Int} {U V : TypeId} (hx : ev E x = some (.int k a)) (hy : ev E y = some (.int k' b)) (hb : 0 ≤ b) (hr : k.wrap (a * 2 ^ (min b.toNat k.bits)) = r) :
    Y P E (.binOp .shl U x y V) T w (.int k r) w := by
  intro c ha d pos af g
  simp [execOp, Bind.bind, Sem.bind, Pure.pure, Sem.run, eqGuard, binOp, Op.shift, ev_sound ha hx, ev_sound ha hy, hr, Int.not_lt.2 hb]
theorem y_shr {x y : Operand} {k k' : IntKind} {a b r : Int} {U V : TypeId} (hx : ev E x = some (.int k a)) (hy : ev E y = some (.int k' b)) (hb : 0 ≤ b) (hr : a.fdiv (2 ^ (min b.toNat k.bits)) = r) :
    Y P E (.binOp .shr U x y V) T w (.int k r) w := by
  intro c ha d pos af g
  simp [execOp, Bind.bind, Sem.bind, Pure.pure, Sem.run, eqGuard, binOp, Op.shift, ev_sound ha hx, ev_sound ha hy, hr, Int.not_lt.2 hb]
theorem y_lss {x y : Operand} {k : IntKind} {a b : Int} {U V : TypeId} (hx : ev E x = some (.int k a)) (hy : ev E y = some (.int k b)) :
    Y P E (.binOp .lss U x y V) T w (.bool (decide (a < b))) w := by
  intro c ha d pos af g
  simp [execOp, Bind.bind, Sem.bind, Pure.pure, Sem.run, eqGuard, binOp, Op.intCmp, ev_sound ha hx, ev_sound ha hy]
theorem y_leq {x y : Operand} {k : IntKind} {a b : Int} {U V : TypeId} (hx : ev E x = some (.int k a)) (hy : ev E y = some (.int k b)) :
    Y P E (.binOp .leq U x y V) T w (.bool (decide (a ≤ b))) w := by
  intro c ha d pos af g
  simp [execOp, Bind.bind, Sem.bind, Pure.pure, Sem.run, eqGuard, binOp, Op.intCmp, ev_sound ha hx, ev_sound ha hy]
theorem y_gtr {x y : Operand} {k : IntKind} {a b : Int} {U V : TypeId} (hx : ev E x = some (.int k a)) (hy : ev E y = some (.int k b)) :
    Y P E (.binOp .gtr U x y V) T w (.bool (decide (a > b))) w := by
  intro c ha d pos af g
  simp [execOp, Bind.bind, Sem.bind, Pure.pure, Sem.run, eqGuard, binOp, Op.intCmp, ev_sound ha hx, ev_sound ha hy]
theorem y_geq {x y : Operand} {k : IntKind} {a b : Int} {U V : TypeId} (hx : ev E x = some (.int k a)) (hy : ev E y = some (.int k b)) :
    Y P E (.binOp .geq U x y V) T w (.bool (decide (a ≥ b))) w := by
  intro c ha d pos af g
  simp [execOp, Bind.bind, Sem.bind, Pure.pure, Sem.run, eqGuard, binOp, Op.intCmp, ev_sound ha hx, ev_sound ha hy]
theorem y_eql {x y : Operand} {k : IntKind} {a b : Int} {U V : TypeId} (hx : ev E x = some (.int k a)) (hy : ev E y = some (.int k b)) :
    Y P E (.binOp .eql U x y V) T w (.bool (decide (a = b))) w := by
  intro c ha d pos af g
  have e : (a == b) = decide (a = b) := by by_cases h : a = b <;> simp [h]
  simp [execOp, Bind.bind, Sem.bind, Pure.pure, Sem.run, eqGuard, binOp, Op.intCmp, ev_sound ha hx, ev_sound ha hy, e]
theorem y_neq {x y : Operand} {k : IntKind} {a b : Int} {U V : TypeId} (hx : ev E x = some (.int k a)) (hy : ev E y = some (.int k b)) :
    Y P E (.binOp .neq U x y V) T w (.bool (!decide (a = b))) w := by
  intro c ha d pos af g
  have e : (a != b) = !decide (a = b) := by by_cases h : a = b <;> simp [h]
  simp [execOp, Bind.bind, Sem.bind, Pure.pure, Sem.run, eqGuard, binOp, Op.intCmp, ev_sound ha hx, ev_sound ha hy, e]
theorem equalIn_bool {a b : Bool} {U : TypeId} {k : Nat} (hU : P.underlying U = some .bool) : (Op.equalIn (k + 1) U (.bool a) (.bool b)).run P w = .ok (a == b) w := by
  unfold Op.equalIn
  simp [underlying, program, Bind.bind, Sem.bind, Pure.pure, Sem.run, hU]
theorem equal_of {x y : Value} {U : TypeId} {r : Bool} (h : (Op.equalIn (9999 + 1) U x y).run P w = .ok r w) : (Op.equal U x y).run P w = .ok r w := h
theorem y_beq {x y : Operand} {a b : Bool} {U V : TypeId} (hU : P.underlying U = some .bool) (hx : ev E x = some (.bool a)) (hy : ev E y = some (.bool b)) :
    Y P E (.binOp .eql U x y V) T w (.bool (a == b)) w := by
  intro c ha d pos af g
  simp only [execOp, ev_sound ha hx, ev_sound ha hy]
  have h1 := equal_of (equalIn_bool (w := w) (a := a) (b := b) hU)
  exact (Sem.run_bind_ok' (Sem.run_bind_ok' h1)).trans rfl
theorem y_not {x : Operand} {b : Bool} {U : TypeId} (hx : ev E x = some (.bool b)) : Y P E (.unOp .not U x) T w (.bool (!b)) w := by
  intro c ha d pos af g
  simp [execOp, Bind.bind, Sem.bind, Pure.pure, Sem.run, Op.unary, ev_sound ha hx]
theorem y_neg {x : Operand} {k : IntKind} {a r : Int} {U : TypeId} (hx : ev E x = some (.int k a)) (hr : k.wrap (0 - a) = r) : Y P E (.unOp .neg U x) T w (.int k r) w := by
  intro c ha d pos af g
  have hr' : k.wrap (-a) = r := by rw [← hr]; congr 1; omega
  simp [execOp, Bind.bind, Sem.bind, Pure.pure, Sem.run, Op.unary, Op.intArith, ev_sound ha hx, hr, hr']
theorem y_compl {x : Operand} {k : IntKind} {a r : Int} {U : TypeId} (hx : ev E x = some (.int k a)) (hr : k.wrap ((BitVec.ofInt k.bits (if k.signed then -1 else k.max) ^^^ BitVec.ofInt k.bits a).toNat : Int) = r) : Y P E (.unOp .xor U x) T w (.int k r) w := by
  intro c ha d pos af g
  subst hr
  simp [execOp, Bind.bind, Sem.bind, Pure.pure, Sem.run, Op.unary, Op.intBits, ev_sound ha hx]
theorem y_conv {x : Operand} {k k' : IntKind} {a r : Int} {U V : TypeId} {dU : TypeDesc} (hU : P.underlying U = some dU) (hV : P.underlying V = some (.int k)) (hx : ev E x = some (.int k' a)) (hr : k.wrap a = r) : Y P E (.convert U V x) T w (.int k r) w := by
  intro c ha d pos af g
  simp [execOp, Bind.bind, Sem.bind, Pure.pure, Sem.run, convert, underlying, program, Conv.intToInt, ev_sound ha hx, hr, hU, hV]
theorem y_min {x y : Operand} {k : IntKind} {a b : Int} {ts : Array TypeId} (hx : ev E x = some (.int k a)) (hy : ev E y = some (.int k b)) :
    Y P E (.call ⟨.builtin .min, #[x, y], ts⟩) T w (.int k (min a b)) w := by
  intro c ha d pos af g
  have e : (if b < a then b else a) = min a b := by omega
  simp [execOp, Bind.bind, Sem.bind, Pure.pure, Sem.run, resolve, invoke, builtin, Builtin.min_, Builtin.min2, ev_sound ha hx, ev_sound ha hy, List.foldlM, e]
theorem y_max {x y : Operand} {k : IntKind} {a b : Int} {ts : Array TypeId} (hx : ev E x = some (.int k a)) (hy : ev E y = some (.int k b)) :
    Y P E (.call ⟨.builtin .max, #[x, y], ts⟩) T w (.int k (max a b)) w := by
  intro c ha d pos af g
  have e : (if a < b then b else a) = max a b := by omega
  simp [execOp, Bind.bind, Sem.bind, Pure.pure, Sem.run, resolve, invoke, builtin, Builtin.max_, Builtin.max2, ev_sound ha hx, ev_sound ha hy, List.foldlM, e]
theorem y_sadd {x y : Operand} {s t : ByteArray} {U V : TypeId} (hx : ev E x = some (.string s)) (hy : ev E y = some (.string t)) (hs : s.size + t.size ≤ 9223372036854775807) :
    Y P E (.binOp .add U x y V) T w (.string (s ++ t)) w := by
  intro c ha d pos af g
  have h' : ¬ (9223372036854775807 < (s.size : Int) + (t.size : Int)) := by omega
  simp [execOp, Bind.bind, Sem.bind, Pure.pure, Sem.run, eqGuard, binOp, Op.stringOp, ev_sound ha hx, ev_sound ha hy, h']
theorem bytes_eq {a b : ByteArray} (h : a.data.toList = b.data.toList) : a = b := by
  cases a; cases b; simp only [ByteArray.mk.injEq]; exact Array.toList_inj.1 h
theorem beq_toList (s t : ByteArray) : (s.toList == t.toList) = decide (s = t) := by
  by_cases h : s = t
  · simp [h]
  · have : s.toList ≠ t.toList := by
      intro e
      rw [ByteArray.toList_eq, ByteArray.toList_eq] at e
      exact h (bytes_eq e)
    simp [h, this]
theorem y_seql {x y : Operand} {s t : ByteArray} {U V : TypeId} (hx : ev E x = some (.string s)) (hy : ev E y = some (.string t)) :
    Y P E (.binOp .eql U x y V) T w (.bool (decide (s = t))) w := by
  intro c ha d pos af g
  have e := beq_toList s t
  simp only [execOp, Bind.bind, Sem.bind, Pure.pure, Sem.run, eqGuard, binOp, Op.stringOp, ev_sound ha hx, ev_sound ha hy, e]
  simp [Sem.bind, Sem.run]
theorem y_sneq {x y : Operand} {s t : ByteArray} {U V : TypeId} (hx : ev E x = some (.string s)) (hy : ev E y = some (.string t)) :
    Y P E (.binOp .neq U x y V) T w (.bool (!decide (s = t))) w := by
  intro c ha d pos af g
  have e := beq_toList s t
  simp only [execOp, Bind.bind, Sem.bind, Pure.pure, Sem.run, eqGuard, binOp, Op.stringOp, ev_sound ha hx, ev_sound ha hy, e]
  simp [Sem.bind, Sem.run]
theorem y_len_s {x : Operand} {s : ByteArray} {U : TypeId} (hU : P.underlying U = some .string) (hx : ev E x = some (.string s)) :
    Y P E (.call ⟨.builtin .len, #[x], #[U]⟩) T w (.int .i64 s.size) w := by
  intro c ha d pos af g
  simp [execOp, Bind.bind, Sem.bind, Pure.pure, Sem.run, resolve, invoke, builtin, Builtin.len_, underlying, program, goInt, ev_sound ha hx, hU]
theorem y_len_sl {x : Operand} {ad : Option Addr} {m cp : Nat} {U e : TypeId} (hU : P.underlying U = some (.slice e)) (hx : ev E x = some (.slice ad m cp)) :
    Y P E (.call ⟨.builtin .len, #[x], #[U]⟩) T w (.int .i64 m) w := by
  intro c ha d pos af g
  simp [execOp, Bind.bind, Sem.bind, Pure.pure, Sem.run, resolve, invoke, builtin, Builtin.len_, underlying, program, goInt, ev_sound ha hx, hU]
theorem y_idx_s {x y : Operand} {s : ByteArray} {k : IntKind} {i : Int} {U : TypeId} {b : UInt8} (hU : P.underlying U = some .string) (hx : ev E x = some (.string s)) (hy : ev E y = some (.int k i))
    (h0 : 0 ≤ i) (hb : s[i.toNat]? = some b) : Y P E (.index U x y) T w (.int .u8 b.toNat) w := by
  intro c ha d pos af g
  simp [execOp, Bind.bind, Sem.bind, Pure.pure, Sem.run, Instr.index, asIntOf, underlying, program, ev_sound ha hx, ev_sound ha hy, hU, h0, hb]
theorem y_sl_s {x : Operand} {s r : ByteArray} {U : TypeId} {lo hi : Option Operand} {lv hv : Nat} (hU : P.underlying U = some .string) (hx : ev E x = some (.string s))
    (hl : match lo with | none => lv = 0 | some o => ∃ k i, ev E o = some (.int k i) ∧ 0 ≤ i ∧ i.toNat = lv)
    (hh : match hi with | none => hv = s.size | some o => ∃ k i, ev E o = some (.int k i) ∧ 0 ≤ i ∧ i.toNat = hv)
    (h1 : lv ≤ hv) (h2 : hv ≤ s.size) (hr : s.extract lv hv = r) : Y P E (.slice U x lo hi none) T w (.string r) w := by
  intro c ha d pos af g
  subst hr
  have e1 : ∀ {z : Operand} {k : IntKind} {i : Int}, ev E z = some (.int k i) → c.eval z = .int k i := fun h => ev_sound ha h
  cases lo with
  | none =>
    simp only at hl
    subst hl
    cases hi with
    | none =>
      simp only at hh
      subst hh
      simp [execOp, Bind.bind, Sem.bind, Pure.pure, Sem.run, Instr.sliceAt, Instr.slice, Instr.sliceBounds, Instr.sliceBound, asIntOf, underlying, program, ev_sound ha hx, hU]
    | some o =>
      simp only at hh
      obtain ⟨k, i, h3, h4, h5⟩ := hh
      have h6 : i ≤ (s.size : Int) := by omega
      simp [execOp, Bind.bind, Sem.bind, Pure.pure, Sem.run, Instr.sliceAt, Instr.slice, Instr.sliceBounds, Instr.sliceBound, asIntOf, underlying, program, ev_sound ha hx, hU, e1 h3, h4, h5, h6]
  | some q =>
    simp only at hl
    obtain ⟨k, i, h3, h4, h5⟩ := hl
    have h6 : i ≤ (hv : Int) := by omega
    cases hi with
    | none =>
      simp only at hh
      subst hh
      simp [execOp, Bind.bind, Sem.bind, Pure.pure, Sem.run, Instr.sliceAt, Instr.slice, Instr.sliceBounds, Instr.sliceBound, asIntOf, underlying, program, ev_sound ha hx, hU, e1 h3, h4, h5, h6]
    | some o =>
      simp only at hh
      obtain ⟨k', i', h3', h4', h5'⟩ := hh
      have h6' : i' ≤ (s.size : Int) := by omega
      have h7 : i ≤ i' := by omega
      have h8 : i ≤ ((i'.toNat : Nat) : Int) := by omega
      simp [execOp, Bind.bind, Sem.bind, Pure.pure, Sem.run, Instr.sliceAt, Instr.slice, Instr.sliceBounds, Instr.sliceBound, asIntOf, underlying, program, ev_sound ha hx, hU, e1 h3, h4, h5, e1 h3', h4', h5', h6', h6, h7, h8]
theorem y_extract {x : Operand} {vs : List Value} {i : Nat} (hx : ev E x = some (.tuple vs.toArray)) (hv : vs[i]? = some v) : Y P E (.extract x i) T w v w := by
  intro c ha d pos af g
  simp [execOp, Bind.bind, Sem.bind, Pure.pure, Sem.run, Instr.extract, ev_sound ha hx, hv]
end
end Go.Proofs.YtndahppmjdbifaaGreatDoor.Eng
set_option linter.unusedVariables false
set_option linter.unusedSimpArgs false
namespace Go.Proofs.YtndahppmjdbifaaGreatDoor.Eng
open Go
structure Mem where
  at_ : Nat → Option Obj
  os : Os
  out : Array (Nat × ByteArray)
  tape : Nat → Question → Nat
instance : CoeFun Mem fun _ => Nat → Option Obj := ⟨Mem.at_⟩
def Io (w w' : World) : Prop := w'.os = w.os ∧ w'.output = w.output ∧ w'.tape = w.tape
theorem Io.refl (w : World) : Io w w := ⟨rfl, rfl, rfl⟩
theorem Io.trans {w1 w2 w3 : World} (h : Io w1 w2) (h' : Io w2 w3) : Io w1 w3 := ⟨h'.1.trans h.1, h'.2.1.trans h.2.1, h'.2.2.trans h.2.2⟩
abbrev Chunk := List (Nat × Obj)
structure St (M : Mem) (w : World) (Ls : List Chunk) : Prop where
  imm : ∀ b o, M b = some o → w.heap[b]? = some o
  own : ∀ b o, (b, o) ∈ Ls.flatten → w.heap[b]? = some o
  apart : ∀ b o, (b, o) ∈ Ls.flatten → M b = none
  nodup : (Ls.flatten.map (·.1)).Nodup
  io : w.os = M.os ∧ w.output = M.out ∧ w.tape = M.tape
class Has (Ls : List Chunk) (b : Nat) (o : outParam Obj) : Prop where
  mem : (b, o) ∈ Ls.flatten
instance Has.head {b : Nat} {o : Obj} {Ls : List Chunk} : Has ([(b, o)] :: Ls) b o := ⟨by simp⟩
instance (priority := low) Has.tail {b : Nat} {o : Obj} {A : Chunk} {Ls : List Chunk} [h : Has Ls b o] : Has (A :: Ls) b o := ⟨by simp [h.mem]⟩
instance Has.headc {b : Nat} {o : Obj} {A : Chunk} {Ls : List Chunk} : Has (((b, o) :: A) :: Ls) b o := ⟨by simp⟩
class Upd (Ls : List Chunk) (b : Nat) (o : Obj) (Ls' : outParam (List Chunk)) : Prop where
  split : ∃ (X Y : Chunk) (o0 : Obj), Ls.flatten = X ++ (b, o0) :: Y ∧ Ls'.flatten = X ++ (b, o) :: Y
instance Upd.head {b : Nat} {o o0 : Obj} {A : Chunk} {Ls : List Chunk} : Upd (((b, o0) :: A) :: Ls) b o (((b, o) :: A) :: Ls) := ⟨[], A ++ Ls.flatten, o0, by simp, by simp⟩
instance (priority := low) Upd.tail {b : Nat} {o : Obj} {A : Chunk} {Ls Ls' : List Chunk} [h : Upd Ls b o Ls'] : Upd (A :: Ls) b o (A :: Ls') := ⟨by
  obtain ⟨X, Y, o0, h1, h2⟩ := h.split
  exact ⟨A ++ X, Y, o0, by simp [h1], by simp [h2]⟩⟩
class Pull (Ls : List Chunk) (A : Chunk) (Ls' : outParam (List Chunk)) : Prop where
  perm : Ls.flatten.Perm (A ++ Ls'.flatten)
instance Pull.head {A : Chunk} {Ls : List Chunk} : Pull (A :: Ls) A Ls := ⟨by simp⟩
instance (priority := low) Pull.tail {A B : Chunk} {Ls Ls' : List Chunk} [h : Pull Ls A Ls'] : Pull (B :: Ls) A (B :: Ls') := ⟨by
  have := h.perm
  simp only [List.flatten_cons]
  refine (List.Perm.append_left B this).trans ?_
  rw [← List.append_assoc, ← List.append_assoc]
  exact List.Perm.append_right _ List.perm_append_comm⟩
section
variable {M : Mem} {w : World} {Ls Ls' : List Chunk} {A B : Chunk}
theorem St.perm (h : St M w Ls) (hp : Ls.flatten.Perm Ls'.flatten) : St M w Ls' :=
  ⟨h.imm, fun b o hm => h.own b o (hp.mem_iff.2 hm), fun b o hm => h.apart b o (hp.mem_iff.2 hm), ((hp.map _).nodup_iff).1 h.nodup, h.io⟩
theorem St.pull (h : St M w Ls) (A : Chunk) [p : Pull Ls A Ls'] : St M w (A :: Ls') := h.perm (by simpa using p.perm)
theorem St.split (h : St M w ((A ++ B) :: Ls)) : St M w (A :: B :: Ls) := h.perm (by simp)
theorem St.uncons {x : Nat × Obj} (h : St M w ((x :: A) :: Ls)) : St M w ([x] :: A :: Ls) := h.perm (by simp)
theorem St.cons {x : Nat × Obj} (h : St M w ([x] :: A :: Ls)) : St M w ((x :: A) :: Ls) := h.perm (by simp)
theorem St.drop (h : St M w (A :: Ls)) : St M w Ls :=
  ⟨h.imm, fun b o hm => h.own b o (by simp; exact .inr (by simpa using hm)), fun b o hm => h.apart b o (by simp; exact .inr (by simpa using hm)),
   by have := h.nodup; simp only [List.flatten_cons, List.map_append] at this; exact (List.nodup_append.1 this).2.1, h.io⟩
theorem St.nil (h : St M w Ls) : St M w ([] :: Ls) := h.perm (by simp)
theorem St.has {b : Nat} {o : Obj} (h : St M w Ls) [m : Has Ls b o] : w.heap[b]? = some o := h.own b o m.mem
theorem St.same {w' : World} (h : St M w Ls) (e : w'.heap = w.heap ∧ Io w w') : St M w' Ls :=
  have e2 := e.2
  have e := e.1
  ⟨fun b o hm => by rw [e]; exact h.imm b o hm, fun b o hm => by rw [e]; exact h.own b o hm, h.apart, h.nodup, e2.1.trans h.io.1, e2.2.1.trans h.io.2.1, e2.2.2.trans h.io.2.2⟩
theorem St.push (h : St M w Ls) (o : Obj) (w' : World) (e : w'.heap = w.heap.push o) (i : Io w w') : St M w' ([(w.heap.size, o)] :: Ls) := by
  have lt : ∀ b o, w.heap[b]? = some o → b < w.heap.size := fun b o h => by
    rcases Nat.lt_or_ge b w.heap.size with h' | h'
    · exact h'
    · rw [Array.getElem?_eq_none h'] at h; cases h
  refine ⟨fun b x hm => ?_, fun b x hm => ?_, fun b x hm => ?_, ?_, i.1.trans h.io.1, i.2.1.trans h.io.2.1, i.2.2.trans h.io.2.2⟩
  · have := h.imm b x hm
    rw [e, Array.getElem?_push, if_neg (by have := lt _ _ this; omega)]; exact this
  · simp only [List.flatten_cons, List.cons_append, List.nil_append, List.mem_cons, Prod.mk.injEq] at hm
    rcases hm with ⟨rfl, rfl⟩ | hm
    · rw [e]; simp
    · have := h.own b x hm
      rw [e, Array.getElem?_push, if_neg (by have := lt _ _ this; omega)]; exact this
  · simp only [List.flatten_cons, List.cons_append, List.nil_append, List.mem_cons, Prod.mk.injEq] at hm
    rcases hm with ⟨rfl, rfl⟩ | hm
    · cases hM : M w.heap.size with
      | none => rfl
      | some y => exact absurd (lt _ _ (h.imm _ _ hM)) (by omega)
    · exact h.apart b x hm
  · simp only [List.flatten_cons, List.cons_append, List.nil_append, List.map_cons, List.nodup_cons]
    refine ⟨fun hm => ?_, h.nodup⟩
    obtain ⟨⟨b, x⟩, hm, hb⟩ := List.mem_map.1 hm
    have := lt _ _ (h.own b x hm)
    simp only at hb; omega
theorem St.upd {b : Nat} {o : Obj} (h : St M w Ls) [u : Upd Ls b o Ls'] (w' : World) (hb : w'.heap[b]? = some o) (ho : (∀ c, c ≠ b → w'.heap[c]? = w.heap[c]?) ∧ Io w w') : St M w' Ls' := by
  have i := ho.2
  replace ho := ho.1
  obtain ⟨X, Y, o0, h1, h2⟩ := u.split
  have hap : M b = none := h.apart b o0 (by rw [h1]; simp)
  have hnd := h.nodup
  rw [h1] at hnd
  simp only [List.map_append, List.map_cons] at hnd
  have hX : ∀ c x, (c, x) ∈ X → c ≠ b := by
    intro c x hm e
    subst e
    exact (List.nodup_append.1 hnd).2.2 c (List.mem_map.2 ⟨(c, x), hm, rfl⟩) c (by simp) rfl
  have hY : ∀ c x, (c, x) ∈ Y → c ≠ b := by
    intro c x hm e
    subst e
    have := (List.nodup_cons.1 (List.nodup_append.1 hnd).2.1).1
    exact this (List.mem_map.2 ⟨(c, x), hm, rfl⟩)
  refine ⟨fun c x hm => ?_, fun c x hm => ?_, fun c x hm => ?_, ?_, i.1.trans h.io.1, i.2.1.trans h.io.2.1, i.2.2.trans h.io.2.2⟩
  · rw [ho c (by intro e; subst e; rw [hap] at hm; cases hm)]; exact h.imm c x hm
  · rw [h2] at hm
    simp only [List.mem_append, List.mem_cons, Prod.mk.injEq] at hm
    rcases hm with hm | ⟨rfl, rfl⟩ | hm
    · rw [ho c (hX c x hm)]; exact h.own c x (by rw [h1]; simp [hm])
    · exact hb
    · rw [ho c (hY c x hm)]; exact h.own c x (by rw [h1]; simp [hm])
  · rw [h2] at hm
    simp only [List.mem_append, List.mem_cons, Prod.mk.injEq] at hm
    rcases hm with hm | ⟨rfl, rfl⟩ | hm
    · exact h.apart c x (by rw [h1]; simp [hm])
    · exact hap
    · exact h.apart c x (by rw [h1]; simp [hm])
  · rw [h2]; simp only [List.map_append, List.map_cons]; exact hnd
def Mle (M M' : Mem) : Prop := (∀ b o, M b = some o → M' b = some o) ∧ M'.os = M.os ∧ M'.out = M.out ∧ M'.tape = M.tape
theorem Mle.refl (M : Mem) : Mle M M := ⟨fun _ _ h => h, rfl, rfl, rfl⟩
theorem Mle.trans {M1 M2 M3 : Mem} (h : Mle M1 M2) (h' : Mle M2 M3) : Mle M1 M3 := ⟨fun b o hm => h'.1 b o (h.1 b o hm), h'.2.1.trans h.2.1, h'.2.2.1.trans h.2.2.1, h'.2.2.2.trans h.2.2.2⟩
theorem St.freeze (h : St M w (A :: Ls)) : ∃ M', Mle M M' ∧ (∀ b o, (b, o) ∈ A → M' b = some o) ∧ St M' w Ls := by
  classical
  have hnd := h.nodup
  simp only [List.flatten_cons, List.map_append] at hnd
  refine ⟨⟨fun b => if hb : ∃ o, (b, o) ∈ A then some (Classical.choose hb) else M b, M.os, M.out, M.tape⟩, ⟨?_, rfl, rfl, rfl⟩, ?_, ?_⟩
  · intro b o hm
    have : ¬ ∃ o, (b, o) ∈ A := fun ⟨x, hx⟩ => by rw [h.apart b x (by simp; exact .inl hx)] at hm; cases hm
    simp only [dif_neg this]; exact hm
  · intro b o hm
    have hb : ∃ o, (b, o) ∈ A := ⟨o, hm⟩
    simp only [dif_pos hb]
    have h1 := h.own b _ (by simp; exact .inl (Classical.choose_spec hb))
    have h2 := h.own b o (by simp; exact .inl hm)
    rw [h1] at h2; exact h2
  · refine ⟨fun b o hm => ?_, h.drop.own, fun b o hm => ?_, h.drop.nodup, h.io⟩
    · by_cases hb : ∃ o, (b, o) ∈ A
      · simp only [dif_pos hb, Option.some.injEq] at hm
        subst hm
        exact h.own b _ (by simp; exact .inl (Classical.choose_spec hb))
      · simp only [dif_neg hb] at hm; exact h.imm b o hm
    · have hb : ¬ ∃ o, (b, o) ∈ A := fun ⟨x, hx⟩ =>
        (List.nodup_append.1 hnd).2.2 b (List.mem_map.2 ⟨(b, x), hx, rfl⟩) b (List.mem_map.2 ⟨(b, o), hm, rfl⟩) rfl
      simp only [dif_neg hb]
      exact h.drop.apart b o hm
theorem cell_of {b j : Nat} {cs : Array Value} {T : TypeId} {fz : Nat × Nat} (h : w.heap[b]? = some (.cells cs T fz)) : w.cell? ⟨b, j, none⟩ = cs[j]? := by
  simp [World.cell?, h]
end
section
variable {P : Program} {E : Env} {w : World} {T : TypeId} {v : Value} {M : Mem} {Ls Ls' : List Chunk}
theorem run_sizeOf {k : Nat} (h : Size P T k) {α : Type} (f : Nat → Sem α) : (sizeOf T >>= f).run P w = (f k).run P w := by
  obtain ⟨i, h1, rfl⟩ := h
  simp [sizeOf, typeInfo, program, Bind.bind, Sem.bind, Pure.pure, Sem.run, h1]
theorem run_isAgg_plain (h : Plain P T) {α : Type} (f : Bool → Sem α) : (isAgg T >>= f).run P w = (f false).run P w := by
  obtain ⟨d, h1, h2, h3⟩ := h
  cases d <;> simp_all [isAgg, underlying, program, Bind.bind, Sem.bind, Pure.pure, Sem.run]
theorem run_isAgg_struct (h : IsStruct P T) {α : Type} (f : Bool → Sem α) : (isAgg T >>= f).run P w = (f true).run P w := by
  obtain ⟨d, h1⟩ := h
  simp_all [isAgg, underlying, program, Bind.bind, Sem.bind, Pure.pure, Sem.run]
theorem run_isAgg_array {m : Nat} {e : TypeId} (h : P.underlying T = some (.array m e)) {α : Type} (f : Bool → Sem α) : (isAgg T >>= f).run P w = (f true).run P w := by
  simp_all [isAgg, underlying, program, Bind.bind, Sem.bind, Pure.pure, Sem.run]
theorem Addr.add_mk {b j k : Nat} : (Addr.mk b j none).add k = ⟨b, j + k, none⟩ := by
  unfold Addr.add; split
  · subst_vars; rfl
  · rfl
def CellsAt (w : World) (b j : Nat) (vs : List Value) : Prop := ∀ i v, vs[i]? = some v → w.cell? ⟨b, j + i, none⟩ = some v
theorem loadCellsFrom_run {b j : Nat} : ∀ {vs : List Value} {i : Nat} {acc : Array Value}, CellsAt w b (j + i) vs →
    (loadCellsFrom ⟨b, j, none⟩ i vs.length acc).run P w = .ok (acc ++ vs.toArray) w
  | [], i, acc, h => by simp [loadCellsFrom, Pure.pure, Sem.run]
  | v :: vs, i, acc, h => by
    have h0 := h 0 v rfl
    have ih := loadCellsFrom_run (j := j) (vs := vs) (i := i + 1) (acc := acc.push v) fun k u hk => by
      have := h (k + 1) u (by simpa using hk)
      rwa [show j + (i + 1) + k = j + i + (k + 1) by omega]
    simp only [List.length_cons, loadCellsFrom]
    simp only [load, Bind.bind, Sem.bind, Sem.run, Addr.add_mk]
    rw [show j + i + 0 = j + i by omega] at h0
    rw [h0]
    simpa using ih
theorem loadCells_run {b j : Nat} {vs : List Value} (h : CellsAt w b j vs) : (loadCells ⟨b, j, none⟩ vs.length).run P w = .ok vs.toArray w := by
  have := loadCellsFrom_run (P := P) (j := j) (vs := vs) (i := 0) (acc := #[]) (by simpa using h)
  simpa [loadCells] using this
theorem loadVar_plain {b j : Nat} (hT : Plain P T) (hc : w.cell? ⟨b, j, none⟩ = some v) : (loadVar T ⟨b, j, none⟩).run P w = .ok v w := by
  unfold loadVar
  rw [run_isAgg_plain hT]
  simp [load, Sem.run, hc]
theorem loadVar_struct {b j k : Nat} {vs : List Value} (hT : IsStruct P T) (hk : Size P T k) (hl : vs.length = k) (hc : CellsAt w b j vs) : (loadVar T ⟨b, j, none⟩).run P w = .ok (.agg vs.toArray) w := by
  unfold loadVar
  rw [run_isAgg_struct hT]
  simp only [if_true]
  rw [run_sizeOf hk, ← hl]
  exact (Sem.run_bind_ok' (loadCells_run hc)).trans rfl
theorem loadVar_array {b j k m : Nat} {e : TypeId} {vs : List Value} (hT : P.underlying T = some (.array m e)) (hk : Size P T k) (hl : vs.length = k) (hc : CellsAt w b j vs) : (loadVar T ⟨b, j, none⟩).run P w = .ok (.agg vs.toArray) w := by
  unfold loadVar
  rw [run_isAgg_array hT]
  simp only [if_true]
  rw [run_sizeOf hk, ← hl]
  exact (Sem.run_bind_ok' (loadCells_run hc)).trans rfl
theorem y_load {x : Operand} {b j : Nat} {U : TypeId} (hU : Plain P U) (hx : ev E x = some (.pointer (some ⟨b, j, none⟩))) (hc : w.cell? ⟨b, j, none⟩ = some v) : Y P E (.load U x) T w v w := by
  intro a ha d pos af g
  simp only [execOp, Instr.loadAt, Instr.sureAddr, ev_sound ha hx]
  exact (Sem.run_bind_ok' (loadVar_plain hU hc)).trans rfl
theorem y_loadS {x : Operand} {b j k : Nat} {U : TypeId} {vs : List Value} (hU : IsStruct P U) (hk : Size P U k) (hx : ev E x = some (.pointer (some ⟨b, j, none⟩))) (hc : CellsAt w b j vs) (hl : vs.length = k) : Y P E (.load U x) T w (.agg vs.toArray) w := by
  intro a ha d pos af g
  simp only [execOp, Instr.loadAt, Instr.sureAddr, ev_sound ha hx]
  exact (Sem.run_bind_ok' (loadVar_struct hU hk hl hc)).trans rfl
theorem y_loadArr {x : Operand} {b j k m : Nat} {U e : TypeId} {vs : List Value} (hU : P.underlying U = some (.array m e)) (hk : Size P U k) (hx : ev E x = some (.pointer (some ⟨b, j, none⟩))) (hc : CellsAt w b j vs) (hl : vs.length = k) : Y P E (.load U x) T w (.agg vs.toArray) w := by
  intro a ha d pos af g
  simp only [execOp, Instr.loadAt, Instr.sureAddr, ev_sound ha hx]
  exact (Sem.run_bind_ok' (loadVar_array hU hk hl hc)).trans rfl
def oneC : Value → Bool
  | .agg _ | .tuple _ => false
  | _ => true
def setCells (cs : Array Value) (j : Nat) : List Value → Array Value
  | [] => cs
  | v :: vs => setCells (cs.setIfInBounds j v) (j + 1) vs
theorem storeCells_run {b : Nat} {U : TypeId} {fz : Nat × Nat} {j : Nat} : ∀ {vs : List Value} {i : Nat} {w : World} {cs : Array Value}, w.heap[b]? = some (.cells cs U fz) → (∀ v ∈ vs, oneC v = true) → j + i + vs.length ≤ cs.size →
    (∀ i' < vs.length, ¬ (fz.1 ≤ j + i + i' ∧ j + i + i' < fz.2)) →
    ∃ w', (storeCells ⟨b, j, none⟩ vs i).run P w = .ok () w' ∧ w'.heap[b]? = some (.cells (setCells cs (j + i) vs) U fz) ∧ (∀ c, c ≠ b → w'.heap[c]? = w.heap[c]?) ∧ Io w w'
  | [], i, w, cs, h, _, _, _ => ⟨w, by simp [storeCells, Pure.pure, Sem.run], by simpa [setCells] using h, fun _ _ => rfl, Io.refl _⟩
  | v :: vs, i, w, cs, h, h1, h2, h3 => by
    have hlt : j + i < cs.size := by simp at h2; omega
    have hc : w.cell? ⟨b, j + i, none⟩ = some cs[j + i] := by rw [cell_of h]; simp [hlt]
    have hf : w.frozen? ⟨b, j + i, none⟩ = false := by
      have := h3 0 (by simp)
      simp only [World.frozen?, h]
      obtain ⟨lo, hi⟩ := fz
      simp only [Nat.add_zero] at this
      simp only [Bool.and_eq_false_imp, decide_eq_true_eq, decide_eq_false_iff_not]
      intro ha hb; exact this ⟨ha, hb⟩
    have hb : b < w.heap.size := by
      rcases Nat.lt_or_ge b w.heap.size with h' | h'
      · exact h'
      · rw [Array.getElem?_eq_none h'] at h; cases h
    have hw : (w.setCell ⟨b, j + i, none⟩ v).heap[b]? = some (.cells (cs.setIfInBounds (j + i) v) U fz) := by
      simp [World.setCell, Array.getElem?_modify, h]
    have ho : ∀ c, c ≠ b → (w.setCell ⟨b, j + i, none⟩ v).heap[c]? = w.heap[c]? := by
      intro c hc'
      simp [World.setCell, Array.getElem?_modify, Ne.symm hc']
    obtain ⟨w', e1, e2, e3, e4⟩ := storeCells_run (j := j) (vs := vs) (i := i + 1) hw (fun u hu => h1 u (List.mem_cons_of_mem _ hu)) (by simp at h2 ⊢; omega)
      (fun i' hi' => by have := h3 (i' + 1) (by simp; omega); rwa [show j + (i + 1) + i' = j + i + (i' + 1) by omega])
    refine ⟨w', ?_, by simpa [setCells, Nat.add_assoc] using e2, fun c hc' => by rw [e3 c hc', ho c hc'], e4⟩
    have hone := h1 v (by simp)
    rw [← e1]
    simp only [storeCells, store, Bind.bind, Sem.bind, Addr.add_mk]
    cases v <;> simp [oneC] at hone <;> simp [Sem.run, hc, hf]
end
end Go.Proofs.YtndahppmjdbifaaGreatDoor.Eng
set_option linter.unusedVariables false
set_option linter.unusedSimpArgs false
namespace Go.Proofs.YtndahppmjdbifaaGreatDoor.Eng
open Go
section
variable {P : Program} {n : Nat} {E : Env} {w w' : World} {T : TypeId} {v : Value} {M : Mem} {Ls Ls' : List Chunk} {pos : String} {af : Array Edge} {d : Nat} {l : List Oper} {ops : Array Oper} {KE : Env → World → Prop}
def World.with (w : World) (o : Obj) : World := { w with heap := w.heap.push o }
theorem St.new (h : St M w Ls) (o : Obj) : St M (World.with w o) ([(w.heap.size, o)] :: Ls) := h.push o _ rfl ⟨rfl, rfl, rfl⟩
theorem x_alloc {U : TypeId} {z : Value} (hz : Zero P U z) : Y P E (.alloc U) T w (.pointer (some ⟨w.heap.size, 0, none⟩)) (World.with w (.cells z.cells U)) := by
  obtain ⟨i, h1, h2⟩ := hz
  intro a ha d pos af g
  simp [execOp, Instr.alloc, zeroValue, typeInfo, newVar, newRow, newObj, program, Bind.bind, Sem.bind, Pure.pure, Sem.run, h1, h2, World.with]
theorem a_alloc {U : TypeId} {z : Value} (hz : Zero P U z) (hS : St M w Ls) (hd : Nat.blt d n = true)
    (h : ∀ b w', St M w' ([(b, .cells z.cells U)] :: Ls) → WL P n ops KE l ((d, .pointer (some ⟨b, 0, none⟩)) :: E) w') : WL P n ops KE (⟨some d, .alloc U, T, pos, af, none⟩ :: l) E w :=
  wl (x_alloc hz) hd (h _ _ (hS.new _))
theorem x_box {U : TypeId} {x : Operand} (hx : ev E x = some v) : Y P E (.box U x) T w (.pointer (some ⟨w.heap.size, 0, none⟩)) (World.with w (.cells v.cells U)) := by
  intro a ha d pos af g
  simp [execOp, Instr.box, newVar, newRow, newObj, Bind.bind, Sem.bind, Pure.pure, Sem.run, ev_sound ha hx, World.with]
theorem a_box {U : TypeId} {x : Operand} (hx : ev E x = some v) (hS : St M w Ls) (hd : Nat.blt d n = true)
    (h : ∀ b w', St M w' ([(b, .cells v.cells U)] :: Ls) → WL P n ops KE l ((d, .pointer (some ⟨b, 0, none⟩)) :: E) w') : WL P n ops KE (⟨some d, .box U x, T, pos, af, none⟩ :: l) E w :=
  wl (x_box hx) hd (h _ _ (hS.new _))
theorem storeVar_run {b j k : Nat} {V U : TypeId} {cs : Array Value} {fz : Nat × Nat} (hk : Size P U k) (hv : v.cells.size = k) (h1 : ∀ u ∈ v.cells.toList, oneC u = true)
    (hb : w.heap[b]? = some (.cells cs V fz)) (hj : j + k ≤ cs.size) (hf : ∀ i < k, ¬ (fz.1 ≤ j + i ∧ j + i < fz.2)) :
    ∃ w', (storeVar U ⟨b, j, none⟩ v).run P w = .ok () w' ∧ w'.heap[b]? = some (.cells (setCells cs j v.cells.toList) V fz) ∧ ((∀ c, c ≠ b → w'.heap[c]? = w.heap[c]?) ∧ Io w w') := by
  have hl : v.cells.toList.length = k := by simpa using hv
  obtain ⟨w', e1, e2, e3⟩ := storeCells_run (P := P) (b := b) (U := V) (fz := fz) (j := j) (vs := v.cells.toList) (i := 0) hb h1 (by rw [hl]; simpa using hj) (by rw [hl]; simpa using hf)
  refine ⟨w', ?_, by simpa using e2, e3⟩
  unfold storeVar
  rw [run_sizeOf hk]
  simp only [hv, ne_eq, not_true_eq_false, if_false]
  exact e1
theorem x_store {x y : Operand} {b j k : Nat} {V U : TypeId} {cs : Array Value} {fz : Nat × Nat} (hk : Size P U k) (hx : ev E x = some (.pointer (some ⟨b, j, none⟩))) (hy : ev E y = some v) (hv : v.cells.size = k) (h1 : ∀ u ∈ v.cells.toList, oneC u = true)
    (hb : w.heap[b]? = some (.cells cs V fz)) (hj : j + k ≤ cs.size) (hf : ∀ i < k, ¬ (fz.1 ≤ j + i ∧ j + i < fz.2)) :
    ∃ w', YS P E (.store U x y) T w w' ∧ w'.heap[b]? = some (.cells (setCells cs j v.cells.toList) V fz) ∧ ((∀ c, c ≠ b → w'.heap[c]? = w.heap[c]?) ∧ Io w w') := by
  obtain ⟨w', e1, e2, e3⟩ := storeVar_run hk hv h1 hb hj hf
  refine ⟨w', fun a ha d pos af g => ?_, e2, e3⟩
  simp only [execOp, Instr.storeAt, Instr.sureAddr, ev_sound ha hx, ev_sound ha hy]
  exact (Sem.run_bind_ok' e1).trans rfl
theorem a_store {x y : Operand} {b j : Nat} {V U : TypeId} {cs : Array Value} (hk : Size P U 1) (hx : ev E x = some (.pointer (some ⟨b, j, none⟩))) (hy : ev E y = some v) (hv : oneC v = true)
    (hS : St M w Ls) [hh : Has Ls b (.cells cs V (0, 0))] [hu : Upd Ls b (.cells (cs.setIfInBounds j v) V (0, 0)) Ls'] (hj : j < cs.size)
    (h : ∀ w', St M w' Ls' → WL P n ops KE l E w') : WL P n ops KE (⟨none, .store U x y, T, pos, af, none⟩ :: l) E w := by
  have hc : v.cells = #[v] := by cases v <;> simp [oneC] at hv <;> rfl
  obtain ⟨w', e1, e2, e3⟩ := x_store (T := T) hk hx hy (by rw [hc]; rfl) (by rw [hc]; simpa using hv) hS.has (by omega) (by intro i _; simp)
  refine wls e1 (h w' (hS.upd (u := hu) w' ?_ e3))
  rw [e2, hc]; rfl
theorem a_storeS {x y : Operand} {b j k : Nat} {V U : TypeId} {cs : Array Value} {vs : List Value} (hk : Size P U k) (hx : ev E x = some (.pointer (some ⟨b, j, none⟩))) (hy : ev E y = some (.agg vs.toArray)) (hv : vs.all oneC = true) (hl : vs.length = k)
    (hS : St M w Ls) [hh : Has Ls b (.cells cs V (0, 0))] [hu : Upd Ls b (.cells (setCells cs j vs) V (0, 0)) Ls'] (hj : j + k ≤ cs.size)
    (h : ∀ w', St M w' Ls' → WL P n ops KE l E w') : WL P n ops KE (⟨none, .store U x y, T, pos, af, none⟩ :: l) E w := by
  obtain ⟨w', e1, e2, e3⟩ := x_store (T := T) hk hx hy (by simpa [Value.cells] using hl) (by simpa [Value.cells] using List.all_eq_true.1 hv) hS.has hj (by intro i _; simp)
  refine wls e1 (h w' (hS.upd (u := hu) w' ?_ e3))
  rw [e2]; simp [Value.cells]
theorem y_fld {x : Operand} {b j off sz : Nat} {U V : TypeId} {i : Nat} (hF : Fld P U i V off (sz + 1)) (hx : ev E x = some (.pointer (some ⟨b, j, none⟩))) : Y P E (.fieldAddr U x i) T w (.pointer (some ⟨b, j + off, none⟩)) w := by
  obtain ⟨fs, f, h1, h2, rfl, rfl, h5⟩ := hF
  intro a ha d pos af g
  simp only [execOp, Instr.fieldAt, underlying, program, Bind.bind, Sem.bind, Pure.pure, Sem.run, h1, h2, Instr.sureAddr, ev_sound ha hx]
  have : (fieldPlace ⟨b, j, none⟩ f).run P w = .ok ⟨b, j + f.offset, none⟩ w := by
    unfold fieldPlace
    rw [run_sizeOf h5]
    simp [Pure.pure, Sem.run, Addr.add_mk]
  exact (Sem.run_bind_ok (Sem.run_bind_ok this)).trans rfl
theorem y_field {x : Operand} {off : Nat} {U V : TypeId} {i : Nat} {vs : List Value} (hF : Fld P U i V off 1) (hV : Plain P V) (hx : ev E x = some (.agg vs.toArray)) (hv : vs[off]? = some v) : Y P E (.field U x i) T w v w := by
  obtain ⟨fs, f, h1, h2, rfl, rfl, h5⟩ := hF
  intro a ha d pos af g
  simp only [execOp, Instr.field, underlying, program, Bind.bind, Sem.bind, Pure.pure, Sem.run, h1, h2, asAgg, ev_sound ha hx]
  have : (part f.type vs.toArray f.offset).run P w = .ok v w := by
    unfold part
    rw [run_isAgg_plain hV]
    simp [hv, Pure.pure, Sem.run]
  exact (Sem.run_bind_ok this).trans rfl
theorem y_ixa_ar {x y : Operand} {b j m sz : Nat} {U e : TypeId} {k : IntKind} {i : Int} (hU : P.underlying U = some (.array m e)) (he : Size P e sz) (hx : ev E x = some (.pointer (some ⟨b, j, none⟩))) (hy : ev E y = some (.int k i)) (h0 : 0 ≤ i) (h1 : i < m) :
    Y P E (.indexAddr U x y) T w (.pointer (some ⟨b, j + i.toNat * sz, none⟩)) w := by
  intro a ha d pos af g
  simp only [execOp, Instr.indexAt, underlying, program, Bind.bind, Sem.bind, Pure.pure, Sem.run, asIntOf, Instr.sureAddr, ev_sound ha hx, ev_sound ha hy, hU]
  obtain ⟨i', h2, rfl⟩ := he
  simp [h0, h1, sizeOf, typeInfo, program, Bind.bind, Sem.bind, Pure.pure, Sem.run, h2, Addr.add_mk]
theorem y_ixa_sl {x y : Operand} {b j m c sz : Nat} {U e : TypeId} {k : IntKind} {i : Int} (hU : P.underlying U = some (.slice e)) (he : Size P e sz) (hx : ev E x = some (.slice (some ⟨b, j, none⟩) m c)) (hy : ev E y = some (.int k i)) (h0 : 0 ≤ i) (h1 : i < m) :
    Y P E (.indexAddr U x y) T w (.pointer (some ⟨b, j + i.toNat * sz, none⟩)) w := by
  intro a ha d pos af g
  simp only [execOp, Instr.indexAt, underlying, program, Bind.bind, Sem.bind, Pure.pure, Sem.run, asIntOf, Instr.sureAddr, ev_sound ha hx, ev_sound ha hy, hU]
  obtain ⟨i', h2, rfl⟩ := he
  simp [h0, h1, sizeOf, typeInfo, program, Bind.bind, Sem.bind, Pure.pure, Sem.run, h2, Addr.add_mk]
theorem y_idx_ar {x y : Operand} {m : Nat} {U e : TypeId} {k : IntKind} {i : Int} {vs : List Value} (hU : P.underlying U = some (.array m e)) (hp : Plain P e) (he : Size P e 1) (hx : ev E x = some (.agg vs.toArray)) (hy : ev E y = some (.int k i)) (h0 : 0 ≤ i) (h1 : i < m) (hv : vs[i.toNat]? = some v) :
    Y P E (.index U x y) T w v w := by
  intro a ha d pos af g
  simp only [execOp, Instr.index, underlying, program, Bind.bind, Sem.bind, Pure.pure, Sem.run, asIntOf, ev_sound ha hx, ev_sound ha hy, hU]
  have : (part e vs.toArray (i.toNat * 1)).run P w = .ok v w := by
    unfold part
    rw [run_isAgg_plain hp]
    simp [hv, Pure.pure, Sem.run]
  simp only [h0, h1, and_self, if_true]
  obtain ⟨i', h2, h3⟩ := he
  simp only [sizeOf, typeInfo, program, Bind.bind, Sem.bind, Pure.pure, Sem.run, h2, h3]
  exact (Sem.run_bind_ok this).trans rfl
def bytesV (s : ByteArray) : List Value := s.data.toList.map fun c => .int .u8 c.toNat
theorem bytesV_length (s : ByteArray) : (bytesV s).length = s.size := by simp [bytesV]
theorem foldl_push : ∀ (l : List UInt8) (r : ByteArray), ((l.map fun c => (c.toNat : Int)).foldl (fun r n => r.push (UInt8.ofNat n.toNat)) r) = ⟨⟨r.data.toList ++ l⟩⟩
  | [], r => by simp
  | c :: l, r => by
    simp only [List.map_cons, List.foldl_cons]
    rw [foldl_push l]
    simp
theorem bytesToString_run {b j m c : Nat} {s : ByteArray} (hs : CellsAt w b j (bytesV s)) (hm : s.size = m) : (Conv.bytesToString (.slice (some ⟨b, j, none⟩) m c)).run P w = .ok (.string s) w := by
  have h := loadCells_run (P := P) hs
  rw [bytesV_length, hm] at h
  have e : bytesV s = (s.data.toList.map fun c => (c.toNat : Int)).map (Value.int .u8) := by simp [bytesV]
  rw [e] at h
  rw [run_bytesToString w _ m c _ h, foldl_push]
  congr 2
theorem y_b2s {x : Operand} {s : ByteArray} {b j m c : Nat} {U V e : TypeId} (hU : P.underlying U = some (.slice e)) (hV : P.underlying V = some .string) (he : P.underlying e = some (.int .u8)) (hx : ev E x = some (.slice (some ⟨b, j, none⟩) m c)) (hs : CellsAt w b j (bytesV s)) (hm : s.size = m) :
    Y P E (.convert U V x) T w (.string s) w := by
  intro a ha d pos af g
  simp only [execOp, convert, underlying, program, Bind.bind, Sem.bind, Pure.pure, Sem.run, hU, hV, he, ev_sound ha hx]
  exact (Sem.run_bind_ok (bytesToString_run hs hm)).trans rfl
end
end Go.Proofs.YtndahppmjdbifaaGreatDoor.Eng
set_option linter.unusedVariables false
set_option linter.unusedSimpArgs false
namespace Go.Proofs.YtndahppmjdbifaaGreatDoor.Eng
open Go
section
variable {P : Program} {ops : Array Oper} {Q : Exit → Act → World → Prop} {S : World → Prop} {ds : List Nat}
def waits (ops : Array Oper) (i : Nat) : Nat → Nat → Bool
  | 0, _ => false
  | fuel + 1, d => match ops[d]? with
    | some o => o.after.any fun e => Region.binds .any e && (e.on == i || waits ops i fuel e.on)
    | none => false
def shutB (ops : Array Oper) (listed : Array Bool) : Bool :=
  (List.range ops.size).all fun j => !listed.getD j false || match ops[j]? with
    | some o => o.after.all fun e => !Region.binds .any e || listed.getD e.on false
    | none => true
def Shut (ops : Array Oper) (listed : Array Bool) : Prop :=
  ∀ j oj, ops[j]? = some oj → listed.getD j false = true → ∀ e ∈ oj.after, Region.binds .any e = true → listed.getD e.on false = true
theorem shutB_spec {listed : Array Bool} (h : shutB ops listed = true) : Shut ops listed := by
  intro j oj hj hl e he hb
  have h1 := List.all_eq_true.1 h j (List.mem_range.2 (Array.getElem?_eq_some_iff.1 hj).1)
  simp only [hl, hj, Bool.not_true, Bool.false_or] at h1
  have h2 := Array.all_eq_true_iff_forall_mem.1 h1 e he
  simpa [hb] using h2
theorem Shut.set {listed : Array Bool} {i : Nat} (h : Shut ops listed) (hi : i ∈ Region.ready .any ops listed) : Shut ops (listed.setIfInBounds i true) := by
  obtain ⟨_, oi, hoi, hall⟩ := mem_ready.1 hi
  intro j oj hj hl e he hb
  by_cases hij : i = j
  · subst hij
    have : oj = oi := Option.some.inj (hj.symm.trans hoi)
    subst this
    exact getD_set_true (hall e he hb)
  · rw [getD_set_ne false hij] at hl
    exact getD_set_true (h j oj hj hl e he hb)
theorem waits_listed {listed : Array Bool} {i : Nat} (hc : Shut ops listed) : ∀ (fuel d : Nat), waits ops i fuel d = true → listed.getD d false = true → listed.getD i false = true
  | 0, _, h, _ => by simp [waits] at h
  | fuel + 1, d, h, hl => by
    unfold waits at h
    cases ho : ops[d]? with
    | none => rw [ho] at h; simp at h
    | some o =>
      rw [ho] at h
      obtain ⟨e, he, h1⟩ := Array.any_eq_true'.1 h
      simp only [Bool.and_eq_true, Bool.or_eq_true, beq_iff_eq] at h1
      have hle := hc d o ho hl e he h1.1
      rcases h1.2 with h2 | h2
      · rw [← h2]; exact hle
      · exact waits_listed hc fuel e.on h2 hle
theorem listed_clash {listed : Array Bool} {i : Nat} (h1 : listed.getD i true = false) (h2 : listed.getD i false = true) : False := by
  rcases Nat.lt_or_ge i listed.size with h' | h'
  · simp [h'] at h1 h2; rw [h1] at h2; cases h2
  · simp [Array.getElem?_eq_none h'] at h1
theorem waits_not_ready {listed : Array Bool} {i d fuel : Nat} (hc : Shut ops listed) (hr : waits ops i fuel d = true) (hun : listed.getD i true = false) : d ∉ Region.ready .any ops listed := by
  intro hd
  obtain ⟨_, o, ho, hall⟩ := mem_ready.1 hd
  cases fuel with
  | zero => simp [waits] at hr
  | succ n =>
    unfold waits at hr
    rw [ho] at hr
    obtain ⟨e, he, h1⟩ := Array.any_eq_true'.1 hr
    simp only [Bool.and_eq_true, Bool.or_eq_true, beq_iff_eq] at h1
    have hle := hall e he h1.1
    rcases h1.2 with h2 | h2
    · exact listed_clash hun (by rw [← h2]; exact hle)
    · exact listed_clash hun (waits_listed hc n e.on h2 hle)
def wpD (P : Program) (ops : Array Oper) (Q : Exit → Act → World → Prop) (S : World → Prop) (ds : List Nat) : Nat → Array Bool → Act → World → Prop
  | 0, listed, a, w => Region.ready .any ops listed = [] ∧ Q .normal a w
  | fuel + 1, listed, a, w =>
    (Region.ready .any ops listed = [] → Q .normal a w) ∧
    ∀ i ∈ Region.ready .any ops listed, wpOp P ops Q i (fun a' w' => (i ∉ ds → S w → S w') ∧ wpD P ops Q S ds fuel (listed.setIfInBounds i true) a' w') a w
theorem wpAny_of_wpD : ∀ (fuel : Nat) (listed : Array Bool) (a : Act) (w : World), wpD P ops Q S ds fuel listed a w → wpAny P .any ops Q fuel listed a w
  | 0, _, _, _, h => h
  | fuel + 1, _, _, _, h => ⟨h.1, fun i hi => wpOp_mono (fun a' w' h' => wpAny_of_wpD fuel _ a' w' h'.2) (h.2 i hi)⟩
theorem wpD_first {R : World → Prop} {i : Nat} {oi : Oper} {v : Value} (hi : ops[i]? = some oi) (hsel : ∀ (j : Nat) (o : Oper) cs b, ops[j]? = some o → o.op ≠ .select cs b)
    (hQ : ∀ c a w, Q (.panic c) (a.put oi.dst v) w → Q (.panic c) a w) (n : Nat) (hRS : (∀ w, S w → R w) ∨ ∀ w, R w) :
    ∀ (fuel : Nat) (listed : Array Bool) (a : Act) (w : World),
      (∀ j oj, ops[j]? = some oj → j ≠ i → listed.getD j true = false → (∀ e ∈ oj.after, Region.binds .any e = true → e.on ≠ i) → oi.apart ops oj = true) →
      Shut ops listed → ((∀ w, R w) ∨ ∀ d ∈ ds, listed.getD d true = false → waits ops i n d = true) →
      i ∈ Region.ready .any ops listed → YieldsIf P ops R oi v a → ((∀ w, R w) ∨ S w) →
      wpD P ops Q S ds fuel (listed.setIfInBounds i true) (a.put oi.dst v) w → wpD P ops Q S ds (fuel + 1) listed a w := by
  intro fuel
  have toR : ∀ w, ((∀ w, R w) ∨ S w) → R w := fun w h => h.elim (fun h => h w) fun h => hRS.elim (fun g => g w h) (fun g => g w)
  induction fuel with
  | zero =>
    intro listed a w _ _ _ hr hy hS H
    refine ⟨fun h => (by rw [h] at hr; cases hr), fun j hj => ?_⟩
    by_cases hji : j = i
    · subst hji; exact hy.wpOp hi (toR w hS) ⟨fun _ h => h, H⟩
    · have := ready_mono hj hji
      rw [H.1] at this
      cases this
  | succ fuel ih =>
    intro listed a w hfree hc hd hr hy hS H
    refine ⟨fun h => (by rw [h] at hr; cases hr), fun j hj => ?_⟩
    by_cases hji : j = i
    · subst hji; exact hy.wpOp hi (toR w hS) ⟨fun _ h => h, H⟩
    · have h1 := H.2 j (ready_mono hj hji)
      obtain ⟨hjun, oj, hoj, hall⟩ := mem_ready.1 hj
      have hiun := (mem_ready.1 hr).1
      have hnot : ∀ e ∈ oj.after, Region.binds .any e = true → e.on ≠ i := fun e he hb heq => by
        have h1 := hall e he hb
        rw [heq] at h1
        exact listed_clash hiun h1
      have h2 := wpOp_putIf hoj (hfree j oj hoj hji hjun hnot) (fun cs b => hsel i oi cs b hi) (fun cs b => hsel j oj cs b hoj) hQ hy h1
      have hfree' : ∀ k ok, ops[k]? = some ok → k ≠ i → (listed.setIfInBounds j true).getD k true = false →
          (∀ e ∈ ok.after, Region.binds .any e = true → e.on ≠ i) → oi.apart ops ok = true := fun k ok hk hki hun hno => by
        refine hfree k ok hk hki ?_ hno
        by_cases hjk : j = k
        · subst hjk; exact hjun
        · rw [getD_set_ne true hjk] at hun; exact hun
      have hd' : (∀ w, R w) ∨ ∀ d ∈ ds, (listed.setIfInBounds j true).getD d true = false → waits ops i n d = true := hd.imp id fun hd d hm hun => by
        refine hd d hm ?_
        by_cases hjk : j = d
        · subst hjk; exact hjun
        · rw [getD_set_ne true hjk] at hun; exact hun
      refine wpOp_mono (fun a' w' h3 => ⟨h3.2.1, ih (listed.setIfInBounds j true) a' w' hfree' (hc.set hj) hd' (ready_mono hr (Ne.symm hji)) h3.1 ?_ ?_⟩) h2
      · rcases hS with hS | hS
        · exact .inl hS
        · rcases hd with hd | hd
          · exact .inl hd
          · exact .inr (h3.2.1 (fun hm => waits_not_ready hc (hd j hm hjun) hiun hj) hS)
      · rw [Array.setIfInBounds_comm _ _ hji]
        exact h3.2.2
end
section
variable {P : Program} {n : Nat} {ops : Array Oper} {S : World → Prop} {ds : List Nat} {KE : Env → World → Prop} {E : Env} {w w' : World} {l l' : Array Bool} {fuel : Nat}
abbrev PostN (n : Nat) (KE : Env → World → Prop) : Exit → Act → World → Prop := Post n fun e E w => match e with | .normal => KE E w | _ => False
def DR (P : Program) (n : Nat) (ops : Array Oper) (S : World → Prop) (ds : List Nat) (KE : Env → World → Prop) (fuel : Nat) (l : Array Bool) (E : Env) (w : World) : Prop :=
  ∀ a, Ok n a → has a E → wpD P ops (PostN n KE) S ds fuel l a w
theorem wc_draw {K : Kont} {id : Nat} {m : Nat} {l0 : Array Bool} (S : World → Prop) (ds : List Nat) (hm : P.follows .mixedOrders = true) (hsz : ops.size = m) (hl : Array.replicate m false = l0)
    (h : ∀ w', w'.heap = w.heap ∧ Io w w' → DR P n ops S ds (K .normal) m l0 E w') : WC P n (.region id ops true) K E w := by
  intro a hn ha
  subst hsz
  subst hl
  have h1 := h { w with drawn := w.drawn + 1 } ⟨rfl, rfl, rfl, rfl⟩ a hn ha
  refine wp_mono (wp_region_any hm (wpAny_of_wpD _ _ _ _ h1)) fun e a w hq => ?_
  cases e <;> simp only [Post] at hq ⊢
  · exact hq
  all_goals first | exact hq | (obtain ⟨_, _, _, h⟩ := hq; exact h.elim)
def takeB (ops : Array Oper) (ds : List Nat) (rd : Bool) (l l' : Array Bool) (i : Nat) : Bool :=
  Region.noSelect ops && Region.free .any ops l i && (Region.ready .any ops l).contains i && shutB ops l && (!rd || ds.all fun d => l.getD d true || waits ops i ops.size d) && (l.setIfInBounds i true == l')
theorem dr_take {R : World → Prop} {i d : Nat} {op : Op} {T : TypeId} {pos : String} {af : Array Edge} {g : Option (Nat × Bool)} {v : Value} {rd : Bool} (l' : Array Bool) (hi : ops[i]? = some ⟨some d, op, T, pos, af, g⟩) (hd : Nat.blt d n = true)
    (hc : takeB ops ds rd l l' i = true) (hR : (rd = true ∧ (∀ w, S w → R w) ∧ S w) ∨ ∀ w, R w)
    (hy : ∀ a, has a E → YieldsIf P ops R ⟨some d, op, T, pos, af, g⟩ v a)
    (h : DR P n ops S ds KE fuel l' ((d, v) :: E) w) : DR P n ops S ds KE (fuel + 1) l E w := by
  intro a hn ha
  simp only [takeB, Bool.and_eq_true, beq_iff_eq] at hc
  obtain ⟨⟨⟨⟨⟨h1, h2⟩, h3⟩, h4⟩, h5⟩, h6⟩ := hc
  subst h6
  refine wpD_first hi (Region.noSelect_spec h1) (fun c a w hq => hq) ops.size (hR.imp (·.2.1) id) fuel l a w (Region.free_spec hi h2) (shutB_spec h4) ?_ (by simpa using h3) (hy a ha) (hR.elim (fun h => .inr h.2.2) .inl) (h _ (ok_put hn) (has_put hn hd ha))
  rcases hR with ⟨rfl, _, _⟩ | hR
  · right
    intro d hm hun
    simp only [Bool.not_true, Bool.false_or] at h5
    have := List.all_eq_true.1 h5 d hm
    rw [hun] at this
    simpa using this
  · exact .inl hR
theorem dr_pure {i d : Nat} {op : Op} {T : TypeId} {pos : String} {af : Array Edge} {v : Value} (l' : Array Bool) (hi : ops[i]? = some ⟨some d, op, T, pos, af, none⟩) (hd : Nat.blt d n = true)
    (hc : takeB ops ds false l l' i = true) (hy : ∀ w, Y P E op T w v w)
    (h : DR P n ops S ds KE fuel l' ((d, v) :: E) w) : DR P n ops S ds KE (fuel + 1) l E w :=
  dr_take (R := fun _ => True) l' hi hd hc (.inr fun _ => trivial) (fun a ha => .inl ⟨by simp [Region.wanted], fun w _ => hy w a ha _ _ _ _⟩) h
theorem dr_read {i d : Nat} {op : Op} {T : TypeId} {pos : String} {af : Array Edge} {v : Value} (l' : Array Bool) (hi : ops[i]? = some ⟨some d, op, T, pos, af, none⟩) (hd : Nat.blt d n = true)
    (hc : takeB ops ds true l l' i = true) (hS : S w) (hy : ∀ w, S w → Y P E op T w v w)
    (h : DR P n ops S ds KE fuel l' ((d, v) :: E) w) : DR P n ops S ds KE (fuel + 1) l E w :=
  dr_take (R := S) l' hi hd hc (.inl ⟨rfl, fun _ h => h, hS⟩) (fun a ha => .inl ⟨by simp [Region.wanted], fun w hw => hy w hw a ha _ _ _ _⟩) h
theorem yielded_of {a : Act} {j s : Nat} {t : Bool} (ha : has a E) (hj : (ops[j]?).bind (·.dst) = some s) (ht : Env.get E s = some (.bool t)) : yielded ops a.tmps j = some t := by
  unfold yielded
  rw [hj]
  have h := ha s _ ht
  simp only [Array.getD_eq_getD_getElem?] at h
  cases hs : a.tmps[s]? with
  | none => rw [hs] at h; simp [undef] at h
  | some u => rw [hs] at h; simp at h; subst h; simp [hs]
theorem dr_pureG {i d j s : Nat} {t : Bool} {op : Op} {T : TypeId} {pos : String} {af : Array Edge} {v : Value} (l' : Array Bool) (hi : ops[i]? = some ⟨some d, op, T, pos, af, some (j, t)⟩) (hd : Nat.blt d n = true)
    (hc : takeB ops ds false l l' i = true) (hj : (ops[j]?).bind (·.dst) = some s) (ht : Env.get E s = some (.bool t)) (hy : ∀ w, Y P E op T w v w)
    (h : DR P n ops S ds KE fuel l' ((d, v) :: E) w) : DR P n ops S ds KE (fuel + 1) l E w :=
  dr_take (R := fun _ => True) l' hi hd hc (.inr fun _ => trivial) (fun a ha => .inl ⟨by simp [Region.wanted, yielded_of ha hj ht], fun w _ => hy w a ha _ _ _ _⟩) h
theorem dr_readG {i d j s : Nat} {t : Bool} {op : Op} {T : TypeId} {pos : String} {af : Array Edge} {v : Value} (l' : Array Bool) (hi : ops[i]? = some ⟨some d, op, T, pos, af, some (j, t)⟩) (hd : Nat.blt d n = true)
    (hc : takeB ops ds true l l' i = true) (hj : (ops[j]?).bind (·.dst) = some s) (ht : Env.get E s = some (.bool t)) (hS : S w) (hy : ∀ w, S w → Y P E op T w v w)
    (h : DR P n ops S ds KE fuel l' ((d, v) :: E) w) : DR P n ops S ds KE (fuel + 1) l E w :=
  dr_take (R := S) l' hi hd hc (.inl ⟨rfl, fun _ h => h, hS⟩) (fun a ha => .inl ⟨by simp [Region.wanted, yielded_of ha hj ht], fun w hw => hy w hw a ha _ _ _ _⟩) h
theorem dr_off {i d j s : Nat} {t u : Bool} {op : Op} {T : TypeId} {pos : String} {af : Array Edge} (l' : Array Bool) (hi : ops[i]? = some ⟨some d, op, T, pos, af, some (j, t)⟩) (hd : Nat.blt d n = true)
    (hc : takeB ops ds false l l' i = true) (hj : (ops[j]?).bind (·.dst) = some s) (ht : Env.get E s = some (.bool u)) (hu : (u == t) = false)
    (h : DR P n ops S ds KE fuel l' ((d, undef) :: E) w) : DR P n ops S ds KE (fuel + 1) l E w :=
  dr_take (R := fun _ => True) l' hi hd hc (.inr fun _ => trivial) (fun a ha => .inr ⟨by simp only [Region.wanted, yielded_of ha hj ht]; simpa using hu, rfl⟩) h
theorem dr_do {i : Nat} {o : Oper} (l' : Array Bool) (hi : ops[i]? = some o) (hc : (Region.ready .any ops l == [i] && l.setIfInBounds i true == l') = true)
    (h : WL P n ops (fun E' w' => (i ∉ ds → S w → S w') ∧ DR P n ops S ds KE fuel l' E' w') [o] E w) : DR P n ops S ds KE (fuel + 1) l E w := by
  intro a hn ha
  simp only [Bool.and_eq_true, beq_iff_eq] at hc
  obtain ⟨h1, rfl⟩ := hc
  refine ⟨fun h0 => (by rw [h1] at h0; cases h0), fun j hj => ?_⟩
  rw [h1] at hj
  simp only [List.mem_singleton] at hj
  subst hj
  have h2 := h a hn ha
  simp only [wpList] at h2
  unfold wpOp
  simp only [hi]
  have post : ∀ a' w', PostN n (fun E' w' => (j ∉ ds → S w → S w') ∧ DR P n ops S ds KE fuel (l.setIfInBounds j true) E' w') .normal a' w' → ((j ∉ ds → S w → S w') ∧ wpD P ops (PostN n KE) S ds fuel (l.setIfInBounds j true) a' w') := by
    intro a' w' hq
    obtain ⟨g1, E', g2, g3, g4⟩ := hq
    exact ⟨g3, g4 a' g1 g2⟩
  split at h2
  · rename_i hw
    rw [if_pos hw]
    rcases h2 with h2 | ⟨_, _, _, h2⟩
    · left
      refine Oper.wp_mono post ?_
      unfold Oper.wp at h2 ⊢
      generalize (execOp a.eval o).run P w = r at h2 ⊢
      cases r with
      | ok nx w' =>
        cases nx <;> simp only [Oper.upon] at h2 ⊢ <;> exact h2
      | halt x w' => cases x <;> simp only [Oper.upon] at h2 ⊢ <;> exact h2
    · exact h2.elim
  · rename_i hw
    rw [if_neg hw]
    exact post _ _ h2
theorem wl_cases {lo : List Oper} {s : Nat} {t : Bool} (hb : Env.get E s = some (.bool t)) (hT : t = true → WL P n ops KE lo ((s, .bool true) :: E) w) (hF : t = false → WL P n ops KE lo ((s, .bool false) :: E) w) : WL P n ops KE lo E w := by
  cases t
  · exact wl_sub (sub_cons hb fun _ _ h => h) (hF rfl)
  · exact wl_sub (sub_cons hb fun _ _ h => h) (hT rfl)
theorem wl_on {lo : List Oper} {dst : Option Tmp} {op : Op} {T : TypeId} {pos : String} {af : Array Edge} {j s : Nat} {want : Bool}
    (hj : (ops[j]?).bind (·.dst) = some s) (ht : Env.get E s = some (.bool want)) (h : WL P n ops KE (⟨dst, op, T, pos, af, none⟩ :: lo) E w) : WL P n ops KE (⟨dst, op, T, pos, af, some (j, want)⟩ :: lo) E w := by
  intro a hn ha
  have h1 := h a hn ha
  unfold wpList at h1 ⊢
  rw [if_pos (by simp [Region.wanted])] at h1
  rw [if_pos (by simp [Region.wanted, yielded_of ha hj ht])]
  exact h1
theorem wl_off {lo : List Oper} {d : Nat} {op : Op} {T : TypeId} {pos : String} {af : Array Edge} {j s : Nat} {want t : Bool}
    (hj : (ops[j]?).bind (·.dst) = some s) (ht : Env.get E s = some (.bool t)) (htw : (t == want) = false) (hd : Nat.blt d n = true) (h : WL P n ops KE lo ((d, undef) :: E) w) : WL P n ops KE (⟨some d, op, T, pos, af, some (j, want)⟩ :: lo) E w := by
  intro a hn ha
  unfold wpList
  rw [if_neg (by simp only [Region.wanted, yielded_of ha hj ht]; simpa using htw)]
  exact h _ (ok_put hn) (has_put hn hd ha)
theorem dr_done (hr : (Region.ready .any ops l == []) = true) (h : KE E w) : ∀ {fuel : Nat}, DR P n ops S ds KE fuel l E w
  | 0 => fun a hn ha => ⟨by simpa using hr, hn, E, ha, h⟩
  | _ + 1 => fun a hn ha => ⟨fun _ => ⟨hn, E, ha, h⟩, by rw [show Region.ready .any ops l = [] by simpa using hr]; simp⟩
end
end Go.Proofs.YtndahppmjdbifaaGreatDoor.Eng
set_option linter.unusedVariables false
set_option linter.unusedSimpArgs false
namespace Go.Proofs.YtndahppmjdbifaaGreatDoor.Eng
open Go
theorem w64 {x : Int} (h0 : -9223372036854775808 ≤ x) (h1 : x ≤ 9223372036854775807) : IntKind.i64.wrap x = x := by
  simp only [IntKind.wrap, IntKind.bits, IntKind.signed, Bool.true_and, ge_iff_le, decide_eq_true_eq, Nat.reduceSub, Int.reducePow]
  split <;> omega
theorem wu {k : IntKind} (hk : k.signed = false) (x : Int) : k.wrap x = x % (2 ^ k.bits : Int) := by simp [IntKind.wrap, hk]
theorem wu8 (x : Int) : IntKind.u8.wrap x = x % 256 := by rw [wu rfl]; rfl
theorem wu64 (x : Int) : IntKind.u64.wrap x = x % 18446744073709551616 := by rw [wu rfl]; rfl
theorem wnat {k : IntKind} (hk : k.signed = false) {n : Nat} (h : n < 2 ^ k.bits) : k.wrap (n : Int) = (n : Int) := by
  rw [wu hk]
  have h' : ((n : Int)) < (2 ^ k.bits : Int) := by have := Int.ofNat_lt.2 h; simpa using this
  exact Int.emod_eq_of_lt (Int.natCast_nonneg _) h'
theorem ofInt_toNat {m : Nat} (x : BitVec m) : BitVec.ofInt m (x.toNat : Int) = x := by
  apply BitVec.eq_of_toNat_eq
  simp
section
variable {E : Env}
theorem bvc32 (c : Nat) (h : c < 4294967296 := by decide) : ev E (.const (.int .u32 (c : Int))) = some (.int .u32 ((BitVec.ofNat 32 c).toNat : Int)) := by
  simp only [ev, BitVec.toNat_ofNat, Option.some.injEq, Value.int.injEq, true_and]
  rw [Nat.mod_eq_of_lt (by omega)]
end
theorem bvand32 (x y : BitVec 32) : IntKind.u32.wrap ((BitVec.ofInt IntKind.u32.bits (x.toNat : Int) &&& BitVec.ofInt IntKind.u32.bits (y.toNat : Int)).toNat : Int) = ((x &&& y).toNat : Int) := by
  show IntKind.u32.wrap ((BitVec.ofInt 32 (x.toNat : Int) &&& BitVec.ofInt 32 (y.toNat : Int)).toNat : Int) = _
  rw [ofInt_toNat, ofInt_toNat]; exact wnat rfl (x &&& y).isLt
theorem bvxor32 (x y : BitVec 32) : IntKind.u32.wrap ((BitVec.ofInt IntKind.u32.bits (x.toNat : Int) ^^^ BitVec.ofInt IntKind.u32.bits (y.toNat : Int)).toNat : Int) = ((x ^^^ y).toNat : Int) := by
  show IntKind.u32.wrap ((BitVec.ofInt 32 (x.toNat : Int) ^^^ BitVec.ofInt 32 (y.toNat : Int)).toNat : Int) = _
  rw [ofInt_toNat, ofInt_toNat]; exact wnat rfl (x ^^^ y).isLt
theorem bvxor8 (x y : BitVec 8) : IntKind.u8.wrap ((BitVec.ofInt IntKind.u8.bits (x.toNat : Int) ^^^ BitVec.ofInt IntKind.u8.bits (y.toNat : Int)).toNat : Int) = ((x ^^^ y).toNat : Int) := by
  show IntKind.u8.wrap ((BitVec.ofInt 8 (x.toNat : Int) ^^^ BitVec.ofInt 8 (y.toNat : Int)).toNat : Int) = _
  rw [ofInt_toNat, ofInt_toNat]; exact wnat rfl (x ^^^ y).isLt
theorem bvnot32 (x : BitVec 32) : IntKind.u32.wrap ((BitVec.ofInt IntKind.u32.bits (if IntKind.u32.signed then -1 else IntKind.u32.max) ^^^ BitVec.ofInt IntKind.u32.bits (x.toNat : Int)).toNat : Int) = ((~~~ x).toNat : Int) := by
  show IntKind.u32.wrap ((BitVec.ofInt 32 4294967295 ^^^ BitVec.ofInt 32 (x.toNat : Int)).toNat : Int) = _
  rw [ofInt_toNat, show BitVec.ofInt 32 4294967295 = BitVec.allOnes 32 from by decide, BitVec.allOnes_xor]; exact wnat rfl (~~~ x).isLt
theorem bvshr_aux {m : Nat} (x : BitVec m) (n : Nat) : ((x.toNat : Int)).fdiv (2 ^ (min ((n : Int)).toNat m)) = ((x >>> n).toNat : Int) := by
  have h : (2 : Int) ^ (min n m) = ((2 ^ (min n m) : Nat) : Int) := by simp
  rw [Int.toNat_natCast, h, Int.fdiv_eq_ediv_of_nonneg _ (Int.natCast_nonneg _)]
  rw [BitVec.toNat_ushiftRight, Nat.shiftRight_eq_div_pow]
  rcases Nat.le_total n m with hl | hl
  · rw [Nat.min_eq_left hl]; simp
  · rw [Nat.min_eq_right hl]
    have h1 : x.toNat < 2 ^ n := Nat.lt_of_lt_of_le x.isLt (Nat.pow_le_pow_right (by omega) hl)
    rw [Nat.div_eq_of_lt h1]
    have : (x.toNat : Int) / ((2 ^ m : Nat) : Int) = ((x.toNat / 2 ^ m : Nat) : Int) := by simp
    rw [this, Nat.div_eq_of_lt x.isLt]
theorem bvshr32 (x : BitVec 32) (n : Nat) : ((x.toNat : Int)).fdiv (2 ^ (min ((n : Int)).toNat IntKind.u32.bits)) = ((x >>> n).toNat : Int) := bvshr_aux x n
theorem bvconv_aux {m : Nat} {k : IntKind} (hk : k.signed = false) (x : BitVec m) : k.wrap (x.toNat : Int) = ((x.setWidth k.bits).toNat : Int) := by
  rw [wu hk, BitVec.toNat_setWidth]; simp
theorem bvconv_u32_u8 (x : BitVec 32) : IntKind.u8.wrap (x.toNat : Int) = ((x.setWidth 8).toNat : Int) := bvconv_aux rfl x
theorem bvconv_u8_u32 (x : BitVec 8) : IntKind.u32.wrap (x.toNat : Int) = ((x.setWidth 32).toNat : Int) := bvconv_aux rfl x
theorem bvtmod_aux {m : Nat} (x : BitVec m) (c : Nat) (h : c < 2 ^ m) : ((x.toNat : Int)).tmod (c : Int) = ((x % BitVec.ofNat m c).toNat : Int) := by
  rw [BitVec.toNat_umod, BitVec.toNat_ofNat, Nat.mod_eq_of_lt h]; rfl
theorem bvtdiv_aux {m : Nat} (x : BitVec m) (c : Nat) (h : c < 2 ^ m) : ((x.toNat : Int)).tdiv (c : Int) = ((x / BitVec.ofNat m c).toNat : Int) := by
  rw [BitVec.toNat_udiv, BitVec.toNat_ofNat, Nat.mod_eq_of_lt h]; rfl
theorem bvrem32 (x : BitVec 32) (c : Nat) (h : c < 2 ^ 32 := by decide) : ((x.toNat : Int)).tmod (c : Int) = ((x % BitVec.ofNat 32 c).toNat : Int) := bvtmod_aux x c h
theorem bvquo32 (x : BitVec 32) (c : Nat) (h : c < 2 ^ 32 := by decide) : IntKind.u32.wrap (((x.toNat : Int)).tdiv (c : Int)) = ((x / BitVec.ofNat 32 c).toNat : Int) := by
  rw [bvtdiv_aux x c h]; exact wnat rfl (x / BitVec.ofNat 32 c).isLt
theorem bvsub32 (x y : BitVec 32) : IntKind.u32.wrap ((x.toNat : Int) - (y.toNat : Int)) = ((x - y).toNat : Int) := by
  have hx := x.isLt
  have hy := y.isLt
  rw [wu rfl, BitVec.toNat_sub]
  show ((x.toNat : Int) - (y.toNat : Int)) % (2 ^ 32 : Int) = _
  omega
theorem bv_eq {m : Nat} (x y : BitVec m) : decide ((x.toNat : Int) = (y.toNat : Int)) = decide (x = y) := by
  by_cases h : x = y
  · simp [h]
  · have : ¬ (x.toNat : Int) = (y.toNat : Int) := fun e => h (BitVec.eq_of_toNat_eq (by omega))
    simp [h, this]
theorem setCells_from : ∀ (us pre : List Value) (j : Nat), pre.length = j → setCells (pre ++ us).toArray j us = (pre ++ us).toArray
  | [], pre, j, h => rfl
  | u :: us, pre, j, h => by
    have e : (pre ++ u :: us).toArray.setIfInBounds j u = (pre ++ u :: us).toArray := by
      subst h
      simp
    simp only [setCells]
    rw [e]
    have := setCells_from us (pre ++ [u]) (j + 1) (by simp [h])
    simpa using this
theorem setCells_self (us : List Value) : setCells us.toArray 0 us = us.toArray := by simpa using setCells_from us [] 0 rfl
theorem setCells_pre : ∀ (new pre old : List Value), old.length = new.length → setCells (pre ++ old).toArray pre.length new = (pre ++ new).toArray
  | [], pre, old, h => by
    have : old = [] := List.length_eq_zero_iff.1 (by simpa using h)
    subst this; rfl
  | u :: us, pre, [], h => by simp at h
  | u :: us, pre, o :: os, h => by
    have e : (pre ++ o :: os).toArray.setIfInBounds pre.length u = ((pre ++ [u]) ++ os).toArray := by
      simp [List.setIfInBounds_toArray, List.set_append]
    simp only [setCells]
    rw [e]
    have := setCells_pre us (pre ++ [u]) os (by simpa using h)
    simpa using this
theorem setCells_whole (old new : List Value) (h : old.length = new.length) : setCells old.toArray 0 new = new.toArray := by
  simpa using setCells_pre new [] old h
theorem wret {P : Program} {E : Env} {w : World} {rs : List ResultVar} {vs : List Value} {R : Value → World → Prop} (h : Res P E w rs vs) (hr : R (tupled vs) w) : retK P rs R .ret E w := ⟨vs, h, hr⟩
section
variable {M : Mem} {w : World} {Ls : List Chunk} {b : Nat} {cs : Array Value} {T : TypeId} {fz : Nat × Nat} {v : Value}
theorem St.cell {j : Nat} (hS : St M w Ls) [Has Ls b (.cells cs T fz)] (h : cs[j]? = some v) : w.cell? ⟨b, j, none⟩ = some v := (cell_of hS.has).trans h
theorem St.cells {j : Nat} {vs : List Value} (hS : St M w Ls) [Has Ls b (.cells cs T fz)] (h : (cs.toList.drop j).take vs.length = vs) : CellsAt w b j vs := by
  intro i u hi
  rw [cell_of hS.has]
  rw [← h, List.getElem?_take] at hi
  split at hi
  · rw [List.getElem?_drop] at hi; simpa using hi
  · cases hi
theorem St.all {vs : List Value} (hS : St M w Ls) [Has Ls b (.cells vs.toArray T fz)] : CellsAt w b 0 vs := by
  intro i u hi
  rw [cell_of hS.has]; simpa using hi
end
end Go.Proofs.YtndahppmjdbifaaGreatDoor.Eng
set_option linter.unusedVariables false
set_option linter.unusedSimpArgs false
namespace Go.Proofs.YtndahppmjdbifaaGreatDoor.Eng
open Go
structure Enc (α : Type) where
  k : Nat
  f : α → List Value
  len : ∀ x, (f x).length = k
  one : ∀ x v, v ∈ f x → oneC v = true
section
variable {α : Type} {P : Program} {n : Nat} {E : Env} {w w' : World} {T : TypeId} {v : Value} {M : Mem} {Ls Ls' : List Chunk} {pos : String} {af : Array Edge} {d : Nat} {l : List Oper} {ops : Array Oper} {KE : Env → World → Prop} {A : Enc α}
theorem Enc.flat_len (A : Enc α) (xs : List α) : (xs.flatMap A.f).length = xs.length * A.k := by
  induction xs with
  | nil => simp
  | cons x xs ih => simp [List.flatMap_cons, ih, A.len, Nat.add_mul, Nat.add_comm]
theorem Enc.flat_one (A : Enc α) (xs : List α) : ∀ v ∈ xs.flatMap A.f, oneC v = true := by
  intro v hv
  obtain ⟨x, _, hx⟩ := List.mem_flatMap.1 hv
  exact A.one x v hx
theorem Enc.flat_at (A : Enc α) : ∀ (xs : List α) (i : Nat) (x : α) (j : Nat) (v : Value), xs[i]? = some x → (A.f x)[j]? = some v → (xs.flatMap A.f)[i * A.k + j]? = some v
  | [], i, x, j, v, h, _ => by simp at h
  | y :: ys, 0, x, j, v, h, hv => by
    simp only [List.getElem?_cons_zero, Option.some.injEq] at h
    subst h
    have hlt : j < (A.f y).length := (List.getElem?_eq_some_iff.1 hv).1
    simp only [List.flatMap_cons, Nat.zero_mul, Nat.zero_add]
    rw [List.getElem?_append_left hlt]; exact hv
  | y :: ys, i + 1, x, j, v, h, hv => by
    have ih := Enc.flat_at A ys i x j v (by simpa using h) hv
    simp only [List.flatMap_cons]
    rw [List.getElem?_append_right (by rw [A.len, Nat.add_mul]; omega), A.len]
    rw [show (i + 1) * A.k + j - A.k = i * A.k + j by rw [Nat.add_mul]; omega]
    exact ih
theorem setCells_mid (pre old post new : List Value) (h : old.length = new.length) : setCells (pre ++ old ++ post).toArray pre.length new = (pre ++ new ++ post).toArray := by
  induction new generalizing pre old with
  | nil =>
    have : old = [] := List.length_eq_zero_iff.1 (by simpa using h)
    subst this; rfl
  | cons u us ih =>
    cases old with
    | nil => simp at h
    | cons o os =>
      have e : (pre ++ o :: os ++ post).toArray.setIfInBounds pre.length u = ((pre ++ [u]) ++ os ++ post).toArray := by
        simp [List.setIfInBounds_toArray, List.set_append]
      simp only [setCells]
      rw [e]
      have := ih (pre ++ [u]) os (by simpa using h)
      simpa using this
def Own (e : TypeId) (A : Enc α) (s : Value) (xs : List α) (H : Chunk) : Prop :=
  (s = .slice none 0 0 ∧ xs = [] ∧ H = []) ∨
  ∃ b off cap pre sp fz, s = .slice (some ⟨b, off, none⟩) xs.length cap ∧ H = [(b, .cells (pre ++ xs.flatMap A.f ++ sp).toArray e fz)] ∧ pre.length = off ∧
    xs.length ≤ cap ∧ (cap - xs.length) * A.k ≤ sp.length ∧ (fz = (0, 0) ∨ off + cap * A.k ≤ fz.1)
def Rd (M : Mem) (A : Enc α) (s : Value) (xs : List α) : Prop :=
  ∃ a c, s = .slice a xs.length c ∧ (xs = [] ∨ ∃ b off cs e fz, a = some ⟨b, off, none⟩ ∧ M b = some (.cells cs e fz) ∧ ∀ j v, (xs.flatMap A.f)[j]? = some v → cs[off + j]? = some v)
def Holds (w : World) (A : Enc α) (s : Value) (xs : List α) : Prop :=
  ∃ a c, s = .slice a xs.length c ∧ (xs = [] ∨ ∃ b off, a = some ⟨b, off, none⟩ ∧ CellsAt w b off (xs.flatMap A.f))
theorem Rd.holds {s : Value} {xs : List α} (h : Rd M A s xs) (hS : St M w Ls) : Holds w A s xs := by
  obtain ⟨a, c, rfl, h⟩ := h
  refine ⟨a, c, rfl, ?_⟩
  rcases h with h | ⟨b, off, cs, e, fz, rfl, hM, h⟩
  · exact .inl h
  · refine .inr ⟨b, off, rfl, fun j v hj => ?_⟩
    rw [cell_of (hS.imm _ _ hM)]
    exact h j v hj
theorem Rd.mono {M' : Mem} {s : Value} {xs : List α} (h : Rd M A s xs) (hm : Mle M M') : Rd M' A s xs := by
  obtain ⟨a, c, rfl, h⟩ := h
  refine ⟨a, c, rfl, h.imp id ?_⟩
  rintro ⟨b, off, cs, e, fz, rfl, hM, h⟩
  exact ⟨b, off, cs, e, fz, rfl, hm.1 _ _ hM, h⟩
theorem Own.holds {e : TypeId} {s : Value} {xs : List α} {H : Chunk} (h : Own e A s xs H) (hS : St M w (H :: Ls)) : Holds w A s xs := by
  rcases h with ⟨rfl, rfl, rfl⟩ | ⟨b, off, cap, pre, sp, fz, rfl, rfl, rfl, h1, h2, h3⟩
  · exact ⟨none, 0, rfl, .inl rfl⟩
  · refine ⟨_, cap, rfl, .inr ⟨b, _, rfl, fun j v hj => ?_⟩⟩
    rw [cell_of hS.has]
    simp only [List.getElem?_toArray]
    rw [List.append_assoc, List.getElem?_append_right (by omega), Nat.add_sub_cancel_left]
    rw [List.getElem?_append_left (List.getElem?_eq_some_iff.1 hj).1]
    exact hj
theorem Own.rd {e : TypeId} {s : Value} {xs : List α} {H : Chunk} (h : Own e A s xs H) (hM : ∀ b o, (b, o) ∈ H → M b = some o) : Rd M A s xs := by
  rcases h with ⟨rfl, rfl, rfl⟩ | ⟨b, off, cap, pre, sp, fz, rfl, rfl, rfl, h1, h2, h3⟩
  · exact ⟨none, 0, rfl, .inl rfl⟩
  · refine ⟨_, cap, rfl, .inr ⟨b, _, (pre ++ xs.flatMap A.f ++ sp).toArray, e, fz, rfl, hM b _ (by simp), fun j v hj => ?_⟩⟩
    simp only [List.getElem?_toArray]
    rw [List.append_assoc, List.getElem?_append_right (by omega), Nat.add_sub_cancel_left]
    rw [List.getElem?_append_left (List.getElem?_eq_some_iff.1 hj).1]
    exact hj
theorem Own.nil {e : TypeId} : Own e A (.slice none 0 0) [] [] := .inl ⟨rfl, rfl, rfl⟩
theorem Rd.nil {c : Nat} {a : Option Addr} : Rd M A (.slice a 0 c) [] := ⟨a, c, rfl, .inl rfl⟩
theorem Own.slice {e : TypeId} {s : Value} {xs : List α} {H : Chunk} (h : Own e A s xs H) : ∃ a c, s = .slice a xs.length c := by
  rcases h with ⟨rfl, rfl, rfl⟩ | ⟨b, off, cap, pre, sp, fz, rfl, _⟩
  · exact ⟨_, _, rfl⟩
  · exact ⟨_, _, rfl⟩
theorem Holds.slice {s : Value} {xs : List α} (h : Holds w A s xs) : ∃ a c, s = .slice a xs.length c := by
  obtain ⟨a, c, rfl, _⟩ := h; exact ⟨_, _, rfl⟩
theorem Holds.at {s : Value} {xs : List α} {i : Nat} {x : α} (h : Holds w A s xs) (hi : xs[i]? = some x) : ∃ b off c, s = .slice (some ⟨b, off, none⟩) xs.length c ∧ CellsAt w b (off + i * A.k) (A.f x) := by
  obtain ⟨a, c, rfl, h⟩ := h
  rcases h with rfl | ⟨b, off, rfl, h⟩
  · simp at hi
  · refine ⟨b, off, c, rfl, fun j v hj => ?_⟩
    have := h (i * A.k + j) v (A.flat_at xs i x j v hi hj)
    rwa [← Nat.add_assoc] at this
theorem growBy_le (need : Nat) : ∀ (r c : Nat), c ≤ need → Builtin.growBy need r c ≤ 2 * need + 192
  | 0, c, h => by simp [Builtin.growBy]; omega
  | r + 1, c, h => by
    unfold Builtin.growBy
    split
    · omega
    · rename_i hc
      by_cases h2 : c + (c + 768) / 4 ≤ need
      · exact growBy_le need r _ h2
      · cases r with
        | zero => simp only [Builtin.growBy]; omega
        | succ r => unfold Builtin.growBy; rw [if_pos (by omega)]; omega
theorem nextcap_le {need c : Nat} (h : c < need) : Builtin.nextslicecap need c ≤ 2 * need + 192 := by
  unfold Builtin.nextslicecap
  split
  · omega
  · split
    · omega
    · exact growBy_le need 4 c (by omega)
theorem run_typeInfo {i : TypeInfo} (h : P.info? T = some i) {β : Type} (f : TypeInfo → Sem β) : (typeInfo T >>= f).run P w = (f i).run P w := by
  simp [typeInfo, program, Bind.bind, Sem.bind, Pure.pure, Sem.run, h]
theorem run_und {t : TypeDesc} (h : P.underlying T = some t) {β : Type} (f : TypeDesc → Sem β) : (underlying T >>= f).run P w = (f t).run P w := by
  simp [underlying, program, Bind.bind, Sem.bind, Pure.pure, Sem.run, h]
theorem run_zero {z : Value} (h : Zero P T z) {β : Type} (f : Value → Sem β) : (zeroValue T >>= f).run P w = (f z).run P w := by
  obtain ⟨i, h1, h2⟩ := h
  simp [zeroValue, typeInfo, program, Bind.bind, Sem.bind, Pure.pure, Sem.run, h1, h2]
theorem run_askRoom {m : Nat} {β : Type} (f : Unit → Sem β) : (askRoom m >>= f).run P w = (f ()).run P w := by
  unfold askRoom
  split <;> simp [mark, Bind.bind, Sem.bind, Pure.pure, Sem.run]
theorem run_choose {q : Question} (hq : q.forced = false) {β : Type} (f : Nat → Sem β) : (choose q >>= f).run P w = (f (q.cut (w.tape w.drawn q))).run P { w with drawn := w.drawn + 1 } := by
  simp [choose, Bind.bind, Sem.bind, Sem.run, hq]
theorem firstCells_run {y : Value} {ys : List α} (h : Holds w A y ys) : (Builtin.firstCells A.k ys.length y).run P w = .ok (ys.flatMap A.f).toArray w := by
  obtain ⟨a, c, rfl, h⟩ := h
  rcases h with rfl | ⟨b, off, rfl, h⟩
  · cases a with
    | none => simp [Builtin.firstCells, Pure.pure, Sem.run]
    | some a => simp [Builtin.firstCells, loadCells, loadCellsFrom, Pure.pure, Sem.run]
  · have := loadCells_run (P := P) h
    rw [A.flat_len] at this
    simpa [Builtin.firstCells] using this
theorem append_run {e T1 T2 : TypeId} {s y : Value} {xs ys : List α} {H : Chunk} {z : Value} {nb : Nat} (h1 : P.underlying T1 = some (.slice e)) {t2 : TypeDesc} (h2 : P.underlying T2 = some t2) (h2' : ∀ k, t2 ≠ .int k)
    (hk : Size P e A.k) (hz : Zero P e z) (hzk : z.cells.size = A.k) (hb : Bytes P e nb) (hnb : nb ≤ 256)
    (ho : Own e A s xs H) (hlen : Builtin.lenOf y = Sem.pure ys.length) (hy : ∀ dr, (Builtin.firstCells A.k ys.length y).run P { w with drawn := dr } = .ok (ys.flatMap A.f).toArray { w with drawn := dr }) (hS : St M w (H :: Ls)) (hl : xs.length + ys.length ≤ 274877906944) :
    ∃ s' H' w', (Builtin.append_ #[T1, T2] T #[s, y]).run P w = .ok s' w' ∧ Own e A s' (xs ++ ys) H' ∧ St M w' (H' :: Ls) := by
  obtain ⟨i, hi, hbytes⟩ := hb
  have hy' : ∀ {dr : Nat}, (Builtin.firstCells A.k ys.length y).run P { w with drawn := dr } = .ok (ys.flatMap A.f).toArray { w with drawn := dr } := by
    intro dr
    exact hy dr
  have hold : ∀ {dr : Nat} {a : Option Addr} {cap : Nat}, s = .slice a xs.length cap → (Builtin.firstCells A.k xs.length (.slice a xs.length cap)).run P { w with drawn := dr } = .ok (xs.flatMap A.f).toArray { w with drawn := dr } := by
    intro dr a cap hs
    have h1 := ho.holds (hS.same (w' := { w with drawn := dr }) ⟨rfl, rfl, rfl, rfl⟩)
    rw [← hs]
    exact firstCells_run h1
  have hhead : ∀ {a : Option Addr} {cap : Nat} {r : Result Value}, s = .slice a xs.length cap →
      ((if xs.length + ys.length ≤ cap then (do
          let new ← Builtin.firstCells A.k ys.length y
          match a with
            | some a_1 => do
              storeCells (a_1.add (xs.length * A.k)) new.toList
              pure (Value.slice a (xs.length + ys.length) cap)
            | x => pure (Value.slice a (xs.length + ys.length) cap) : Sem Value) else (do
          let newCap ← choose (.appendCap (xs.length + ys.length) cap e)
          askRoom (newCap * i.bytes)
          let old ← Builtin.firstCells A.k xs.length s
          let new ← Builtin.firstCells A.k ys.length y
          let ad ← newRow e (old ++ new ++ Builtin.zeroCells z.cells (newCap - (xs.length + ys.length)))
          pure (.slice (some ad) (xs.length + ys.length) newCap) : Sem Value)).run P w = r) →
      (Builtin.append_ #[T1, T2] T #[s, y]).run P w = r := by
    intro a cap r hs hr
    subst hs
    rw [← hr]
    unfold Builtin.append_
    simp only [List.getElem?_toArray, List.getElem?_cons_zero, List.getElem?_cons_succ]
    rw [run_und h1]
    simp only
    rw [run_sizeOf hk, run_und h2]
    rw [Sem.run_bind_ok' (w' := w) (a := false) (by simp only [Pure.pure, Sem.run])]
    simp only [Bool.false_eq_true, if_false, hlen]
    rw [Sem.run_bind_ok' (w' := w) (a := ys.length) rfl]
    by_cases hc : xs.length + ys.length ≤ cap
    · simp only [if_pos hc, Bool.not_false, if_true]; rfl
    · simp only [if_neg hc, Bool.not_false, if_true]
      rw [run_typeInfo hi]
      have hg : ¬ (((xs.length + ys.length : Nat) : Int) > IntKind.i64.max ∧ (False ∨ i.bytes = 0)) := by
        intro h
        have := h.1
        simp [IntKind.max, IntKind.bits, IntKind.signed] at this
        omega
      have hg2 : ¬ (Builtin.nextslicecap (xs.length + ys.length) cap * i.bytes > 2 ^ 48) := by
        have h3 := nextcap_le (need := xs.length + ys.length) (c := cap) (by omega)
        have h4 : Builtin.nextslicecap (xs.length + ys.length) cap * i.bytes ≤ (2 * 274877906944 + 192) * 256 := Nat.mul_le_mul (by omega) (by omega)
        omega
      rw [if_neg hg, run_typeInfo hi, if_neg hg2, run_choose rfl, run_choose rfl, run_typeInfo hi, run_askRoom, run_askRoom]
      rw [Sem.run_bind_ok' (w' := { w with drawn := w.drawn + 1 }) (hold (cap := cap) rfl), Sem.run_bind_ok' (w' := { w with drawn := w.drawn + 1 }) (hold (cap := cap) rfl)]
      rw [Sem.run_bind_ok' hy', Sem.run_bind_ok' hy']
      rw [run_zero hz]
  by_cases hcase : ∃ a cap, s = .slice a xs.length cap ∧ xs.length + ys.length ≤ cap
  · obtain ⟨a, cap, hs, hc⟩ := hcase
    rcases ho with ⟨rfl, rfl, rfl⟩ | ⟨b, off, cap', pre, sp, fz, rfl, rfl, rfl, g1, g2, g3⟩
    · simp only [Value.slice.injEq, List.length_nil] at hs
      obtain ⟨rfl, _, rfl⟩ := hs
      have hys : ys = [] := List.length_eq_zero_iff.1 (by simpa using hc)
      subst hys
      refine ⟨.slice none 0 0, [], w, hhead (a := none) (cap := 0) rfl ?_, .inl ⟨rfl, rfl, rfl⟩, hS⟩
      rw [if_pos (by simp)]
      exact (Sem.run_bind_ok' (hy w.drawn)).trans rfl
    · simp only [Value.slice.injEq] at hs
      obtain ⟨rfl, _, rfl⟩ := hs
      have hsz : pre.length + cap' * A.k ≤ (pre ++ xs.flatMap A.f ++ sp).toArray.size := by
        simp only [List.size_toArray, List.length_append, A.flat_len]
        have : cap' * A.k = xs.length * A.k + (cap' - xs.length) * A.k := by rw [← Nat.add_mul]; congr 1; omega
        omega
      have hle : (ys.flatMap A.f).length ≤ sp.length := by
        rw [A.flat_len]; exact Nat.le_trans (Nat.mul_le_mul_right _ (by omega)) g2
      have hb0 := hS.has (b := b)
      obtain ⟨w', e1, e2, e3⟩ := storeCells_run (P := P) (j := pre.length + xs.length * A.k) (vs := ys.flatMap A.f) (i := 0) hb0 (A.flat_one ys)
        (by refine Nat.le_trans ?_ hsz; rw [A.flat_len]; have : cap' * A.k ≥ (xs.length + ys.length) * A.k := Nat.mul_le_mul_right _ hc; rw [Nat.add_mul] at this; omega)
        (by
          intro i' hi'
          rcases g3 with g3 | g3
          · subst g3; simp
          · have : cap' * A.k ≥ (xs.length + ys.length) * A.k := Nat.mul_le_mul_right _ hc
            rw [Nat.add_mul] at this
            rw [A.flat_len] at hi'
            omega)
      refine ⟨.slice (some ⟨b, pre.length, none⟩) (xs ++ ys).length cap', [(b, .cells (pre ++ (xs ++ ys).flatMap A.f ++ sp.drop (ys.length * A.k)).toArray e fz)], w', hhead (a := some ⟨b, pre.length, none⟩) (cap := cap') rfl ?_, ?_, ?_⟩
      · rw [if_pos hc, Sem.run_bind_ok' (hy w.drawn)]
        simp only [Addr.add_mk, List.length_append]
        exact (Sem.run_bind_ok' e1).trans rfl
      · refine .inr ⟨b, pre.length, cap', pre, _, fz, rfl, rfl, rfl, by simpa using hc, ?_, g3⟩
        simp only [List.length_drop, List.length_append]
        have : (cap' - xs.length) * A.k = (cap' - (xs.length + ys.length)) * A.k + ys.length * A.k := by rw [← Nat.add_mul]; congr 1; omega
        omega
      · refine hS.upd (b := b) w' ?_ e3
        rw [e2]
        have hsp : sp = sp.take (ys.length * A.k) ++ sp.drop (ys.length * A.k) := (List.take_append_drop _ _).symm
        have := setCells_mid (pre ++ xs.flatMap A.f) (sp.take (ys.length * A.k)) (sp.drop (ys.length * A.k)) (ys.flatMap A.f) (by rw [List.length_take, A.flat_len]; rw [A.flat_len] at hle; omega)
        rw [List.append_assoc (pre ++ xs.flatMap A.f), List.take_append_drop] at this
        simp only [List.length_append, A.flat_len] at this
        rw [Nat.add_zero, this]
        simp [List.flatMap_append]
  · obtain ⟨a, cap, hs⟩ := ho.slice
    have hc : ¬ xs.length + ys.length ≤ cap := fun h => hcase ⟨a, cap, hs, h⟩
    let q := Question.appendCap (xs.length + ys.length) cap e
    have hq : xs.length + ys.length ≤ q.cut (w.tape w.drawn q) := by simp only [q, Question.cut]; omega
    generalize hN : q.cut (w.tape w.drawn q) = N at hq
    have hzc : (Builtin.zeroCells z.cells (N - (xs.length + ys.length))).size = (N - (xs.length + ys.length)) * A.k := by simp [Builtin.zeroCells, hzk]
    have harr : ((xs.flatMap A.f).toArray ++ (ys.flatMap A.f).toArray ++ Builtin.zeroCells z.cells (N - (xs.length + ys.length))) = (([] : List Value) ++ (xs ++ ys).flatMap A.f ++ (Builtin.zeroCells z.cells (N - (xs.length + ys.length))).toList).toArray := by
      apply Array.ext'
      simp [List.flatMap_append]
    refine ⟨.slice (some ⟨w.heap.size, 0, none⟩) (xs ++ ys).length N, [(w.heap.size, .cells (([] : List Value) ++ (xs ++ ys).flatMap A.f ++ (Builtin.zeroCells z.cells (N - (xs.length + ys.length))).toList).toArray e (0, 0))], { w with drawn := w.drawn + 1, heap := w.heap.push _ }, hhead hs ?_, .inr ⟨_, 0, N, [], _, (0, 0), rfl, rfl, rfl, by simpa using hq, by simpa using Nat.le_of_eq hzc.symm, .inl rfl⟩, (hS.drop.push _ _ rfl ⟨rfl, rfl, rfl⟩)⟩
    rw [if_neg hc, run_choose rfl, run_askRoom]
    have := hold (dr := w.drawn + 1) hs
    rw [← hs] at this
    rw [Sem.run_bind_ok' this, Sem.run_bind_ok' hy', show (Question.appendCap (xs.length + ys.length) cap e).cut (w.tape w.drawn (Question.appendCap (xs.length + ys.length) cap e)) = N from hN, harr]
    simp [newRow, newObj, Bind.bind, Sem.bind, Pure.pure, Sem.run]
    exact ⟨rfl, rfl, rfl⟩
theorem y_builtin {b : Builtin} {x y : Operand} {u : Value} {ts : Array TypeId} {s' : Value} (hx : ev E x = some v) (hy : ev E y = some u)
    (h : ∀ cs, (builtin b ts T cs #[v, u]).run P w = .ok (.value s') w') : Y P E (.call ⟨.builtin b, #[x, y], ts⟩) T w s' w' := by
  intro a ha d pos af g
  simp only [execOp, resolve, invoke, Bind.bind, Pure.pure, Sem.bind]
  have e : (#[x, y].map a.eval) = #[v, u] := by simp [ev_sound ha hx, ev_sound ha hy]
  rw [e]
  exact h _
theorem x_append {e T1 T2 : TypeId} {x y : Operand} {s u : Value} {xs ys : List α} {H : Chunk} {z : Value} {nb : Nat} (h1 : P.underlying T1 = some (.slice e)) (h2 : P.underlying T2 = some (.slice e))
    (hk : Size P e A.k) (hz : Zero P e z) (hzk : z.cells.size = A.k) (hb : Bytes P e nb) (hnb : nb ≤ 256)
    (hx : ev E x = some s) (hy : ev E y = some u) (ho : Own e A s xs H) (hu : Holds w A u ys) (hS : St M w (H :: Ls)) (hl : xs.length + ys.length ≤ 274877906944) :
    ∃ s' H' w', Y P E (.call ⟨.builtin .append, #[x, y], #[T1, T2]⟩) T w s' w' ∧ Own e A s' (xs ++ ys) H' ∧ St M w' (H' :: Ls) := by
  have hlen : Builtin.lenOf u = Sem.pure ys.length := by obtain ⟨a, c, rfl⟩ := hu.slice; rfl
  have hu' : ∀ dr, Holds { w with drawn := dr } A u ys := by
    intro dr
    obtain ⟨a, c, rfl, h⟩ := hu
    exact ⟨a, c, rfl, h⟩
  obtain ⟨s', H', w', e1, e2, e3⟩ := append_run (T := T) h1 h2 (by intro k hk; cases hk) hk hz hzk hb hnb ho hlen (fun dr => firstCells_run (hu' dr)) hS hl
  refine ⟨s', H', w', y_builtin hx hy fun cs => ?_, e2, e3⟩
  simp only [builtin]
  exact (Sem.run_bind_ok' e1).trans rfl
theorem a_append {e T1 T2 : TypeId} {x y : Operand} {s u : Value} {xs ys : List α} {H : Chunk} {z : Value} {nb : Nat} (h1 : P.underlying T1 = some (.slice e)) (h2 : P.underlying T2 = some (.slice e))
    (hk : Size P e A.k) (hz : Zero P e z) (hzk : z.cells.size = A.k) (hb : Bytes P e nb) (hnb : nb ≤ 256)
    (hx : ev E x = some s) (hy : ev E y = some u) (ho : Own e A s xs H) (hu : Holds w A u ys) (hS : St M w Ls) [Pull Ls H Ls'] (hl : xs.length + ys.length ≤ 274877906944) (hd : Nat.blt d n = true)
    (h : ∀ s' H' w', Own e A s' (xs ++ ys) H' → St M w' (H' :: Ls') → WL P n ops KE l ((d, s') :: E) w') :
    WL P n ops KE (⟨some d, .call ⟨.builtin .append, #[x, y], #[T1, T2]⟩, T, pos, af, none⟩ :: l) E w := by
  obtain ⟨s', H', w', e1, e2, e3⟩ := x_append (T := T) h1 h2 hk hz hzk hb hnb hx hy ho hu (hS.pull H) hl
  exact wl e1 hd (h s' H' w' e2 e3)
theorem foldl_set : ∀ (vs : List Value) (off j : Nat) (cs : Array Value), (vs.zipIdx j).foldl (fun cs (x : Value × Nat) => cs.setIfInBounds (off + x.2) x.1) cs = setCells cs (off + j) vs
  | [], off, j, cs => rfl
  | v :: vs, off, j, cs => by
    simp only [List.zipIdx_cons, List.foldl_cons, setCells]
    rw [foldl_set vs off (j + 1), Nat.add_assoc]
theorem fill_run : ∀ (vs : List Value) (xs : List α) (j : Nat) (pre old : List Value), vs.length = xs.length → (∀ (i : Nat) (v : Value) (x : α), vs[i]? = some v → xs[i]? = some x → v.cells.toList = A.f x) → pre.length = j * A.k → old.length = xs.length * A.k →
    Instr.fill (fun i => some (i * A.k, A.k)) (pre ++ old).toArray ((vs.zipIdx j).map fun x => (x.2, x.1)) = some (pre ++ xs.flatMap A.f).toArray
  | [], xs, j, pre, old, h1, h2, h3, h4 => by
    have : xs = [] := List.length_eq_zero_iff.1 (by simpa using h1.symm)
    subst this
    have : old = [] := List.length_eq_zero_iff.1 (by simpa using h4)
    subst this
    simp [Instr.fill]
  | v :: vs, [], j, pre, old, h1, h2, h3, h4 => by simp at h1
  | v :: vs, x :: xs, j, pre, old, h1, h2, h3, h4 => by
    have hv : v.cells.toList = A.f x := h2 0 v x rfl rfl
    have hvs : v.cells.size = A.k := by rw [← Array.length_toList, hv, A.len]
    simp only [List.length_cons, Nat.add_mul, Nat.one_mul] at h4
    have hsplit : old = old.take A.k ++ old.drop A.k := (List.take_append_drop _ _).symm
    simp only [List.zipIdx_cons, List.map_cons, Instr.fill]
    have hc : (v.cells.size ≠ A.k || j * A.k + v.cells.size > (pre ++ old).toArray.size) = false := by
      simp only [hvs, ne_eq, not_true_eq_false, decide_false, Bool.false_or, decide_eq_false_iff_not, List.size_toArray, List.length_append]
      omega
    rw [hc]
    simp only [Bool.false_eq_true, if_false]
    have e1 : (v.cells.zipIdx.foldl (fun cs (x : Value × Nat) => cs.setIfInBounds (j * A.k + x.2) x.1) (pre ++ old).toArray) = (pre ++ A.f x ++ old.drop A.k).toArray := by
      rw [← Array.foldl_toList]
      have : v.cells.zipIdx.toList = v.cells.toList.zipIdx 0 := by simp
      rw [this, foldl_set, hv]
      have h5 := setCells_mid pre (old.take A.k) (old.drop A.k) (A.f x) (by rw [A.len, List.length_take]; omega)
      rw [List.append_assoc, List.take_append_drop, h3] at h5
      simpa using h5
    have e2 : (v.cells.zipIdx.foldl (fun cs (c, i) => cs.setIfInBounds (j * A.k + i) c) (pre ++ old).toArray) = (pre ++ A.f x ++ old.drop A.k).toArray := e1
    rw [e2]
    have ih := fill_run vs xs (j + 1) (pre ++ A.f x) (old.drop A.k) (by simpa using h1) (fun i u y hu hy => h2 (i + 1) u y (by simpa using hu) (by simpa using hy)) (by rw [List.length_append, A.len, h3, Nat.add_mul]; omega) (by rw [List.length_drop]; omega)
    simpa using ih
theorem x_bslice {U e : TypeId} {m : Nat} {z : Value} {xs : List α} {vs : List Value} {ps : List (Nat × Operand)} (hU : P.underlying U = some (.slice e)) (hk : Size P e A.k) (hz : Zero P e z) (hzk : z.cells.size = A.k)
    (hv : Evs E (ps.map (·.2)) vs) (hi : ps.map (·.1) = List.range m) (hm : xs.length = m) (hc : ∀ (i : Nat) (v : Value) (x : α), vs[i]? = some v → xs[i]? = some x → v.cells.toList = A.f x) (hbig : m * A.k ≤ 16777216) :
    Y P E (.buildSlice U m ps.toArray) T w (.slice (some ⟨w.heap.size, 0, none⟩) xs.length xs.length) (World.with w (.cells (xs.flatMap A.f).toArray e)) := by
  intro a ha d pos af g
  subst hm
  have hlen : vs.length = xs.length := by
    have h1 := congrArg List.length (Evs.sound ha hv)
    have h2 := congrArg List.length hi
    simp only [List.length_map, List.length_range] at h1 h2
    omega
  have hparts : (ps.map fun x => (x.1, a.eval x.2)) = (vs.zipIdx 0).map fun x => (x.2, x.1) := by
    have h1 := Evs.sound ha hv
    apply List.ext_getElem?
    intro i
    simp only [List.getElem?_map, List.getElem?_zipIdx]
    have h2 := congrArg (·[i]?) h1
    have h3 := congrArg (·[i]?) hi
    simp only [List.getElem?_map] at h2 h3
    cases hp : ps[i]? with
    | none =>
      rw [hp] at h2
      simp only [Option.map_none] at h2
      rw [← h2]; rfl
    | some p =>
      rw [hp] at h2 h3
      simp only [Option.map_some] at h2 h3
      rw [← h2]
      have h4 : p.1 = i := by
        obtain ⟨h5, h6⟩ := List.getElem?_eq_some_iff.1 h3.symm
        simpa using h6.symm
      simp [h4]
  have hpa : (Array.map (fun x => (x.1, a.eval x.2)) ps.toArray) = ((vs.zipIdx 0).map fun x => (x.2, x.1)).toArray := by rw [← hparts]; simp
  have hr : (Instr.buildSlice U xs.length (Array.map (fun x => (x.1, a.eval x.2)) ps.toArray)).run P w = .ok (.slice (some ⟨w.heap.size, 0, none⟩) xs.length xs.length) (World.with w (.cells (xs.flatMap A.f).toArray e)) := by
    rw [hpa]
    unfold Instr.buildSlice
    rw [run_und hU]
    simp only
    rw [run_sizeOf hk, if_neg (by omega)]
    have hfin : ∀ (old : List Value), old.length = xs.length * A.k → Instr.fill (fun i => some (i * A.k, A.k)) old.toArray ((vs.zipIdx 0).map fun x => (x.2, x.1)) = some (xs.flatMap A.f).toArray := by
      intro old ho
      have := fill_run (A := A) vs xs 0 [] old hlen hc (by simp) ho
      simpa using this
    by_cases h0 : xs.length * A.k = 0
    · simp only [h0, if_true]
      have := hfin [] (by simp [h0])
      rw [Sem.run_bind_ok' (w' := w) (a := #[]) rfl]
      have e0 : (Array.map (fun x => (#[] : Array Value)[x % (#[] : Array Value).size]!) (Array.range 0)) = ([] : List Value).toArray := Array.eq_empty_of_size_eq_zero (by simp)
      rw [e0]
      simp only [this]
      simp [newRow, newObj, Bind.bind, Sem.bind, Pure.pure, Sem.run, World.with]
    · simp only [h0, if_false]
      rw [run_zero hz, Sem.run_bind_ok' (w' := w) (a := z.cells) rfl]
      have := hfin ((Array.range (xs.length * A.k)).map fun i => z.cells[i % z.cells.size]!).toList (by simp)
      simp only [Array.toArray_toList] at this
      simp only [this]
      simp [newRow, newObj, Bind.bind, Sem.bind, Pure.pure, Sem.run, World.with]
  exact (Sem.run_bind_ok' hr).trans rfl
theorem map_hc {vs : List Value} {xs : List α} (h : vs.map (fun v => v.cells.toList) = xs.map A.f) : ∀ (i : Nat) (v : Value) (x : α), vs[i]? = some v → xs[i]? = some x → v.cells.toList = A.f x := by
  intro i v x hv hx
  have := congrArg (·[i]?) h
  simpa [List.getElem?_map, hv, hx] using this
theorem a_bslice {U e : TypeId} {m : Nat} {z : Value} {vs : List Value} {ps : List (Nat × Operand)} (A : Enc α) (xs : List α) (hU : P.underlying U = some (.slice e)) (hk : Size P e A.k) (hz : Zero P e z) (hzk : z.cells.size = A.k)
    (hv : Evs E (ps.map (·.2)) vs) (hi : ps.map (·.1) = List.range m) (hm : xs.length = m) (hc : vs.map (fun v => v.cells.toList) = xs.map A.f) (hbig : m * A.k ≤ 16777216) (hS : St M w Ls) (hd : Nat.blt d n = true)
    (h : ∀ s H w', Own e A s xs H → St M w' (H :: Ls) → WL P n ops KE l ((d, s) :: E) w') : WL P n ops KE (⟨some d, .buildSlice U m ps.toArray, T, pos, af, none⟩ :: l) E w :=
  wl (x_bslice hU hk hz hzk hv hi hm (map_hc hc) hbig) hd (h _ [(w.heap.size, .cells (xs.flatMap A.f).toArray e)] _ (.inr ⟨w.heap.size, 0, xs.length, [], [], (0, 0), rfl, by simp, rfl, Nat.le_refl _, by simp, .inl rfl⟩) (by simpa using hS.new _))
def encB : Enc UInt8 := ⟨1, fun c => [.int .u8 c.toNat], fun _ => rfl, by simp [oneC]⟩
theorem encB_flat (l : List UInt8) : l.flatMap encB.f = bytesV ⟨l.toArray⟩ := by
  simp only [bytesV]
  induction l with
  | nil => rfl
  | cons c l ih => rw [List.flatMap_cons, ih]; rfl
theorem y_b2sh {x : Operand} {u : Value} {bs : List UInt8} {U V e : TypeId} (hU : P.underlying U = some (.slice e)) (hV : P.underlying V = some .string) (he : P.underlying e = some (.int .u8)) (hx : ev E x = some u) (hu : Holds w encB u bs) :
    Y P E (.convert U V x) T w (.string ⟨bs.toArray⟩) w := by
  obtain ⟨a, c, rfl, h⟩ := hu
  rcases h with rfl | ⟨b, off, rfl, h⟩
  · intro ac ha d pos af g
    cases a with
    | none => simp [execOp, convert, underlying, program, Bind.bind, Sem.bind, Pure.pure, Sem.run, hU, hV, he, ev_sound ha hx, Conv.bytesToString]; rfl
    | some ad =>
      simp [execOp, convert, underlying, program, Bind.bind, Sem.bind, Pure.pure, Sem.run, hU, hV, he, ev_sound ha hx, Conv.bytesToString, loadCells, loadCellsFrom]; rfl
  · rw [encB_flat] at h
    exact y_b2s hU hV he hx h rfl
theorem Holds.cells {b off m c i : Nat} {xs : List α} {x : α} (h : Holds w A (.slice (some ⟨b, off, none⟩) m c) xs) (hi : xs[i]? = some x) : CellsAt w b (off + i * A.k) (A.f x) := by
  obtain ⟨b', off', c', he, h⟩ := h.at hi
  simp only [Value.slice.injEq, Option.some.injEq, Addr.mk.injEq] at he
  obtain ⟨⟨rfl, rfl, _⟩, _, _⟩ := he
  exact h
theorem CellsAt.one {b j : Nat} {v : Value} (h : CellsAt w b j [v]) : w.cell? ⟨b, j, none⟩ = some v := by simpa using h 0 v rfl
theorem flat_set (A : Enc α) : ∀ (xs : List α) (i : Nat) (x : α) (pre sp : List Value), i < xs.length →
    setCells (pre ++ xs.flatMap A.f ++ sp).toArray (pre.length + i * A.k) (A.f x) = (pre ++ (xs.set i x).flatMap A.f ++ sp).toArray
  | [], i, x, pre, sp, h => by simp at h
  | y :: ys, 0, x, pre, sp, h => by
    have := setCells_mid pre (A.f y) (ys.flatMap A.f ++ sp) (A.f x) (by rw [A.len, A.len])
    simpa [List.flatMap_cons] using this
  | y :: ys, i + 1, x, pre, sp, h => by
    have := flat_set A ys i x (pre ++ A.f y) sp (by simpa using h)
    rw [List.length_append, A.len] at this
    simp only [List.set_cons_succ, List.flatMap_cons]
    rw [Nat.add_mul, Nat.one_mul]
    rw [show pre.length + (i * A.k + A.k) = pre.length + A.k + i * A.k by omega]
    simpa using this
theorem a_storeE {e U : TypeId} {x y : Operand} {b off cap i m : Nat} {xs : List α} {x' : α} {H : Chunk} (hk : Size P U A.k) (hx : ev E x = some (.pointer (some ⟨b, off + i * A.k, none⟩))) (hy : ev E y = some v) (hv : v.cells.toList = A.f x')
    (ho : Own e A (.slice (some ⟨b, off, none⟩) m cap) xs H) (hi : i < xs.length) (hS : St M w Ls) [hp : Pull Ls H Ls']
    (h : ∀ H' w', Own e A (.slice (some ⟨b, off, none⟩) m cap) (xs.set i x') H' → St M w' (H' :: Ls') → WL P n ops KE l E w') : WL P n ops KE (⟨none, .store U x y, T, pos, af, none⟩ :: l) E w := by
  rcases ho with ⟨h1, _⟩ | ⟨b', off', cap', pre, sp, fz, h1, rfl, rfl, h2, h3, h4⟩
  · cases h1
  · simp only [Value.slice.injEq, Option.some.injEq, Addr.mk.injEq] at h1
    obtain ⟨⟨rfl, rfl, _⟩, rfl, rfl⟩ := h1
    have hS' := hS.pull [(b, .cells (pre ++ xs.flatMap A.f ++ sp).toArray e fz)]
    have hsz : (i + 1) * A.k ≤ xs.length * A.k := Nat.mul_le_mul_right _ hi
    have hcap : xs.length * A.k ≤ cap * A.k := Nat.mul_le_mul_right _ h2
    rw [Nat.add_mul, Nat.one_mul] at hsz
    obtain ⟨w', e1, e2, e3⟩ := x_store (T := T) hk hx hy (by rw [← Array.length_toList, hv, A.len]) (by rw [hv]; exact A.one x') hS'.has (by simp only [List.size_toArray, List.length_append, A.flat_len]; omega)
      (by
        intro j hj
        rcases h4 with h4 | h4
        · subst h4; simp
        · omega)
    rw [hv, flat_set A xs i x' pre sp hi] at e2
    refine wls e1 (h [(b, .cells (pre ++ (xs.set i x').flatMap A.f ++ sp).toArray e fz)] w' (.inr ⟨b, pre.length, cap, pre, sp, fz, by rw [List.length_set], rfl, rfl, by rw [List.length_set]; exact h2, by rw [List.length_set]; exact h3, h4⟩) ?_)
    exact hS'.upd (b := b) w' e2 e3
end
end Go.Proofs.YtndahppmjdbifaaGreatDoor.Eng
set_option linter.unusedVariables false
set_option linter.unusedSimpArgs false
namespace Go.Proofs.YtndahppmjdbifaaGreatDoor.Eng
open Go
section
variable {α : Type} {P : Program} {n : Nat} {E : Env} {w w' : World} {T : TypeId} {v : Value} {M : Mem} {Ls Ls' : List Chunk} {pos : String} {af : Array Edge} {d : Nat} {l : List Oper} {ops : Array Oper} {KE : Env → World → Prop} {A : Enc α}
theorem Enc.flat_split (A : Enc α) (xs : List α) (k : Nat) : xs.flatMap A.f = (xs.take k).flatMap A.f ++ (xs.drop k).flatMap A.f := by
  rw [← List.flatMap_append, List.take_append_drop]
theorem Own.take {e : TypeId} {a : Option Addr} {m c k : Nat} {xs : List α} {H : Chunk} (h : Own e A (.slice a m c) xs H) (hk : k ≤ xs.length) : Own e A (.slice a k c) (xs.take k) H := by
  rcases h with ⟨h1, rfl, rfl⟩ | ⟨b, off, cap, pre, sp, fz, h1, rfl, h2, h3, h4, h5⟩
  · simp only [Value.slice.injEq] at h1
    obtain ⟨rfl, rfl, rfl⟩ := h1
    obtain rfl : k = 0 := by simpa using hk
    exact .inl ⟨rfl, rfl, rfl⟩
  · simp only [Value.slice.injEq] at h1
    obtain ⟨rfl, rfl, rfl⟩ := h1
    have hl : (xs.take k).length = k := by rw [List.length_take]; omega
    refine .inr ⟨b, off, c, pre, (xs.drop k).flatMap A.f ++ sp, fz, by rw [hl], ?_, h2, by rw [hl]; omega, ?_, h5⟩
    · rw [show xs.flatMap A.f = _ from A.flat_split xs k]; simp
    · rw [hl, List.length_append, A.flat_len, List.length_drop]
      have : (c - k) * A.k = (xs.length - k) * A.k + (c - xs.length) * A.k := by rw [← Nat.add_mul]; congr 1; omega
      omega
theorem Own.drop {e : TypeId} {b off m c k : Nat} {xs : List α} {H : Chunk} (h : Own e A (.slice (some ⟨b, off, none⟩) m c) xs H) (hk : k ≤ xs.length) : Own e A (.slice (some ⟨b, off + k * A.k, none⟩) (xs.length - k) (c - k)) (xs.drop k) H := by
  rcases h with ⟨h1, rfl, rfl⟩ | ⟨b, off, cap, pre, sp, fz, h1, rfl, h2, h3, h4, h5⟩
  · cases h1
  · simp only [Value.slice.injEq, Option.some.injEq, Addr.mk.injEq] at h1
    obtain ⟨⟨rfl, rfl, _⟩, rfl, rfl⟩ := h1
    have hl : (xs.drop k).length = xs.length - k := List.length_drop
    refine .inr ⟨_, _, c - k, pre ++ (xs.take k).flatMap A.f, sp, fz, by rw [hl], ?_, ?_, by rw [hl]; omega, ?_, ?_⟩
    · rw [show xs.flatMap A.f = _ from A.flat_split xs k]; simp
    · rw [List.length_append, A.flat_len, List.length_take, h2, Nat.min_eq_left hk]
    · rw [hl, show c - k - (xs.length - k) = c - xs.length by omega]; exact h4
    · refine h5.imp id fun h => ?_
      have : c * A.k = k * A.k + (c - k) * A.k := by rw [← Nat.add_mul]; congr 1; omega
      omega
theorem Own.none {e : TypeId} {a : Option Addr} {m c : Nat} {xs : List α} {H : Chunk} (h : Own e A (.slice a m c) xs H) : Own e A (.slice a 0 0) [] H := by
  have h := h.take (k := 0) (Nat.zero_le _)
  rcases h with ⟨h1, h2, rfl⟩ | ⟨b, off, cap, pre, sp, fz, h1, rfl, h2, h3, h4, h5⟩
  · simp only [Value.slice.injEq] at h1
    obtain ⟨rfl, _, _⟩ := h1
    exact .inl ⟨rfl, rfl, rfl⟩
  · simp only [Value.slice.injEq] at h1
    obtain ⟨rfl, _, _⟩ := h1
    refine .inr ⟨b, off, 0, pre, sp, fz, rfl, by simp, h2, Nat.le_refl _, by simp, ?_⟩
    refine h5.imp id fun h => ?_
    simp; omega
theorem Holds.take {a : Option Addr} {m c k c' : Nat} {xs : List α} (h : Holds w A (.slice a m c) xs) (hk : k ≤ xs.length) : Holds w A (.slice a k c') (xs.take k) := by
  obtain ⟨a', c', h1, h2⟩ := h
  simp only [Value.slice.injEq] at h1
  obtain ⟨rfl, rfl, rfl⟩ := h1
  have hl : (xs.take k).length = k := by rw [List.length_take]; omega
  refine ⟨a, _, by rw [hl], ?_⟩
  rcases h2 with rfl | ⟨b, off, rfl, h2⟩
  · exact .inl (by simp)
  · refine .inr ⟨b, off, rfl, fun i v hi => h2 i v ?_⟩
    have e : xs.flatMap A.f = (xs.take k).flatMap A.f ++ (xs.drop k).flatMap A.f := by rw [← List.flatMap_append, List.take_append_drop]
    rw [e, List.getElem?_append_left (List.getElem?_eq_some_iff.1 hi).1]; exact hi
theorem Holds.drop {b off m c k c' : Nat} {xs : List α} (h : Holds w A (.slice (some ⟨b, off, none⟩) m c) xs) (hk : k ≤ xs.length) : Holds w A (.slice (some ⟨b, off + k * A.k, none⟩) (xs.length - k) c') (xs.drop k) := by
  obtain ⟨a', c', h1, h2⟩ := h
  simp only [Value.slice.injEq] at h1
  obtain ⟨rfl, rfl, rfl⟩ := h1
  have hl : (xs.drop k).length = xs.length - k := List.length_drop
  refine ⟨_, _, by rw [hl], ?_⟩
  rcases h2 with rfl | ⟨b, off, he, h2⟩
  · exact .inl (by simp)
  · simp only [Option.some.injEq, Addr.mk.injEq] at he
    obtain ⟨rfl, rfl, _⟩ := he
    refine .inr ⟨_, _, rfl, fun i v hi => ?_⟩
    have e : xs.flatMap A.f = (xs.take k).flatMap A.f ++ (xs.drop k).flatMap A.f := by rw [← List.flatMap_append, List.take_append_drop]
    have := h2 (k * A.k + i) v (by rw [e, List.getElem?_append_right (by rw [A.flat_len, List.length_take, Nat.min_eq_left hk]; omega), A.flat_len, List.length_take, Nat.min_eq_left hk, Nat.add_sub_cancel_left]; exact hi)
    rwa [← Nat.add_assoc] at this
theorem Holds.nil {a : Option Addr} {c : Nat} : Holds w A (.slice a 0 c) ([] : List α) := ⟨a, c, rfl, .inl rfl⟩
def cutV (a : Option Addr) (lo hi m size : Nat) : Value := .slice (if m = lo then a else a.map (·.add (lo * size))) (hi - lo) (m - lo)
theorem y_sl {x : Operand} {a : Option Addr} {m c size lv hv mv : Nat} {U e : TypeId} {lo hi mx : Option Operand} (hU : P.underlying U = some (.slice e)) (he : Size P e size) (hx : ev E x = some (.slice a m c))
    (hm : match mx with | none => mv = c | some o => ∃ k i, ev E o = some (.int k i) ∧ 0 ≤ i ∧ i.toNat = mv ∧ mv ≤ c)
    (hh : match hi with | none => hv = m ∧ mx = none | some o => ∃ k i, ev E o = some (.int k i) ∧ 0 ≤ i ∧ i.toNat = hv ∧ hv ≤ mv)
    (hl : match lo with | none => lv = 0 | some o => ∃ k i, ev E o = some (.int k i) ∧ 0 ≤ i ∧ i.toNat = lv ∧ lv ≤ hv) :
    Y P E (.slice U x lo hi mx) T w (cutV a lv hv mv size) w := by
  intro ac ha d pos af g
  have e1 : ∀ {z : Operand} {k : IntKind} {i : Int}, ev E z = some (.int k i) → ac.eval z = .int k i := fun h => ev_sound ha h
  have hb : (Instr.sliceBounds true m c (lo.map ac.eval) (hi.map ac.eval) (mx.map ac.eval)).run P w = .ok (lv, hv, mv) w := by
    cases mx with
    | none =>
      simp only at hm
      subst hm
      cases hi with
      | none =>
        simp only at hh
        obtain ⟨rfl, _⟩ := hh
        cases lo with
        | none => simp only at hl; subst hl; rfl
        | some o =>
          obtain ⟨k, i, h1, h2, h3, h4⟩ := hl
          have : i ≤ (hv : Int) := by omega
          simp [Instr.sliceBounds, Instr.sliceBound, asIntOf, Bind.bind, Sem.bind, Pure.pure, Sem.run, e1 h1, h2, h3, this]
      | some oh =>
        obtain ⟨k, i, h1, h2, h3, h4⟩ := hh
        have hi1 : i ≤ (mv : Int) := by omega
        cases lo with
        | none => simp only at hl; subst hl; simp [Instr.sliceBounds, Instr.sliceBound, asIntOf, Bind.bind, Sem.bind, Pure.pure, Sem.run, e1 h1, h2, h3, hi1]
        | some o =>
          obtain ⟨k', i', g1, g2, g3, g4⟩ := hl
          have hi2 : i' ≤ ((i.toNat : Nat) : Int) := by omega
          have hi3 : i' ≤ i := by omega
          have hi4 : i' ≤ (hv : Int) := by omega
          simp [Instr.sliceBounds, Instr.sliceBound, asIntOf, Bind.bind, Sem.bind, Pure.pure, Sem.run, e1 h1, h2, h3, hi1, e1 g1, g2, g3, hi2, hi3, hi4]
    | some om =>
      obtain ⟨km, im, m1, m2, m3, m4⟩ := hm
      have hi0 : im ≤ (c : Int) := by omega
      cases hi with
      | none => exact absurd hh.2 (by simp)
      | some oh =>
        obtain ⟨k, i, h1, h2, h3, h4⟩ := hh
        have hi1 : i ≤ ((im.toNat : Nat) : Int) := by omega
        have hi1' : i ≤ im := by omega
        have hi5 : i ≤ (mv : Int) := by omega
        cases lo with
        | none => simp only at hl; subst hl; simp [Instr.sliceBounds, Instr.sliceBound, asIntOf, Bind.bind, Sem.bind, Pure.pure, Sem.run, e1 h1, h2, h3, hi1, hi1', hi5, e1 m1, m2, m3, hi0]
        | some o =>
          obtain ⟨k', i', g1, g2, g3, g4⟩ := hl
          have hi2 : i' ≤ ((i.toNat : Nat) : Int) := by omega
          have hi3 : i' ≤ i := by omega
          have hi4 : i' ≤ (hv : Int) := by omega
          simp [Instr.sliceBounds, Instr.sliceBound, asIntOf, Bind.bind, Sem.bind, Pure.pure, Sem.run, e1 h1, h2, h3, hi1, hi1', hi5, e1 m1, m2, m3, hi0, e1 g1, g2, g3, hi2, hi3, hi4]
  have hs : (Instr.sliceAt U (ac.eval x) (lo.map ac.eval) (hi.map ac.eval) (mx.map ac.eval)).run P w = .ok (cutV a lv hv mv size) w := by
    unfold Instr.sliceAt
    rw [run_und hU]
    simp only
    unfold Instr.slice
    rw [run_und hU, ev_sound ha hx]
    simp only
    rw [Sem.run_bind_ok' hb]
    simp only
    rw [run_sizeOf he]
    rfl
  simp only [execOp]
  exact (Sem.run_bind_ok' hs).trans rfl
end
end Go.Proofs.YtndahppmjdbifaaGreatDoor.Eng
set_option linter.unusedVariables false
set_option linter.unusedSimpArgs false
namespace Go.Proofs.YtndahppmjdbifaaGreatDoor.Eng
open Go
section
variable {P : Program} {n : Nat} {E : Env} {w w' : World} {T : TypeId} {v : Value} {M : Mem} {Ls Ls' : List Chunk}
inductive Plc (P : Program) : List Field → List (Nat × Nat) → Prop
  | nil : Plc P [] []
  | cons {f : Field} {fs : List Field} {sz : Nat} {pl : List (Nat × Nat)} : Size P f.type sz → Plc P fs pl → Plc P (f :: fs) ((f.offset, sz) :: pl)
theorem Plc.run {fs : List Field} {pl : List (Nat × Nat)} (h : Plc P fs pl) : (fs.toArray.mapM (m := Sem) fun f => do pure (f.offset, ← sizeOf f.type)).run P w = .ok pl.toArray w := by
  rw [List.mapM_toArray]
  have : (fs.mapM (m := Sem) fun f => do pure (f.offset, ← sizeOf f.type)).run P w = .ok pl w := by
    induction h with
    | nil => rfl
    | cons h1 _ ih =>
      rw [List.mapM_cons]
      refine (Sem.run_bind_ok' (w' := w) ((run_sizeOf h1 _).trans rfl)).trans ?_
      exact (Sem.run_bind_ok' ih).trans rfl
  exact (Sem.run_bind_ok' this).trans rfl
def fillL (pl : List (Nat × Nat)) (cs : List Value) : List (Nat × List Value) → Option (List Value)
  | [] => some cs
  | (i, vs) :: r => match pl[i]? with
    | none => none
    | some (off, sz) => bif Nat.beq vs.length sz && Nat.ble (off + sz) cs.length then fillL pl (cs.take off ++ vs ++ cs.drop (off + sz)) r else none
theorem fillL_fill (pl : List (Nat × Nat)) : ∀ (ps : List (Nat × Value)) (cs out : List Value), fillL pl cs (ps.map fun x => (x.1, x.2.cells.toList)) = some out → Instr.fill (pl.toArray[·]?) cs.toArray ps = some out.toArray
  | [], cs, out, h => by simp only [List.map_nil, fillL, Option.some.injEq] at h; subst h; rfl
  | (i, v) :: ps, cs, out, h => by
    simp only [List.map_cons, fillL] at h
    cases hp : pl[i]? with
    | none => rw [hp] at h; cases h
    | some p =>
      obtain ⟨off, sz⟩ := p
      rw [hp] at h
      simp only at h
      cases hc : (Nat.beq v.cells.toList.length sz && Nat.ble (off + sz) cs.length) with
      | false => rw [hc] at h; cases h
      | true =>
        rw [hc] at h
        simp only [cond_true] at h
        simp only [Bool.and_eq_true] at hc
        have h1 : v.cells.toList.length = sz := Nat.eq_of_beq_eq_true hc.1
        have h2 : off + sz ≤ cs.length := Nat.le_of_ble_eq_true hc.2
        have h1' : v.cells.size = sz := by simpa using h1
        have hp' : pl.toArray[i]? = some (off, sz) := by simpa using hp
        unfold Instr.fill
        rw [hp']
        simp only
        have hn : (v.cells.size ≠ sz || off + v.cells.size > cs.toArray.size) = false := by
          simp only [h1', ne_eq, not_true_eq_false, decide_false, Bool.false_or, decide_eq_false_iff_not, List.size_toArray]; omega
        rw [hn]
        simp only [Bool.false_eq_true, if_false]
        have e1 : (v.cells.zipIdx.foldl (fun cs (x : Value × Nat) => cs.setIfInBounds (off + x.2) x.1) cs.toArray) = (cs.take off ++ v.cells.toList ++ cs.drop (off + sz)).toArray := by
          rw [← Array.foldl_toList]
          have : v.cells.zipIdx.toList = v.cells.toList.zipIdx 0 := by simp
          rw [this, foldl_set, Nat.add_zero]
          have hsp : cs = cs.take off ++ (cs.drop off).take sz ++ cs.drop (off + sz) := by
            rw [List.append_assoc, ← List.drop_drop, List.take_append_drop, List.take_append_drop]
          have htl : (cs.take off).length = off := by rw [List.length_take]; omega
          have h5 := setCells_mid (cs.take off) ((cs.drop off).take sz) (cs.drop (off + sz)) v.cells.toList (by rw [h1, List.length_take, List.length_drop]; omega)
          rw [← hsp, htl] at h5
          exact h5
        have e2 : (v.cells.zipIdx.foldl (fun cs (c, j) => cs.setIfInBounds (off + j) c) cs.toArray) = (cs.take off ++ v.cells.toList ++ cs.drop (off + sz)).toArray := e1
        rw [e2]
        exact fillL_fill pl ps _ out h
theorem y_build {U : TypeId} {pl : List (Nat × Nat)} {zs out : List Value} {is : List Nat} {xs : List Operand} {vs : List Value} (hp : ∃ fs : List Field, P.underlying U = some (.struct fs.toArray) ∧ Plc P fs pl) (hz : Zero P U (.agg zs.toArray))
    (hv : Evs E xs vs) (hf : fillL pl zs (is.zip (vs.map fun v => v.cells.toList)) = some out) :
    Y P E (.build U (is.zip xs).toArray) T w (.agg out.toArray) w := by
  obtain ⟨fs, hU, hpl⟩ := hp
  intro a ha d pos af g
  have h1 := Evs.sound ha hv
  have hparts : (is.zip xs).map (fun x => (x.1, a.eval x.2)) = is.zip vs := by
    rw [← h1, List.zip_map_right]
    rfl
  have hr : (Instr.build U (Array.map (fun x => (x.1, a.eval x.2)) (is.zip xs).toArray)).run P w = .ok (.agg out.toArray) w := by
    rw [List.map_toArray, hparts]
    unfold Instr.build
    rw [run_zero hz, run_und hU]
    simp only
    rw [Sem.run_bind_ok' hpl.run]
    have hcs : (Value.agg zs.toArray).cells = zs.toArray := rfl
    rw [hcs, fillL_fill pl (is.zip vs) zs out (by
      rw [← hf]; congr 1
      rw [List.zip_map_right]; rfl)]
    rfl
  simp only [execOp]
  exact (Sem.run_bind_ok' hr).trans rfl
def EqIn (P : Program) (d : Nat) (U : TypeId) (x y : Value) (r : Bool) : Prop := ∀ w, (Op.equalIn d U x y).run P w = .ok r w
def EqF (P : Program) (d : Nat) (vs us : List Value) (fs : List Field) (r : Bool) : Prop := ∀ w, (Op.eqFields d vs.toArray us.toArray fs).run P w = .ok r w
theorem eq_i {d : Nat} {U : TypeId} {k k' : IntKind} {a b : Int} (h : P.underlying U = some (.int k')) : EqIn P (d + 1) U (.int k a) (.int k b) (decide (a = b)) := fun w => by
  rw [run_equalIn_int w d U k k' a b h]
  rfl
theorem eq_s {d : Nat} {U : TypeId} {a b : ByteArray} (h : P.underlying U = some .string) : EqIn P (d + 1) U (.string a) (.string b) (decide (a = b)) := fun w => by
  rw [run_equalIn_string w d U a b h, beq_toList]
theorem eqf_nil {d : Nat} {vs us : List Value} : EqF P d vs us [] true := fun w => rfl
theorem eqf_step {d : Nat} {vs us : List Value} {f : Field} {fs : List Field} {a b : Value} {r s : Bool} (hn : (f.name == "_") = false) (ha : ∀ w, (part f.type vs.toArray f.offset).run P w = .ok a w) (hb : ∀ w, (part f.type us.toArray f.offset).run P w = .ok b w) (he : EqIn P d f.type a b r) (hr : EqF P d vs us fs s) : EqF P d vs us (f :: fs) (r && s) := fun w => by
  have hn' : f.name ≠ "_" := by simpa using hn
  rw [Op.eqFields]
  simp only [if_pos hn', Sem.run_bind, ha w, hb w, he w, Result.andThen_ok]
  cases r
  · simp
  · simpa using hr w
theorem part_plain {U : TypeId} {vs : List Value} {o : Nat} (hp : Plain P U) (hv : vs[o]? = some v) : (part U vs.toArray o).run P w = .ok v w := by
  unfold part
  rw [run_isAgg_plain hp]
  simp [hv, Pure.pure, Sem.run]
theorem eqf_p {d : Nat} {vs us : List Value} {f : Field} {fs : List Field} {a b : Value} {r s : Bool} (hn : (f.name == "_") = false) (hp : Plain P f.type) (ha : vs[f.offset]? = some a) (hb : us[f.offset]? = some b) (he : EqIn P d f.type a b r) (hr : EqF P d vs us fs s) : EqF P d vs us (f :: fs) (r && s) :=
  eqf_step hn (fun _ => part_plain hp ha) (fun _ => part_plain hp hb) he hr
theorem eq_st {d : Nat} {U : TypeId} {vs us : List Value} {fs : List Field} {r : Bool} (hU : P.underlying U = some (.struct fs.toArray)) (hp : P.stoodInHeld U = false) (h : EqF P d vs us fs r) : EqIn P (d + 1) U (.agg vs.toArray) (.agg us.toArray) r := fun w => by
  have hf : P.fieldsOf U = fs.toArray := by simp [Program.fieldsOf, hU]
  rw [run_equalIn_struct (P := P) w d U _ _ (by rw [hf]; exact hU) hp, hf]
  exact h w
theorem y_eqS {x y : Operand} {U V : TypeId} {vs us : List Value} {r : Bool} (hg : P.eqGuardType P.depth U = false) (hx : ev E x = some (.agg vs.toArray)) (hy : ev E y = some (.agg us.toArray)) (h : EqIn P 10000 U (.agg vs.toArray) (.agg us.toArray) r) : Y P E (.binOp .eql U x y V) T w (.bool r) w := by
  intro c ha d pos af g
  simp only [execOp, ev_sound ha hx, ev_sound ha hy]
  have h2 : (binOp .eql U (.agg vs.toArray) (.agg us.toArray)).run P w = .ok (.bool r) w := by rw [run_eql_struct, h w]; rfl
  exact (Sem.run_bind_ok' ((Sem.run_bind_ok' (run_eqGuard_agg w .eql U x y _ _ hg)).trans h2)).trans rfl
theorem y_neS {x y : Operand} {U V : TypeId} {vs us : List Value} {r : Bool} (hg : P.eqGuardType P.depth U = false) (hx : ev E x = some (.agg vs.toArray)) (hy : ev E y = some (.agg us.toArray)) (h : EqIn P 10000 U (.agg vs.toArray) (.agg us.toArray) r) : Y P E (.binOp .neq U x y V) T w (.bool (!r)) w := by
  intro c ha d pos af g
  simp only [execOp, ev_sound ha hx, ev_sound ha hy]
  have h2 : (binOp .neq U (.agg vs.toArray) (.agg us.toArray)).run P w = .ok (.bool (!r)) w := by rw [run_neq_struct, h w]; rfl
  exact (Sem.run_bind_ok' ((Sem.run_bind_ok' (run_eqGuard_agg w .neq U x y _ _ hg)).trans h2)).trans rfl
theorem y_pnil {x y : Operand} {U V e : TypeId} {p : Option Addr} (hU : P.underlying U = some (.pointer e)) (hx : ev E x = some (.pointer p)) (hy : ev E y = some (.pointer none)) : Y P E (.binOp .eql U x y V) T w (.bool p.isNone) w := by
  intro c ha d pos af g
  simp only [execOp, ev_sound ha hx, ev_sound ha hy]
  have h1 : (Op.equalIn (9999 + 1) U (.pointer p) (.pointer none)).run P w = .ok p.isNone w := by
    cases p <;> (unfold Op.equalIn; simp [underlying, program, Bind.bind, Sem.bind, Pure.pure, Sem.run, hU])
  exact (Sem.run_bind_ok' (Sem.run_bind_ok' (equal_of h1))).trans rfl
theorem y_slnil {x y : Operand} {U V e : TypeId} {p : Option Addr} {m q : Nat} (hU : P.underlying U = some (.slice e)) (hx : ev E x = some (.slice p m q)) (hy : ev E y = some (.slice none 0 0)) : Y P E (.binOp .eql U x y V) T w (.bool p.isNone) w := by
  intro c ha d pos af g
  simp only [execOp, ev_sound ha hx, ev_sound ha hy]
  have h1 : (Op.equalIn (9999 + 1) U (.slice p m q) (.slice none 0 0)).run P w = .ok p.isNone w := by
    cases p <;> (unfold Op.equalIn; simp [underlying, program, Bind.bind, Sem.bind, Pure.pure, Sem.run, hU])
  exact (Sem.run_bind_ok' (Sem.run_bind_ok' (equal_of h1))).trans rfl
end
section
variable {α : Type} {A : Enc α} {w : World} {e : TypeId} {xs : List α} {H : Chunk} {b off m c k lo hi : Nat}
theorem Own.cap {a : Option Addr} (h : Own e A (.slice a m c) xs H) : m = xs.length ∧ xs.length ≤ c := by
  rcases h with ⟨h1, rfl, rfl⟩ | ⟨b, off, cap, pre, sp, fz, h1, rfl, h2, h3, h4, h5⟩
  · simp only [Value.slice.injEq] at h1; obtain ⟨_, rfl, rfl⟩ := h1; exact ⟨rfl, Nat.le_refl _⟩
  · simp only [Value.slice.injEq] at h1; obtain ⟨_, rfl, rfl⟩ := h1; exact ⟨rfl, h3⟩
theorem cutV_0 : cutV (some ⟨b, off, none⟩) 0 hi c k = .slice (some ⟨b, off, none⟩) hi c := by
  unfold cutV
  split <;> simp [Addr.add_mk]
theorem cutV_lt (h : lo < c) : cutV (some ⟨b, off, none⟩) lo hi c k = .slice (some ⟨b, off + lo * k, none⟩) (hi - lo) (c - lo) := by
  unfold cutV
  rw [if_neg (by omega)]
  simp [Addr.add_mk]
theorem Holds.cut {a : Option Addr} (h : Holds w A (.slice a m c) xs) (hl : lo ≤ xs.length) (hc : xs.length ≤ c) : Holds w A (cutV a lo m c A.k) (xs.drop lo) := by
  have hm : m = xs.length := by
    obtain ⟨a', c', h1, _⟩ := h
    simp only [Value.slice.injEq] at h1
    exact h1.2.1
  subst hm
  by_cases e : lo = xs.length
  · subst e
    rw [List.drop_length]
    unfold cutV
    rw [Nat.sub_self]
    exact Holds.nil
  · obtain ⟨a', c', h1, h2⟩ := h
    simp only [Value.slice.injEq] at h1
    obtain ⟨rfl, _, rfl⟩ := h1
    rcases h2 with rfl | ⟨b, off, rfl, h2⟩
    · simp at hl; subst hl; simp at e
    · rw [cutV_lt (by omega)]
      exact Holds.drop (c := c) ⟨_, _, rfl, .inr ⟨b, off, rfl, h2⟩⟩ hl
end
section
variable {α : Type} {P : Program} {n : Nat} {E : Env} {w w' : World} {T : TypeId} {v : Value} {M : Mem} {Ls Ls' : List Chunk} {pos : String} {af : Array Edge} {d : Nat} {l : List Oper} {ops : Array Oper} {KE : Env → World → Prop} {A : Enc α}
theorem y_slFrom {x h : Operand} {a : Option Addr} {m c size lv : Nat} {k : IntKind} {i : Int} {U e : TypeId} (hU : P.underlying U = some (.slice e)) (he : Size P e size) (hx : ev E x = some (.slice a m c)) (hh : ev E h = some (.int k i)) (h0 : 0 ≤ i) (h1 : i.toNat = lv) (h2 : lv ≤ m) :
    Y P E (.slice U x (some h) none none) T w (cutV a lv m c size) w :=
  y_sl (lo := some h) (hi := none) (mx := none) (lv := lv) (hv := m) (mv := c) hU he hx rfl ⟨rfl, rfl⟩ ⟨k, i, hh, h0, h1, h2⟩
end
section
variable {M : Mem} {w : World} {Ls Ls' L1 T : List Chunk} {A : Chunk} {x : Nat × Obj}
instance (priority := 50) Pull.both [h1 : Pull Ls [x] L1] [h2 : Pull L1 A Ls'] : Pull Ls (x :: A) Ls' := ⟨by
  have e1 := h1.perm
  have e2 := h2.perm
  refine e1.trans ?_
  simpa using List.Perm.cons x e2⟩
instance (priority := 60) Pull.inHead : Pull ((x :: A) :: Ls) [x] (A :: Ls) := ⟨by simp⟩
instance (priority := 60) Pull.inTail : Pull ((x :: A) :: Ls) A ([x] :: Ls) := ⟨by
  simp only [List.flatten_cons, List.cons_append, List.nil_append]
  exact List.perm_middle.symm⟩
class Keep (Ls T : List Chunk) : Prop where
  ex : ∃ X, Ls.flatten.Perm (T.flatten ++ X)
instance (priority := 200) Keep.refl : Keep Ls Ls := ⟨[], by simp⟩
instance (priority := 100) Keep.cons [h : Pull Ls A L1] [k : Keep L1 T] : Keep Ls (A :: T) := ⟨by
  obtain ⟨X, hX⟩ := k.ex
  refine ⟨X, h.perm.trans ?_⟩
  simpa using List.Perm.append_left A hX⟩
instance (priority := 20) Keep.drop [k : Keep Ls T] : Keep (A :: Ls) T := ⟨by
  obtain ⟨X, hX⟩ := k.ex
  refine ⟨X ++ A, ?_⟩
  simp only [List.flatten_cons]
  refine (List.perm_append_comm).trans ?_
  rw [← List.append_assoc]
  exact List.Perm.append_right A hX⟩
theorem St.sub (h : St M w Ls) (X : Chunk) (e : Ls.flatten.Perm (T.flatten ++ X)) : St M w T :=
  ⟨h.imm, fun b o hm => h.own b o (e.mem_iff.2 (by simp only [List.mem_append]; exact .inl hm)), fun b o hm => h.apart b o (e.mem_iff.2 (by simp only [List.mem_append]; exact .inl hm)),
   by have := ((e.map _).nodup_iff).1 h.nodup; rw [List.map_append] at this; exact (List.nodup_append.1 this).1, h.io⟩
theorem St.keep (h : St M w Ls) [k : Keep Ls T] : St M w T := by
  obtain ⟨X, e⟩ := k.ex
  exact h.sub X e
theorem CellsAt.sub {b j a : Nat} {vs us : List Value} (h : CellsAt w b j vs) (e : (vs.drop a).take us.length = us) : CellsAt w b (j + a) us := by
  intro i v hi
  rw [Nat.add_assoc]
  refine h (a + i) v ?_
  rw [← e, List.getElem?_take] at hi
  split at hi
  · rwa [List.getElem?_drop] at hi
  · cases hi
end
theorem cells_agg (vs : Array Value) : (Value.agg vs).cells = vs := rfl
end Go.Proofs.YtndahppmjdbifaaGreatDoor.Eng
set_option linter.unusedVariables false
set_option linter.unusedSimpArgs false
namespace Go.Proofs.YtndahppmjdbifaaGreatDoor.Eng
open Go
section
variable {α : Type} {P : Program} {n : Nat} {E : Env} {w w' : World} {T : TypeId} {v : Value} {M : Mem} {Ls Ls' : List Chunk} {pos : String} {af : Array Edge} {d : Nat} {l : List Oper} {ops : Array Oper} {KE : Env → World → Prop} {A : Enc α}
theorem wl_extern {f : FuncId} {fn : Func} {e : Array Value → Sem Value} {xs : List Operand} {vs : List Value} {ts : Array TypeId} {u : Value} (hf : P.funcs[f]? = some fn) (hname : (fn.name == "runtime.NumGoroutine") = false) (hbody : fn.body = none) (hn : (Extern.findNext fn).isNone = true) (he : Extern.find fn = some e)
    (hv : Evs E xs vs) (hr : (e vs.toArray).run P w = .ok u w) (hd : Nat.blt d n = true) (h : WL P n ops KE l ((d, u) :: E) w) :
    WL P n ops KE (⟨some d, .call ⟨.value (.func f), xs.toArray, ts⟩, T, pos, af, none⟩ :: l) E w := by
  refine wl_put (v := u) (w' := w) ?_ hd h
  intro a ha
  have h1 := Evs.sound ha hv
  have hc : (callFunc f vs.toArray).run P w = .ok (.value u) w := by
    have h2' : ¬ fn.name = "runtime.NumGoroutine" := by simpa using hname
    have hn' : Extern.findNext fn = none := by simpa using hn
    simp only [callFunc, program, mark, Bind.bind, Sem.bind, Sem.run, Pure.pure, hf, hbody, hn', he, hname, Bool.false_eq_true, if_false, Option.isNone_none, if_true]
    exact (Sem.run_bind_ok' hr).trans rfl
  simp only [execOp, resolve, Act.eval, Deferred.ofValue, invoke, Bind.bind, Pure.pure, Sem.bind, List.map_toArray, h1, Array.empty_append, Array.append_empty]
  simpa using hc
theorem y_tounsafe {x : Operand} {src dst t e : TypeId} {k cells : Nat} {a : Addr} (hs : P.underlying src = some (.pointer t)) (hd : P.underlying dst = some .unsafePointer) (ht : Size P t (k + 1)) (hx : ev E x = some (.pointer (some a))) (hsh : w.shape? a.block = some (e, cells)) (hoff : a.off < cells) :
    Y P E (.convert src dst x) T w (.pointer (some a)) w := by
  obtain ⟨j, hj, hk⟩ := ht
  intro ac ha d pos af g
  simp only [execOp, ev_sound ha hx]
  exact (Sem.run_bind_ok' (Lib.run_to_unsafe w a hs hd hj (by omega) hsh hoff)).trans rfl
theorem y_fromunsafe {x : Operand} {src dst u e : TypeId} {k cells : Nat} {a : Addr} (hs : P.underlying src = some .unsafePointer) (hd : P.underlying dst = some (.pointer u)) (hu : Size P u k) (hx : ev E x = some (.pointer (some a))) (hsh : w.shape? a.block = some (e, cells)) (hlies : liesAt P P.depth e (cells / P.cellsOf e) a.off u 1 = true) :
    Y P E (.convert src dst x) T w (.pointer (some a)) w := by
  obtain ⟨j, hj, hk⟩ := hu
  intro ac ha d pos af g
  simp only [execOp, ev_sound ha hx]
  exact (Sem.run_bind_ok' (Lib.run_from_unsafe w a hs hd hj hsh hlies)).trans rfl
theorem y_pneqsame {x y : Operand} {U V e : TypeId} {k : Nat} {a : Addr} (hU : P.underlying U = some (.pointer e)) (he : Size P e k) (hx : ev E x = some (.pointer (some a))) (hy : ev E y = some (.pointer (some a))) : Y P E (.binOp .neq U x y V) T w (.bool false) w := by
  obtain ⟨j, hj, hk⟩ := he
  intro c ha d pos af g
  simp only [execOp, ev_sound ha hx, ev_sound ha hy]
  exact (Sem.run_bind_ok' ((Sem.run_bind_ok' (w' := w) (a := ()) rfl).trans (Lib.run_neq_ptr_same w a hU hj))).trans rfl
theorem a_append_s {e T1 T2 : TypeId} {x y : Operand} {s : Value} {bs : ByteArray} {xs : List UInt8} {H : Chunk} {z : Value} {nb : Nat} (h1 : P.underlying T1 = some (.slice e)) (h2 : P.underlying T2 = some .string)
    (hk : Size P e 1) (hz : Zero P e z) (hzk : z.cells.size = 1) (hb : Bytes P e nb) (hnb : nb ≤ 256)
    (hx : ev E x = some s) (hy : ev E y = some (.string bs)) (ho : Own e encB s xs H) (hS : St M w Ls) [Pull Ls H Ls'] (hl : xs.length + bs.size ≤ 274877906944) (hd : Nat.blt d n = true)
    (h : ∀ s' H' w', Own e encB s' (xs ++ bs.data.toList) H' → St M w' (H' :: Ls') → WL P n ops KE l ((d, s') :: E) w') :
    WL P n ops KE (⟨some d, .call ⟨.builtin .append, #[x, y], #[T1, T2]⟩, T, pos, af, none⟩ :: l) E w := by
  have hbl : bs.data.toList.length = bs.size := by simp
  have hlen : Builtin.lenOf (.string bs) = Sem.pure bs.data.toList.length := by rw [hbl]; rfl
  have hfc : ∀ dr, (Builtin.firstCells encB.k bs.data.toList.length (.string bs)).run P { w with drawn := dr } = .ok (bs.data.toList.flatMap encB.f).toArray { w with drawn := dr } := by
    intro dr
    have : bs.extract 0 bs.data.toList.length = bs := by
      rw [hbl]; exact ByteArray.extract_zero_size
    simp only [Builtin.firstCells, this, Pure.pure, Sem.run]
    congr 1
    apply Array.ext'
    rw [encB_flat]; simp [bytesV]
  obtain ⟨s', H', w', e1, e2, e3⟩ := append_run (A := encB) (T := T) h1 h2 (by intro k hk; cases hk) hk hz hzk hb hnb ho hlen hfc (hS.pull H) (by rw [hbl]; exact hl)
  refine wl (v := s') (w' := w') (y_builtin hx hy fun cs => ?_) hd (h s' H' w' e2 e3)
  simp only [builtin]
  exact (Sem.run_bind_ok' e1).trans rfl
theorem y_sdata_nil {x : Operand} {U : TypeId} {m c : Nat} (hx : ev E x = some (.slice none m c)) : Y P E (.call ⟨.builtin .unsafeSliceData, #[x], #[U]⟩) T w (.pointer none) w := by
  intro a ha d pos af g
  have e0 : (#[x].map a.eval) = #[.slice none m c] := by simp [ev_sound ha hx]
  simp only [execOp, resolve, invoke, Bind.bind, Pure.pure, Sem.bind, e0]
  rfl
theorem y_sdata {x : Operand} {U : TypeId} {m c : Nat} {ad : Addr} (hc : c ≠ 0) (hx : ev E x = some (.slice (some ad) m c)) : Y P E (.call ⟨.builtin .unsafeSliceData, #[x], #[U]⟩) T w (.pointer (some ad)) w := by
  intro a ha d pos af g
  have e0 : (#[x].map a.eval) = #[.slice (some ad) m c] := by simp [ev_sound ha hx]
  simp only [execOp, resolve, invoke, Bind.bind, Pure.pure, Sem.bind, e0, builtin]
  exact (Sem.run_bind_ok' (Lib.run_unsafeSliceData_row w _ _ ad m c hc)).trans rfl
theorem a_sdata0 {x : Operand} {U e : TypeId} {m : Nat} {ad : Addr} {sh : TypeId × Nat} (hp : P.underlying T = some (.pointer e)) (hx : ev E x = some (.slice (some ad) m 0)) (hsh : w.shape? ad.block = some sh) (hS : St M w Ls) (hd : Nat.blt d n = true)
    (h : ∀ q H w', St M w' (H :: Ls) → WL P n ops KE l ((d, .pointer q) :: E) w') :
    WL P n ops KE (⟨some d, .call ⟨.builtin .unsafeSliceData, #[x], #[U]⟩, T, pos, af, none⟩ :: l) E w := by
  refine wl (v := .pointer (some ⟨w.heap.size, 0, none⟩)) (w' := w.alloc (.view ad e)) ?_ hd (h (some ⟨w.heap.size, 0, none⟩) [(w.heap.size, .view ad e)] _ (hS.push _ _ rfl ⟨rfl, rfl, rfl⟩))
  intro a ha d pos af g
  have e0 : (#[x].map a.eval) = #[.slice (some ad) m 0] := by simp [ev_sound ha hx]
  simp only [execOp, resolve, invoke, Bind.bind, Pure.pure, Sem.bind, e0, builtin]
  exact (Sem.run_bind_ok' (Lib.run_unsafeSliceData_zero w _ _ e hp ad m sh hsh)).trans rfl
theorem y_ustr0 {x y : Operand} {U V : TypeId} {q : Option Addr} (hx : ev E x = some (.pointer q)) (hy : ev E y = some (.int .i64 0)) : Y P E (.call ⟨.builtin .unsafeString, #[x, y], #[U, V]⟩) T w (.string ByteArray.empty) w := by
  intro a ha d pos af g
  have e0 : (#[x, y].map a.eval) = #[.pointer q, .int .i64 0] := by simp [ev_sound ha hx, ev_sound ha hy]
  simp only [execOp, resolve, invoke, Bind.bind, Pure.pure, Sem.bind, e0, builtin]
  exact (Sem.run_bind_ok' (Lib.run_unsafeString_none w _ _ _ q)).trans rfl
theorem liesAt_bytes_off {e : TypeId} (hc : P.cellsOf e = 1) (count off n : Nat) (hn : off + n ≤ count) : liesAt P P.depth e count off e n = true := by
  have hd : P.depth = (2 * (P.types.size + Made.depth) + 1) + 1 := rfl
  rw [hd]
  simp only [liesAt, Bool.or_eq_true]
  left
  rw [hd]
  simp [rowAt, hc, hn, sameLayout, Nat.mod_one]
theorem unsafeString_off (pt it ty e : TypeId) (hp : P.underlying pt = some (.pointer e)) (hc : P.cellsOf e = 1) (g off cells : Nat) (hsh : w.shape? g = some (e, cells)) (l : List UInt8) (h0 : l ≠ []) (hn : off + l.length ≤ cells) (h63 : l.length ≤ 9223372036854775807)
    (hcell : ∀ j x, l[j]? = some x → w.cell? ((⟨g, off, none⟩ : Addr).add j) = some (.int .u8 x.toNat)) :
    (Builtin.unsafeString_ #[pt, it] ty #[.pointer (some ⟨g, off, none⟩), .int .i64 l.length]).run P w = .ok (.string ⟨l.toArray⟩) (w.freeze ⟨g, off, none⟩ l.length) := by
  have hl : l.length ≠ 0 := by simpa using h0
  have hlb := Lib.run_loadBytes (P := P) w l ⟨g, off, none⟩ .empty hcell
  have hlies := liesAt_bytes_off (P := P) hc (cells / P.cellsOf e) off l.length (by rw [hc]; simpa using hn)
  have h63' : ¬ (9223372036854775807 : Int) < (l.length : Int) := by omega
  change Sem.run P (Bind.bind (asInt (.int .i64 l.length)) _) w = _
  have hmax : IntKind.i64.max = 9223372036854775807 := rfl
  have hneg : ¬ (l.length : Int) < 0 := by omega
  simp [asInt, asIntOf, hmax, h63', hneg, hl, variablesAt, hsh, elemOf, run_underlying hp, hlies, hlb]
theorem a_ustr {x y : Operand} {U V e : TypeId} {b off c m : Nat} {bs : List UInt8} {H : Chunk} (hp : P.underlying U = some (.pointer e)) (hc : P.cellsOf e = 1) (hx : ev E x = some (.pointer (some ⟨b, off, none⟩))) (hy : ev E y = some (.int .i64 bs.length)) (h0 : bs ≠ []) (hl : bs.length ≤ 9223372036854775807)
    (ho : Own e encB (.slice (some ⟨b, off, none⟩) m c) bs H) (hS : St M w Ls) [hpl : Pull Ls H Ls'] (hd : Nat.blt d n = true)
    (h : ∀ w', St M w' Ls' → WL P n ops KE l ((d, .string ⟨bs.toArray⟩) :: E) w') :
    WL P n ops KE (⟨some d, .call ⟨.builtin .unsafeString, #[x, y], #[U, V]⟩, T, pos, af, none⟩ :: l) E w := by
  have hS' := hS.pull H
  have hh := ho.holds hS'
  rcases ho with ⟨h1, _⟩ | ⟨b', off', cap', pre, sp, fz, h1, rfl, rfl, h2, h3, h4⟩
  · cases h1
  · simp only [Value.slice.injEq, Option.some.injEq, Addr.mk.injEq] at h1
    obtain ⟨⟨rfl, rfl, _⟩, rfl, rfl⟩ := h1
    have hb := hS'.has (b := b)
    have hce : CellsAt w b pre.length (bs.flatMap encB.f) := by
      obtain ⟨a, c, he, hq⟩ := hh
      rcases hq with hq | ⟨b2, off2, hq, hq2⟩
      · exact absurd hq h0
      · simp only [Value.slice.injEq] at he
        obtain ⟨he, _, _⟩ := he
        rw [hq] at he
        simp only [Option.some.injEq, Addr.mk.injEq] at he
        obtain ⟨rfl, rfl, _⟩ := he
        exact hq2
    have hrun := unsafeString_off (w := w) U V T e hp hc b pre.length _ (by unfold World.shape?; rw [hb]) bs h0 (by simp only [List.size_toArray, List.length_append, encB.flat_len, show encB.k = 1 from rfl]; omega) hl (by
      intro j x hx
      rw [Addr.add_mk]
      refine hce j _ ?_
      rw [encB_flat]; simp [bytesV, hx])
    have hne : bs.length ≠ 0 := by simpa using h0
    obtain ⟨fz', hfz⟩ : ∃ fz', (w.freeze ⟨b, pre.length, none⟩ bs.length).heap[b]? = some (.cells (pre ++ bs.flatMap encB.f ++ sp).toArray e fz') := by
      unfold World.freeze
      rw [if_neg hne]
      simp only [Array.getElem?_modify, if_true, hb, Option.map_some]
      exact ⟨_, rfl⟩
    refine wl (v := .string ⟨bs.toArray⟩) (w' := w.freeze ⟨b, pre.length, none⟩ bs.length) ?_ hd (h _ ?_)
    · intro a ha d pos af g
      have e0 : (#[x, y].map a.eval) = #[.pointer (some ⟨b, pre.length, none⟩), .int .i64 bs.length] := by simp [ev_sound ha hx, ev_sound ha hy]
      simp only [execOp, resolve, invoke, Bind.bind, Pure.pure, Sem.bind, e0, builtin]
      exact (Sem.run_bind_ok' hrun).trans rfl
    · have := hS'.upd (b := b) (o := .cells (pre ++ bs.flatMap encB.f ++ sp).toArray e fz') (w.freeze ⟨b, pre.length, none⟩ bs.length) hfz ⟨fun c hc => by
        unfold World.freeze
        rw [if_neg hne]
        simp only [Array.getElem?_modify]
        rw [if_neg (fun h => hc h.symm)], by unfold World.freeze; rw [if_neg hne]; exact ⟨rfl, rfl, rfl⟩⟩
      exact this.drop
theorem wc_case {n : Nat} {K : Kont} {s : Nat} {x y : Code} {t : Bool} (hb : Env.get E s = some (.bool t)) (hT : t = true → WC P n x K ((s, .bool true) :: E) w) (hF : t = false → WC P n y K ((s, .bool false) :: E) w) : WC P n (.cond (.tmp s) x y) K E w := by
  refine wc_if (t := t) hb (fun h => ?_) (fun h => ?_)
  · subst h; exact wc_sub (sub_cons hb fun _ _ h => h) (hT rfl)
  · subst h; exact wc_sub (sub_cons hb fun _ _ h => h) (hF rfl)
theorem wretN {rs : List ResultVar} {vs : List Value} {R : Value → World → Prop} (h : Res P E w rs vs) (hr : R (tupled vs) w) : retK P rs R .normal E w := ⟨vs, h, hr⟩
theorem a_mkslice {e U : TypeId} {x y : Operand} {z : Value} {k : IntKind} {m nb : Nat} (A : Enc α) (x0 : α) (hU : P.underlying U = some (.slice e)) (hk : Size P e A.k) (hz : Zero P e z) (hzc : z.cells.toList = A.f x0) (hb : Bytes P e nb) (hnb : nb ≤ 256)
    (hx : ev E x = some (.int k m)) (hy : ev E y = some (.int k m)) (hm : m ≤ 1099511627776) (hS : St M w Ls) (hd : Nat.blt d n = true)
    (h : ∀ b H w', Own e A (.slice (some ⟨b, 0, none⟩) m m) (List.replicate m x0) H → St M w' (H :: Ls) → WL P n ops KE l ((d, .slice (some ⟨b, 0, none⟩) m m) :: E) w') :
    WL P n ops KE (⟨some d, .makeSlice U x y, T, pos, af, none⟩ :: l) E w := by
  obtain ⟨i, hi, hbytes⟩ := hb
  have hlen : (z.cells).size = A.k := by rw [← Array.length_toList, hzc, A.len]
  have hw : IntKind.i64.wrap (m : Int) = m := w64 (by omega) (by omega)
  have hrow : ((Array.range (m * A.k)).map fun j => z.cells[j % z.cells.size]!) = ((List.replicate m x0).flatMap A.f).toArray := by
    apply Array.ext'
    apply List.ext_getElem?
    intro j
    simp only [Array.toList_map, Array.toList_range, List.getElem?_map]
    by_cases hj : j < m * A.k
    · have hkp : 0 < A.k := by rcases Nat.eq_zero_or_pos A.k with h | h; · rw [h] at hj; simp at hj
                               · exact h
      have hdiv : j / A.k < m := (Nat.div_lt_iff_lt_mul hkp).2 hj
      have hmod : j % A.k < A.k := Nat.mod_lt _ hkp
      have hc : (A.f x0)[j % A.k]? = some z.cells[j % z.cells.size]! := by
        rw [← hzc, hlen, getElem!_pos z.cells _ (by rw [hlen]; exact hmod)]
        simp [hlen, hmod]
      have := A.flat_at (List.replicate m x0) (j / A.k) x0 (j % A.k) _ (by simp [hdiv]) hc
      rw [Nat.mul_comm, Nat.div_add_mod] at this
      rw [List.getElem?_range hj]
      simp [this]
    · rw [List.getElem?_eq_none (by simp; omega), List.getElem?_eq_none (by rw [A.flat_len, List.length_replicate]; omega)]
      rfl
  refine wl (v := .slice (some ⟨w.heap.size, 0, none⟩) m m) (w' := World.with w (.cells ((List.replicate m x0).flatMap A.f).toArray e)) ?_ hd
    (h w.heap.size [(w.heap.size, .cells ((List.replicate m x0).flatMap A.f).toArray e)] _ (.inr ⟨w.heap.size, 0, m, [], [], (0, 0), by simp, by simp, rfl, by simp, by simp, .inl rfl⟩) (hS.new _))
  intro a ha d pos af g
  simp only [execOp, ev_sound ha hx, ev_sound ha hy]
  have hg : ¬ ((decide ((m : Int) < 0) || decide ((i.bytes : Int) * (m : Int) > 2 ^ 48)) || decide ((m : Int) < 0) || decide ((m : Int) > (m : Int))) = true := by
    have h4 : i.bytes * m ≤ 256 * 1099511627776 := Nat.mul_le_mul (by omega) hm
    have h5 : ((i.bytes * m : Nat) : Int) ≤ 281474976710656 := by omega
    rw [Int.natCast_mul] at h5
    have h6 : ¬ (i.bytes : Int) * (m : Int) > 2 ^ 48 := by
      have : (2 : Int) ^ 48 = 281474976710656 := by decide
      omega
    simp [h6]
    omega
  have hr : (Instr.makeSlice U (.int k m) (.int k m)).run P w = .ok (.slice (some ⟨w.heap.size, 0, none⟩) m m) (World.with w (.cells ((List.replicate m x0).flatMap A.f).toArray e)) := by
    unfold Instr.makeSlice
    rw [run_und hU]
    simp only
    rw [Sem.run_bind_ok' (a := (m : Int)) (w' := w) rfl, Sem.run_bind_ok' (a := (m : Int)) (w' := w) rfl, run_typeInfo hi]
    simp only [hw]
    rw [if_neg hg]
    rw [run_askRoom, run_sizeOf hk]
    simp only [Int.toNat_natCast]
    by_cases h0 : m * A.k = 0
    · simp only [h0, if_true]
      rw [Sem.run_bind_ok' (a := #[]) (w' := w) rfl]
      have e0 : ((List.replicate m x0).flatMap A.f) = [] := by
        apply List.eq_nil_of_length_eq_zero
        rw [A.flat_len, List.length_replicate]; exact h0
      rw [e0]
      have e1 : (Array.range 0) = #[] := Array.eq_empty_of_size_eq_zero (by simp)
      simp [newRow, newObj, Bind.bind, Sem.bind, Pure.pure, Sem.run, World.with, e1]
    · simp only [h0, if_false]
      rw [run_zero hz, Sem.run_bind_ok' (a := z.cells) (w' := w) rfl, hrow]
      simp [newRow, newObj, Bind.bind, Sem.bind, Pure.pure, Sem.run, World.with]
  exact (Sem.run_bind_ok' hr).trans rfl
theorem St.immc {b j : Nat} {cs : Array Value} {fz : Nat × Nat} {vs : List Value} (hS : St M w Ls) (hM : M b = some (.cells cs T fz)) (h : (cs.toList.drop j).take vs.length = vs) : CellsAt w b j vs := by
  intro i v hi
  rw [cell_of (hS.imm b _ hM)]
  rw [← h, List.getElem?_take] at hi
  split at hi
  · rw [List.getElem?_drop] at hi; simpa using hi
  · cases hi
theorem natshr64 (a k : Nat) (hk : k ≤ 64) : ((a : Int)).fdiv (2 ^ (min ((k : Int)).toNat IntKind.u64.bits)) = ((a / 2 ^ k : Nat) : Int) := by
  have e : min ((k : Int)).toNat IntKind.u64.bits = k := by
    show min k 64 = k; omega
  rw [e, Int.fdiv_eq_ediv_of_nonneg _ (by have : (0:Int) < 2 ^ k := Int.pow_pos (by decide); omega)]
  simp
theorem natwrap64 (a : Nat) (h : a < 18446744073709551616) : IntKind.u64.wrap (a : Int) = (a : Int) := wnat rfl h
theorem nator64 (a b i c : Nat) (ha : a < 2 ^ i) (hb : b = 2 ^ i * c) (h : a + b < 18446744073709551616) : IntKind.u64.wrap ((BitVec.ofInt IntKind.u64.bits (a : Int) ||| BitVec.ofInt IntKind.u64.bits (b : Int)).toNat : Int) = ((a + b : Nat) : Int) := by
  have e1 : (BitVec.ofInt IntKind.u64.bits (a : Int)).toNat = a := by
    show (BitVec.ofInt 64 (a : Int)).toNat = a
    simp [BitVec.toNat_ofInt]; omega
  have e2 : (BitVec.ofInt IntKind.u64.bits (b : Int)).toNat = b := by
    show (BitVec.ofInt 64 (b : Int)).toNat = b
    simp [BitVec.toNat_ofInt]; omega
  rw [BitVec.toNat_or, e1, e2]
  have e3 : a ||| b = a + b := by
    rw [hb, Nat.or_comm, ← Nat.two_pow_add_eq_or_of_lt ha, Nat.add_comm]
  rw [e3]
  exact natwrap64 _ h
theorem Own.addr {e : TypeId} {a : Option Addr} {m c : Nat} {xs : List α} {H : Chunk} (h : Own e A (.slice a m c) xs H) : a = Option.none ∨ ∃ b o, a = some ⟨b, o, Option.none⟩ := by
  rcases h with ⟨h1, _, _⟩ | ⟨b, off, cap, pre, sp, fz, h1, _⟩
  · simp only [Value.slice.injEq] at h1; exact .inl h1.1
  · simp only [Value.slice.injEq] at h1; exact .inr ⟨b, off, h1.1⟩
theorem Own.cut {e : TypeId} {a : Option Addr} {m c : Nat} {xs : List α} {H : Chunk} (h : Own e A (.slice a m c) xs H) : Own e A (.slice a m m) xs H := by
  rcases h with ⟨h1, rfl, rfl⟩ | ⟨b, off, cap, pre, sp, fz, h1, rfl, h2, h3, h4, h5⟩
  · simp only [Value.slice.injEq] at h1
    obtain ⟨rfl, rfl, rfl⟩ := h1
    exact .inl ⟨rfl, rfl, rfl⟩
  · simp only [Value.slice.injEq] at h1
    obtain ⟨rfl, rfl, rfl⟩ := h1
    refine .inr ⟨b, off, _, pre, sp, fz, rfl, rfl, h2, Nat.le_refl _, by simp, h5.imp id fun h => ?_⟩
    have : xs.length * A.k ≤ c * A.k := Nat.mul_le_mul_right _ h3
    omega
theorem y_slCap {x h1 h2 : Operand} {a : Option Addr} {m c size : Nat} {k k' : IntKind} {i j : Int} {U e : TypeId} (hU : P.underlying U = some (.slice e)) (he : Size P e size) (ha : a = none ∨ ∃ b o, a = some ⟨b, o, none⟩) (hx : ev E x = some (.slice a m c)) (hh : ev E h1 = some (.int k i)) (hm : ev E h2 = some (.int k' j)) (h0 : 0 ≤ i) (hi : i.toNat = m) (g0 : 0 ≤ j) (gi : j.toNat = m) (hc : m ≤ c) :
    Y P E (.slice U x none (some h1) (some h2)) T w (.slice a m m) w := by
  have := y_sl (P := P) (E := E) (T := T) (w := w) (lo := none) (hi := some h1) (mx := some h2) (lv := 0) (hv := m) (mv := m) hU he hx ⟨k', j, hm, g0, gi, hc⟩ ⟨k, i, hh, h0, hi, Nat.le_refl _⟩ rfl
  rcases ha with rfl | ⟨b, o, rfl⟩
  · unfold cutV at this
    simpa using this
  · rwa [cutV_0] at this
theorem y_slTo' {x h : Operand} {a : Option Addr} {m c size hv : Nat} {k : IntKind} {i : Int} {U e : TypeId} (hU : P.underlying U = some (.slice e)) (he : Size P e size) (ha : a = none ∨ ∃ b o, a = some ⟨b, o, none⟩) (hx : ev E x = some (.slice a m c)) (hh : ev E h = some (.int k i)) (h0 : 0 ≤ i) (h1 : i.toNat = hv) (h2 : hv ≤ c) :
    Y P E (.slice U x none (some h) none) T w (.slice a hv c) w := by
  have := y_sl (P := P) (E := E) (T := T) (w := w) (lo := none) (hi := some h) (mx := none) (lv := 0) (hv := hv) (mv := c) hU he hx rfl ⟨k, i, hh, h0, h1, h2⟩ rfl
  rcases ha with rfl | ⟨b, o, rfl⟩
  · unfold cutV at this
    simpa using this
  · rwa [cutV_0] at this
theorem a_clear_head {e U : TypeId} {x : Operand} {a : Option Addr} {m c c' r : Nat} {xs : List α} {x0 : α} {H : Chunk} {z : Value} (hU : P.underlying U = some (.slice e)) (hz : Zero P e z) (hzc : z.cells.toList = A.f x0)
    (hx : ev E x = some (.slice a r c')) (ho : Own e A (.slice a m c) xs H) (hr : r ≤ xs.length) (hS : St M w Ls) [Pull Ls H Ls']
    (h : ∀ H' w', Own e A (.slice a m c) (List.replicate r x0 ++ xs.drop r) H' → St M w' (H' :: Ls') → WL P n ops KE l E w') :
    WL P n ops KE (⟨none, .call ⟨.builtin .clear, #[x], #[U]⟩, T, pos, af, none⟩ :: l) E w := by
  have hcall : ∀ {w' : World}, (Builtin.clear_ #[U] T #[.slice a r c']).run P w = .ok (.tuple #[]) w' → Y P E (.call ⟨.builtin .clear, #[x], #[U]⟩) T w (.tuple #[]) w' := by
    intro w' h ac ha d pos af g
    simp only [execOp, resolve, invoke, Bind.bind, Pure.pure, Sem.bind, builtin]
    have e0 : (#[x].map ac.eval) = #[.slice a r c'] := by simp [ev_sound ha hx]
    rw [e0]
    exact (Sem.run_bind_ok' h).trans rfl
  by_cases hr0 : r = 0
  · subst hr0
    refine wln (hcall (w' := w) ?_) (h H w (by simpa using ho) (hS.pull H))
    unfold Builtin.clear_
    simp only [List.getElem?_toArray, List.getElem?_cons_zero]
    rw [run_und hU]
    cases a <;> rfl
  · rcases ho with ⟨h1, rfl, rfl⟩ | ⟨b, off, cap, pre, sp, fz, h1, rfl, rfl, h3, h4, h5⟩
    · simp at hr; omega
    simp only [Value.slice.injEq] at h1
    obtain ⟨rfl, rfl, rfl⟩ := h1
    have hS' := hS.pull [(b, .cells (pre ++ xs.flatMap A.f ++ sp).toArray e fz)]
    have hlen : (z.cells).size = A.k := by rw [← Array.length_toList, hzc, A.len]
    have hrow : (Builtin.zeroCells z.cells r).toList = (List.replicate r x0).flatMap A.f := by
      apply List.ext_getElem?
      intro j
      simp only [Builtin.zeroCells, Array.toList_map, Array.toList_range, List.getElem?_map, hlen]
      by_cases hj : j < r * A.k
      · have hkp : 0 < A.k := by
          rcases Nat.eq_zero_or_pos A.k with h | h
          · rw [h] at hj; simp at hj
          · exact h
        have hdiv : j / A.k < r := (Nat.div_lt_iff_lt_mul hkp).2 hj
        have hmod : j % A.k < A.k := Nat.mod_lt _ hkp
        have hc : (A.f x0)[j % A.k]? = some z.cells[j % A.k]! := by
          rw [← hzc, getElem!_pos z.cells _ (by rw [hlen]; exact hmod)]
          simp [hlen, hmod]
        have := A.flat_at (List.replicate r x0) (j / A.k) x0 (j % A.k) _ (by simp [hdiv]) hc
        rw [Nat.mul_comm, Nat.div_add_mod] at this
        rw [List.getElem?_range hj]
        simp [this]
      · rw [List.getElem?_eq_none (by simp; omega), List.getElem?_eq_none (by rw [A.flat_len, List.length_replicate]; omega)]
        rfl
    have hfl : ((List.replicate r x0).flatMap A.f).length = r * A.k := by rw [A.flat_len, List.length_replicate]
    have hrk : r * A.k ≤ xs.length * A.k := Nat.mul_le_mul_right _ hr
    have hck : xs.length * A.k ≤ c * A.k := Nat.mul_le_mul_right _ h3
    obtain ⟨w', e1, e2, e3⟩ := storeCells_run (P := P) (j := pre.length) (vs := (Builtin.zeroCells z.cells r).toList) (i := 0) (hS'.has (b := b)) (by rw [hrow]; exact A.flat_one _)
      (by rw [hrow, hfl]; simp only [List.size_toArray, List.length_append, A.flat_len]; omega)
      (by
        intro i' hi'
        rw [hrow, hfl] at hi'
        rcases h5 with h5 | h5
        · subst h5; simp
        · omega)
    have hnew : setCells (pre ++ xs.flatMap A.f ++ sp).toArray pre.length ((List.replicate r x0).flatMap A.f) = (pre ++ (List.replicate r x0 ++ xs.drop r).flatMap A.f ++ sp).toArray := by
      have := setCells_mid pre ((xs.take r).flatMap A.f) ((xs.drop r).flatMap A.f ++ sp) ((List.replicate r x0).flatMap A.f) (by rw [A.flat_len, A.flat_len, List.length_take, List.length_replicate]; congr 1; omega)
      rw [List.flatMap_append]
      rw [show pre ++ xs.flatMap A.f ++ sp = pre ++ (xs.take r).flatMap A.f ++ ((xs.drop r).flatMap A.f ++ sp) from by rw [A.flat_split xs r]; simp]
      rw [this]; simp
    rw [hrow, Nat.add_zero, hnew] at e2
    have hll : (List.replicate r x0 ++ xs.drop r).length = xs.length := by simp; omega
    refine wln (hcall (w' := w') ?_) (h [(b, .cells (pre ++ (List.replicate r x0 ++ xs.drop r).flatMap A.f ++ sp).toArray e fz)] w' (.inr ⟨b, pre.length, c, pre, sp, fz, by rw [hll], rfl, rfl, by rw [hll]; exact h3, by rw [hll]; exact h4, h5⟩) (hS'.upd (b := b) w' e2 e3))
    obtain ⟨r', rfl⟩ : ∃ r', r = r' + 1 := ⟨r - 1, by omega⟩
    unfold Builtin.clear_
    simp only [List.getElem?_toArray, List.getElem?_cons_zero]
    rw [run_und hU]
    simp only
    rw [run_zero hz]
    exact (Sem.run_bind_ok' e1).trans rfl
end
section
variable {P : Program} {ops : Array Oper} {n : Nat} {S : World → Prop} {ds : List Nat} {KE : Env → World → Prop} {fuel : Nat} {l : Array Bool} {E : Env} {w : World}
theorem yielded_undef {a : Act} {j s : Nat} (ha : has a E) (hj : (ops[j]?).bind (·.dst) = some s) (ht : Env.get E s = some undef) : yielded ops a.tmps j = none := by
  unfold yielded
  rw [hj]
  have h := ha s _ ht
  simp only [Array.getD_eq_getD_getElem?] at h
  cases hs : a.tmps[s]? with
  | none => simp [hs]
  | some u => rw [hs] at h; simp at h; subst h; simp [hs, undef]
theorem dr_offU {i d j s : Nat} {t : Bool} {op : Op} {T : TypeId} {pos : String} {af : Array Edge} (l' : Array Bool) (hi : ops[i]? = some ⟨some d, op, T, pos, af, some (j, t)⟩) (hd : Nat.blt d n = true)
    (hc : takeB ops ds false l l' i = true) (hj : (ops[j]?).bind (·.dst) = some s) (ht : Env.get E s = some undef)
    (h : DR P n ops S ds KE fuel l' ((d, undef) :: E) w) : DR P n ops S ds KE (fuel + 1) l E w :=
  dr_take (R := fun _ => True) l' hi hd hc (.inr fun _ => trivial) (fun a ha => .inr ⟨by simp [Region.wanted, yielded_undef ha hj ht], rfl⟩) h
end
section
variable {M : Mem} {w : World} {Ls Ls' L1 : List Chunk} {A B : Chunk} {x : Nat × Obj}
instance (priority := 40) Pull.app [h1 : Pull Ls A L1] [h2 : Pull L1 B Ls'] : Pull Ls (A ++ B) Ls' := ⟨by
  refine h1.perm.trans ?_
  rw [List.append_assoc]
  exact List.Perm.append_left A h2.perm⟩
theorem St.un2 (h : St M w ((x :: (A ++ B)) :: Ls)) : St M w ([x] :: A :: B :: Ls) := h.perm (by simp)
end
end Go.Proofs.YtndahppmjdbifaaGreatDoor.Eng
set_option linter.unusedVariables false
set_option linter.unusedSimpArgs false
namespace Go.Proofs.YtndahppmjdbifaaGreatDoor.Eng
open Go
section
variable {β : Type}
def kvGet (k : ByteArray) : List (ByteArray × β) → Option β
  | [] => none
  | (a, x) :: l => if k = a then some x else kvGet k l
def kvSet (k : ByteArray) (x : β) : List (ByteArray × β) → List (ByteArray × β)
  | [] => [(k, x)]
  | (a, y) :: l => if k = a then (k, x) :: l else (a, y) :: kvSet k x l
def kvDel (k : ByteArray) : List (ByteArray × β) → List (ByteArray × β)
  | [] => []
  | (a, y) :: l => if k = a then l else (a, y) :: kvDel k l
inductive MapRep (f : β → Value) : List MapEntry → List (ByteArray × β) → Prop
  | nil : MapRep f [] []
  | cons {e : MapEntry} {k : ByteArray} {x : β} {es : List MapEntry} {kv : List (ByteArray × β)} : e.key = .string k → e.val = f x → MapRep f es kv → MapRep f (e :: es) ((k, x) :: kv)
theorem MapRep.len {f : β → Value} {es : List MapEntry} {kv : List (ByteArray × β)} (h : MapRep f es kv) : es.length = kv.length := by
  induction h with
  | nil => rfl
  | cons _ _ _ ih => simp [ih]
theorem bab_refl (k : ByteArray) : (k == k) = true := by
  show (k.data == k.data) = true
  simp
theorem bab_ne {k a : ByteArray} (h : ¬ k = a) : (k == a) = false := by
  show (k.data == a.data) = false
  rw [beq_eq_false_iff_ne]
  intro e
  exact h (by cases k; cases a; simp at e; subst e; rfl)
theorem sameNow_str {k a : ByteArray} : Instr.sameNow .string (.string k) (.string a) = some (decide (k = a)) := by
  simp only [Instr.sameNow]
  by_cases h : k = a
  · subst h; rw [bab_refl]; simp
  · rw [bab_ne h, decide_eq_false h]
theorem MapRep.miss {f : β → Value} {es : List MapEntry} {kv : List (ByteArray × β)} (h : MapRep f es kv) {k : ByteArray} (hk : kvGet k kv = none) (i : Nat) :
    Instr.findNow .string (.string k) es i = some none ∧ (∀ y, kvSet k y kv = kv ++ [(k, y)]) ∧ kvDel k kv = kv := by
  induction h generalizing i with
  | nil => exact ⟨rfl, fun _ => rfl, rfl⟩
  | @cons e a x es kv hke hv _ ih =>
    simp only [kvGet] at hk
    by_cases hc : k = a
    · rw [if_pos hc] at hk; cases hk
    · rw [if_neg hc] at hk
      obtain ⟨h1, h2, h3⟩ := ih hk (i + 1)
      refine ⟨?_, fun y => ?_, ?_⟩
      · unfold Instr.findNow
        rw [hke, sameNow_str, decide_eq_false hc]
        exact h1
      · simp only [kvSet, if_neg hc, h2 y, List.cons_append]
      · simp only [kvDel, if_neg hc, h3]
theorem MapRep.hit {f : β → Value} {es : List MapEntry} {kv : List (ByteArray × β)} (h : MapRep f es kv) {k : ByteArray} {x : β} (hk : kvGet k kv = some x) (i : Nat) :
    ∃ j e, Instr.findNow .string (.string k) es i = some (some (i + j, f x)) ∧ es[j]? = some e ∧ e.key = .string k ∧ (∀ y, MapRep f (es.modify j fun e => { e with key := .string k, val := f y }) (kvSet k y kv)) ∧ MapRep f (es.eraseIdx j) (kvDel k kv) := by
  induction h generalizing i with
  | nil => cases hk
  | @cons e a x' es kv hke hv ht ih =>
    simp only [kvGet] at hk
    by_cases hc : k = a
    · rw [if_pos hc] at hk
      cases hk
      subst hc
      refine ⟨0, e, ?_, rfl, hke, fun y => ?_, ?_⟩
      · unfold Instr.findNow
        rw [hke, sameNow_str, decide_eq_true rfl, hv]
        rfl
      · simp only [kvSet, if_true]
        exact .cons rfl rfl ht
      · simp only [kvDel, if_true]
        exact ht
    · rw [if_neg hc] at hk
      obtain ⟨j, e', h1, h2, h3, h4, h5⟩ := ih hk (i + 1)
      refine ⟨j + 1, e', ?_, h2, h3, fun y => ?_, ?_⟩
      · unfold Instr.findNow
        rw [hke, sameNow_str, decide_eq_false hc]
        simpa only [Nat.add_assoc, Nat.add_comm 1 j] using h1
      · simp only [kvSet, if_neg hc]
        exact .cons hke hv (h4 y)
      · simp only [kvDel, if_neg hc]
        exact .cons hke hv h5
theorem MapRep.push {f : β → Value} {es : List MapEntry} {kv : List (ByteArray × β)} (h : MapRep f es kv) (k : ByteArray) (y : β) (c : Nat) : MapRep f (es ++ [⟨.string k, f y, c⟩]) (kv ++ [(k, y)]) := by
  induction h with
  | nil => exact .cons rfl rfl .nil
  | cons h1 h2 _ ih => exact .cons h1 h2 ih
def IsMap (f : β → Value) (p : Nat) (kv : List (ByteArray × β)) (H : Chunk) : Prop := ∃ es clock, MapRep f es kv ∧ H = [(p, .map es.toArray clock)]
end
section
variable {β : Type} {f : β → Value} {P : Program} {n : Nat} {E : Env} {w w' : World} {T : TypeId} {v : Value} {M : Mem} {Ls Ls' : List Chunk} {pos : String} {af : Array Edge} {d : Nat} {l : List Oper} {ops : Array Oper} {KE : Env → World → Prop}
theorem a_mkmap {U : TypeId} (f : β → Value) (hS : St M w Ls) (hd : Nat.blt d n = true)
    (h : ∀ p H w', IsMap f p [] H → St M w' (H :: Ls) → WL P n ops KE l ((d, .map (some p)) :: E) w') : WL P n ops KE (⟨some d, .makeMap U none, T, pos, af, none⟩ :: l) E w := by
  refine wl (v := .map (some w.heap.size)) (w' := World.with w (.map #[] 0)) ?_ hd (h _ _ _ ⟨[], 0, .nil, rfl⟩ (hS.new _))
  intro a ha d pos af g
  simp [execOp, Instr.makeMap, newObj, Bind.bind, Sem.bind, Pure.pure, Sem.run, World.with]
theorem findKey_run {K : TypeId} {k : ByteArray} {es : List MapEntry} {r : Option (Nat × Value)} (hK : P.underlying K = some .string) (h : Instr.findNow .string (.string k) es 0 = some r) : (Instr.findKey K (.string k) es).run P w = .ok r w := by
  simp [Instr.findKey, underlying, program, Bind.bind, Sem.bind, Pure.pure, Sem.run, hK, h]
theorem checkKey_run {K : TypeId} {k : ByteArray} {b : Bool} (hK : P.underlying K = some .string) : (Instr.checkKey b 10000 K (.string k)).run P w = .ok () w := by
  rw [show (10000 : Nat) = 9999 + 1 from rfl]
  unfold Instr.checkKey
  simp only [underlying, program, Bind.bind, Sem.bind, Sem.run, hK]
  rfl
theorem y_mget {x y : Operand} {U K V : TypeId} {p : Nat} {k : ByteArray} {kv : List (ByteArray × β)} {H : Chunk} {z : Value} (hU : P.underlying U = some (.map K V)) (hK : P.underlying K = some .string) (hz : Zero P V z) (hx : ev E x = some (.map (some p))) (hy : ev E y = some (.string k))
    (hb : IsMap f p kv H) (hS : St M w Ls) [Pull Ls H Ls'] : Y P E (.lookup U x y false) T w (((kvGet k kv).map f).getD z) w := by
  obtain ⟨es, clock, hr, rfl⟩ := hb
  have hh : w.heap[p]? = some (.map es.toArray clock) := (hS.pull [(p, .map es.toArray clock)]).has
  obtain ⟨zi, hz1, hz2⟩ := hz
  intro a ha d pos af g
  simp only [execOp, ev_sound ha hx, ev_sound ha hy]
  refine (Sem.run_bind_ok' (a := ((kvGet k kv).map f).getD z) (w' := w) ?_).trans rfl
  simp only [Instr.lookup, underlying, program, getObj, Bind.bind, Sem.bind, Pure.pure, Sem.run, hU, hh]
  refine (Sem.run_bind_ok' (checkKey_run hK)).trans ?_
  cases hg : kvGet k kv with
  | none =>
    refine (Sem.run_bind_ok' (findKey_run hK (hr.miss hg 0).1)).trans ?_
    simp [zeroValue, typeInfo, program, Bind.bind, Sem.bind, Pure.pure, Sem.run, hz1, hz2]
  | some x =>
    obtain ⟨j, e, h1, _⟩ := hr.hit hg 0
    refine (Sem.run_bind_ok' (findKey_run hK h1)).trans ?_
    simp [Bind.bind, Sem.bind, Pure.pure, Sem.run]
theorem y_mgetH {x y : Operand} {U K V : TypeId} {p : Nat} {k : ByteArray} {kv : List (ByteArray × β)} {es : List MapEntry} {clock : Nat} {z : Value} (hU : P.underlying U = some (.map K V)) (hK : P.underlying K = some .string) (hz : Zero P V z) (hx : ev E x = some (.map (some p))) (hy : ev E y = some (.string k))
    (hr : MapRep f es kv) (hh : w.heap[p]? = some (.map es.toArray clock)) : Y P E (.lookup U x y false) T w (((kvGet k kv).map f).getD z) w := by
  obtain ⟨zi, hz1, hz2⟩ := hz
  intro a ha d pos af g
  simp only [execOp, ev_sound ha hx, ev_sound ha hy]
  refine (Sem.run_bind_ok' (a := ((kvGet k kv).map f).getD z) (w' := w) ?_).trans rfl
  simp only [Instr.lookup, underlying, program, getObj, Bind.bind, Sem.bind, Pure.pure, Sem.run, hU, hh]
  refine (Sem.run_bind_ok' (checkKey_run hK)).trans ?_
  cases hg : kvGet k kv with
  | none =>
    refine (Sem.run_bind_ok' (findKey_run hK (hr.miss hg 0).1)).trans ?_
    simp [zeroValue, typeInfo, program, Bind.bind, Sem.bind, Pure.pure, Sem.run, hz1, hz2]
  | some x =>
    obtain ⟨j, e, h1, _⟩ := hr.hit hg 0
    refine (Sem.run_bind_ok' (findKey_run hK h1)).trans ?_
    simp [Bind.bind, Sem.bind, Pure.pure, Sem.run]
theorem y_mlen {x : Operand} {U K V : TypeId} {p : Nat} {kv : List (ByteArray × β)} {H : Chunk} (hU : P.underlying U = some (.map K V)) (hx : ev E x = some (.map (some p)))
    (hb : IsMap f p kv H) (hS : St M w Ls) [Pull Ls H Ls'] : Y P E (.call ⟨.builtin .len, #[x], #[U]⟩) T w (.int .i64 kv.length) w := by
  obtain ⟨es, clock, hr, rfl⟩ := hb
  have hh : w.heap[p]? = some (.map es.toArray clock) := (hS.pull [(p, .map es.toArray clock)]).has
  intro c ha d pos af g
  simp [execOp, Bind.bind, Sem.bind, Pure.pure, Sem.run, resolve, invoke, builtin, Builtin.len_, underlying, program, goInt, getObj, ev_sound ha hx, hU, hh, hr.len]
theorem setMap_run {p : Nat} {es es' : Array MapEntry} {c c' : Nat} {X : List Chunk} (hS : St M w ([(p, .map es c)] :: X)) :
    ∃ w', (setObj p (.map es' c')).run P w = .ok () w' ∧ St M w' ([(p, .map es' c')] :: X) := by
  have hh : w.heap[p]? = some (.map es c) := hS.has
  refine ⟨{ w with heap := w.heap.setIfInBounds p (.map es' c') }, ?_, ?_⟩
  · simp [setObj, Sem.run, hh]
  · refine St.upd (b := p) (o := .map es' c') (Ls := [(p, .map es c)] :: X) hS _ ?_ ⟨fun c hc => ?_, rfl, rfl, rfl⟩
    · obtain ⟨hlt, _⟩ := Array.getElem?_eq_some_iff.1 hh
      simp [hlt]
    · simp only []
      rw [Array.getElem?_setIfInBounds_ne (by omega)]
theorem x_mset {x y u : Operand} {U K V : TypeId} {p : Nat} {k : ByteArray} {kv : List (ByteArray × β)} {H : Chunk} {val : β} {ins : Bool} (hU : P.underlying U = some (.map K V)) (hK : P.underlying K = some .string) (hx : ev E x = some (.map (some p))) (hy : ev E y = some (.string k)) (hu : ev E u = some (f val))
    (hb : IsMap f p kv H) {X : List Chunk} (hS : St M w (H :: X)) :
    ∃ H' w', YS P E (if ins then .insert U x y u else .mapUpdate U x y u) T w w' ∧ IsMap f p (kvSet k val kv) H' ∧ St M w' (H' :: X) := by
  obtain ⟨es, clock, hr, rfl⟩ := hb
  have hh : w.heap[p]? = some (.map es.toArray clock) := hS.has
  cases hg : kvGet k kv with
  | none =>
    obtain ⟨h1, h2, _⟩ := hr.miss hg 0
    obtain ⟨w', e1, e2⟩ := setMap_run (P := P) (es' := (es ++ [(⟨.string k, f val, clock⟩ : MapEntry)]).toArray) (c' := clock + 1) hS
    refine ⟨_, w', ?_, ⟨_, _, by rw [h2 val]; exact hr.push k val clock, rfl⟩, e2⟩
    · intro a ha d pos af g
      have key : (Instr.mapUpdate U (.map (some p)) (.string k) (f val)).run P w = .ok () w' := by
        simp only [Instr.mapUpdate, underlying, program, getObj, Bind.bind, Sem.bind, Pure.pure, Sem.run, hU, hh]
        refine (Sem.run_bind_ok' (checkKey_run hK)).trans ?_
        refine (Sem.run_bind_ok' (findKey_run hK h1)).trans ?_
        simpa using e1
      cases ins <;> simp only [Bool.false_eq_true, if_false, if_true, execOp, ev_sound ha hx, ev_sound ha hy, ev_sound ha hu] <;> exact (Sem.run_bind_ok' key).trans rfl
  | some x0 =>
    obtain ⟨j, e, h1, h2, h3, h4, _⟩ := hr.hit hg 0
    obtain ⟨w', e1, e2⟩ := setMap_run (P := P) (es' := (es.modify j fun e => { e with key := .string k, val := f val }).toArray) (c' := clock) hS
    refine ⟨_, w', ?_, ⟨_, _, h4 val, rfl⟩, e2⟩
    intro a ha d pos af g
    have hkey : (((es.toArray[0 + j]?).map (·.key)).getD (.string k)) = .string k := by simp [h2, h3]
    have hsb : Instr.sameBits 10000 (.string k) (.string k) = true := by
      rw [show (10000 : Nat) = 9999 + 1 from rfl]
      simp only [Instr.sameBits, bab_refl]
    have key : (Instr.mapUpdate U (.map (some p)) (.string k) (f val)).run P w = .ok () w' := by
      simp only [Instr.mapUpdate, underlying, program, getObj, Bind.bind, Sem.bind, Pure.pure, Sem.run, hU, hh]
      refine (Sem.run_bind_ok' (checkKey_run hK)).trans ?_
      refine (Sem.run_bind_ok' (findKey_run hK h1)).trans ?_
      simp only [Nat.zero_add] at hkey
      simp only [Nat.zero_add, hkey, Instr.keyThatStays, hsb, if_true, Pure.pure, Sem.bind]
      simpa using e1
    cases ins <;> simp only [Bool.false_eq_true, if_false, if_true, execOp, ev_sound ha hx, ev_sound ha hy, ev_sound ha hu] <;> exact (Sem.run_bind_ok' key).trans rfl
theorem a_mset {x y u : Operand} {U K V : TypeId} {p : Nat} {k : ByteArray} {kv : List (ByteArray × β)} {H : Chunk} {val : β} (hU : P.underlying U = some (.map K V)) (hK : P.underlying K = some .string) (hx : ev E x = some (.map (some p))) (hy : ev E y = some (.string k)) (hu : ev E u = some (f val))
    (hb : IsMap f p kv H) (hS : St M w Ls) [Pull Ls H Ls'] (h : ∀ H' w', IsMap f p (kvSet k val kv) H' → St M w' (H' :: Ls') → WL P n ops KE l E w') : WL P n ops KE (⟨none, .mapUpdate U x y u, T, pos, af, none⟩ :: l) E w := by
  obtain ⟨H', w', e1, e2, e3⟩ := x_mset (T := T) (ins := false) hU hK hx hy hu hb (hS.pull H)
  exact wls e1 (h H' w' e2 e3)
theorem x_mdel {x y : Operand} {U K V S : TypeId} {p : Nat} {k : ByteArray} {kv : List (ByteArray × β)} {H : Chunk} (hU : P.underlying U = some (.map K V)) (hK : P.underlying K = some .string) (hx : ev E x = some (.map (some p))) (hy : ev E y = some (.string k))
    (hb : IsMap f p kv H) {X : List Chunk} (hS : St M w (H :: X)) :
    ∃ H' w', Y P E (.call ⟨.builtin .delete, #[x, y], #[U, S]⟩) T w (.tuple #[]) w' ∧ IsMap f p (kvDel k kv) H' ∧ St M w' (H' :: X) := by
  obtain ⟨es, clock, hr, rfl⟩ := hb
  have hh : w.heap[p]? = some (.map es.toArray clock) := hS.has
  have fin : ∀ {es' : Array MapEntry} {r : Option (Nat × Value)} {w' : World}, Instr.findNow .string (.string k) es 0 = some r → (setObj p (.map es' clock)).run P w = .ok () w' → (match r with | some (i, _) => es.toArray.eraseIdxIfInBounds i | none => es.toArray) = es' → Y P E (.call ⟨.builtin .delete, #[x, y], #[U, S]⟩) T w (.tuple #[]) w' := by
    intro es' r w' h1 h2 h3 a ha d pos af g
    have key : (Builtin.delete_ #[U, S] T #[.map (some p), .string k]).run P w = .ok (.tuple #[]) w' := by
      simp only [Builtin.delete_, underlying, program, getObj, Bind.bind, Sem.bind, Pure.pure, Sem.run, List.getElem?_toArray, List.getElem?_cons_zero, List.getElem?_cons_succ, hU, hh]
      refine (Sem.run_bind_ok' (checkKey_run hK)).trans ?_
      refine (Sem.run_bind_ok' (findKey_run hK h1)).trans ?_
      subst h3
      cases r with
      | none => exact (Sem.run_bind_ok' h2).trans rfl
      | some q => exact (Sem.run_bind_ok' h2).trans rfl
    simp only [execOp, resolve, invoke, builtin, Bind.bind, Pure.pure, Sem.bind, List.map_toArray, List.map_cons, List.map_nil, ev_sound ha hx, ev_sound ha hy]
    exact (Sem.run_bind_ok' key).trans rfl
  cases hg : kvGet k kv with
  | none =>
    obtain ⟨h1, _, h3⟩ := hr.miss hg 0
    obtain ⟨w', e1, e2⟩ := setMap_run (P := P) (es' := es.toArray) (c' := clock) hS
    exact ⟨_, w', fin h1 e1 rfl, ⟨_, _, by rw [h3]; exact hr, rfl⟩, e2⟩
  | some x0 =>
    obtain ⟨j, e, h1, h2, h3, _, h5⟩ := hr.hit hg 0
    obtain ⟨w', e1, e2⟩ := setMap_run (P := P) (es' := (es.eraseIdx j).toArray) (c' := clock) hS
    refine ⟨_, w', fin h1 e1 ?_, ⟨_, _, h5, rfl⟩, e2⟩
    obtain ⟨hlt, _⟩ := List.getElem?_eq_some_iff.1 h2
    simp [Array.eraseIdxIfInBounds, hlt]
theorem a_mdel {x y : Operand} {U K V S : TypeId} {p : Nat} {k : ByteArray} {kv : List (ByteArray × β)} {H : Chunk} (hU : P.underlying U = some (.map K V)) (hK : P.underlying K = some .string) (hx : ev E x = some (.map (some p))) (hy : ev E y = some (.string k))
    (hb : IsMap f p kv H) (hS : St M w Ls) [Pull Ls H Ls'] (h : ∀ H' w', IsMap f p (kvDel k kv) H' → St M w' (H' :: Ls') → WL P n ops KE l E w') : WL P n ops KE (⟨none, .call ⟨.builtin .delete, #[x, y], #[U, S]⟩, T, pos, af, none⟩ :: l) E w := by
  obtain ⟨H', w', e1, e2, e3⟩ := x_mdel (T := T) (S := S) hU hK hx hy hb (hS.pull H)
  exact wln e1 (h H' w' e2 e3)
end
section
variable {P : Program} {n : Nat} {ops : Array Oper} {S : World → Prop} {ds : List Nat} {KE : Env → World → Prop} {E : Env} {w w' : World} {l l' : Array Bool} {fuel : Nat}
theorem dr_one {i : Nat} {o : Oper} (hi : ops[i]? = some o) {a : Act} (hn : Ok n a) (ha : has a E)
    (h : WL P n ops (fun E' w' => (i ∉ ds → S w → S w') ∧ DR P n ops S ds KE fuel (l.setIfInBounds i true) E' w') [o] E w) :
    wpOp P ops (PostN n KE) i (fun a' w' => (i ∉ ds → S w → S w') ∧ wpD P ops (PostN n KE) S ds fuel (l.setIfInBounds i true) a' w') a w := by
  have h2 := h a hn ha
  simp only [wpList] at h2
  unfold wpOp
  simp only [hi]
  have post : ∀ a' w', PostN n (fun E' w' => (i ∉ ds → S w → S w') ∧ DR P n ops S ds KE fuel (l.setIfInBounds i true) E' w') .normal a' w' → ((i ∉ ds → S w → S w') ∧ wpD P ops (PostN n KE) S ds fuel (l.setIfInBounds i true) a' w') := by
    intro a' w' hq
    obtain ⟨g1, E', g2, g3, g4⟩ := hq
    exact ⟨g3, g4 a' g1 g2⟩
  split at h2
  · rename_i hw
    rw [if_pos hw]
    rcases h2 with h2 | ⟨_, _, _, h2⟩
    · left
      refine Oper.wp_mono post ?_
      unfold Oper.wp at h2 ⊢
      generalize (execOp a.eval o).run P w = r at h2 ⊢
      cases r with
      | ok nx w' =>
        cases nx <;> simp only [Oper.upon] at h2 ⊢ <;> exact h2
      | halt x w' => cases x <;> simp only [Oper.upon] at h2 ⊢ <;> exact h2
    · exact h2.elim
  · rename_i hw
    rw [if_neg hw]
    exact post _ _ h2
theorem dr_do2 {i j : Nat} {o u : Oper} (l1 l2 : Array Bool) (hi : ops[i]? = some o) (hj : ops[j]? = some u) (hc : (Region.ready .any ops l == [i, j] && l.setIfInBounds i true == l1 && l.setIfInBounds j true == l2) = true)
    (h1 : WL P n ops (fun E' w' => (i ∉ ds → S w → S w') ∧ DR P n ops S ds KE fuel l1 E' w') [o] E w)
    (h2 : WL P n ops (fun E' w' => (j ∉ ds → S w → S w') ∧ DR P n ops S ds KE fuel l2 E' w') [u] E w) : DR P n ops S ds KE (fuel + 1) l E w := by
  intro a hn ha
  simp only [Bool.and_eq_true, beq_iff_eq] at hc
  obtain ⟨⟨hr, rfl⟩, rfl⟩ := hc
  refine ⟨fun h0 => (by rw [hr] at h0; cases h0), fun k hk => ?_⟩
  rw [hr] at hk
  simp only [List.mem_cons, List.not_mem_nil, or_false] at hk
  rcases hk with rfl | rfl
  · exact dr_one hi hn ha h1
  · exact dr_one hj hn ha h2
theorem DR.sub {E' : Env} (hs : Sub E' E) (h : DR P n ops S ds KE fuel l E' w) : DR P n ops S ds KE fuel l E w := fun a hn ha => h a hn (has_sub hs ha)
theorem dr_cases {s : Nat} {t : Bool} (hb : Env.get E s = some (.bool t)) (hT : t = true → DR P n ops S ds KE fuel l ((s, .bool true) :: E) w) (hF : t = false → DR P n ops S ds KE fuel l ((s, .bool false) :: E) w) : DR P n ops S ds KE fuel l E w := by
  cases t
  · exact DR.sub (sub_cons hb fun _ _ h => h) (hF rfl)
  · exact DR.sub (sub_cons hb fun _ _ h => h) (hT rfl)
end
end Go.Proofs.YtndahppmjdbifaaGreatDoor.Eng

namespace Go.Proofs.YtndahppmjdbifaaGreatDoor.Eng
theorem zZ : (∀ {p : Prop} [Decidable p], (decide p = true) = p) ∧ (∀ {p : Prop} [Decidable p], decide p = false ↔ ¬ p) ∧ (∀ b : Bool, ((!b) = true) = (b = false)) ∧ (∀ b : Bool, ((!b) = false) = (b = true)) ∧ ((!true) = false) ∧ ((!false) = true) ∧ (∀ {a b : Bool}, ((!a) = b) ↔ (a = !b)) :=
  ⟨fun {_} [_] => decide_eq_true_eq, fun {_} [_] => decide_eq_false_iff_not, Bool.not_eq_true', Bool.not_eq_false', Bool.not_true, Bool.not_false, fun {_ _} => Bool.not_eq_eq_eq_not⟩
theorem zL : (∀ {α : Type} (l : List α) (i : Nat) (a : α), l.toArray.setIfInBounds i a = (l.set i a).toArray) ∧ (∀ {α : Type} {x : α} {xs : List α} {a : α}, (x :: xs).set 0 a = a :: xs) ∧ (∀ {α : Type} {x : α} {xs : List α} {n : Nat} {a : α}, (x :: xs).set (n + 1) a = x :: xs.set n a) ∧ (∀ n : Nat, 0 + n = n) ∧ (∀ n : Nat, n + 0 = n) :=
  ⟨fun l i a => List.setIfInBounds_toArray l i a, fun {_ _ _ _} => List.set_cons_zero, fun {_ _ _ _ _} => List.set_cons_succ, Nat.zero_add, Nat.add_zero⟩
class Nice (t : Bool) (p q : outParam Prop) : Prop where
  ht : t = true → p
  hf : t = false → q
instance (priority := low) Nice.any {t : Bool} : Nice t (t = true) (t = false) := ⟨id, id⟩
instance Nice.dec {p : Prop} [Decidable p] : Nice (decide p) p (¬ p) := ⟨of_decide_eq_true, of_decide_eq_false⟩
instance Nice.not {b : Bool} {p q : Prop} [h : Nice b p q] : Nice (!b) q p := ⟨fun e => h.hf (by simpa using e), fun e => h.ht (by simpa using e)⟩
def lb (n k : Nat) : Array Bool := ((List.range n).map fun i => k.testBit i).toArray
theorem St.c {M : Mem} {w : World} {Ls : List Chunk} {b : Nat} {cs : Array Value} {T : TypeId} {fz : Nat × Nat} {v : Value} {j : Nat} (hS : St M w Ls) [Has Ls b (.cells cs T fz)] (h : cs[j]? = some v := by rfl) : w.cell? ⟨b, j, none⟩ = some v := hS.cell h
theorem subR {E' E : Env} (h : (E'.map fun p => Env.get E p.1) = (E'.map fun p => some p.2)) : Sub E' E := by
  induction E' with
  | nil => exact sub_nil
  | cons p l ih =>
    simp only [List.map_cons, List.cons.injEq] at h
    exact sub_cons h.1 (ih h.2)
section
variable {P : Program} {n : Nat} {ops : Array Oper} {K : Kont} {KE : Env → World → Prop} {E : Env} {w : World} {l : List Oper} {T : TypeId} {pos : String} {af : Array Edge} {d : Nat} {v : Value} {x : Operand}
theorem zM (h0 : (ev E x, Nat.blt d n) = (some v, true)) (h : WL P n ops KE l ((d, v) :: E) w) : WL P n ops KE (⟨some d, .move x, T, pos, af, none⟩ :: l) E w := wl (y_move (congrArg Prod.fst h0)) (congrArg Prod.snd h0) h
theorem zA (h0 : (ev E x, Nat.blt d n) = (some v, true)) (h : WL P n ops KE l ((d, v) :: E) w) : WL P n ops KE (⟨some d, .assign x, T, pos, af, none⟩ :: l) E w := wl (y_assign (congrArg Prod.fst h0)) (congrArg Prod.snd h0) h
theorem zN {ad : Addr} (h0 : (ev E x, Nat.blt d n) = (some (.pointer (some ad)), true)) (h : WL P n ops KE l ((d, .pointer (some ad)) :: E) w) : WL P n ops KE (⟨some d, .nilCheck x, T, pos, af, none⟩ :: l) E w := wl (y_nil (congrArg Prod.fst h0)) (congrArg Prod.snd h0) h
theorem zF {b j off sz : Nat} {U V : TypeId} {i : Nat} (hF : Fld P U i V off (sz + 1)) (h0 : (ev E x, Nat.blt d n) = (some (.pointer (some ⟨b, j, none⟩)), true)) (h : WL P n ops KE l ((d, .pointer (some ⟨b, j + off, none⟩)) :: E) w) : WL P n ops KE (⟨some d, .fieldAddr U x i, T, pos, af, none⟩ :: l) E w := wl (y_fld hF (congrArg Prod.fst h0)) (congrArg Prod.snd h0) h
theorem zX {a b : Value} {i : Nat} (h0 : (ev E x, [a, b][i]?, Nat.blt d n) = (some (.tuple [a, b].toArray), some v, true)) (h : WL P n ops KE l ((d, v) :: E) w) : WL P n ops KE (⟨some d, .extract x i, T, pos, af, none⟩ :: l) E w := wl (y_extract (vs := [a, b]) (congrArg Prod.fst h0) (congrArg (fun p => p.2.1) h0)) (congrArg (fun p => p.2.2) h0) h
theorem zY {vs : List Value} {i : Nat} (hx : ev E x = some (.tuple vs.toArray)) (hv : vs[i]? = some v) (hd : Nat.blt d n = true) (h : WL P n ops KE l ((d, v) :: E) w) : WL P n ops KE (⟨some d, .extract x i, T, pos, af, none⟩ :: l) E w := wl (y_extract hx hv) hd h
theorem zQ {x y : Code} (h : WC P n x (seqK K fun E w => WC P n y K E w) E w) : WC P n (.seq x y) K E w := wc_seq h
theorem zR {id : Nat} {l : List Oper} (h : WL P n l.toArray (K .normal) l E w) : WC P n (.region id l.toArray false) K E w := wc_region h
theorem zE {KE : Env → World → Prop} (h : KE E w) : WL P n ops KE [] E w := wl_nil h
theorem zK (h : K .normal E w) : WC P n .skip K E w := wc_skip h
theorem zB {c : Code} {id : Nat} (h : WC P n c (blockK K id) E w) : WC P n (.block id c) K E w := wc_block h
theorem zV (h : K .ret E w) : WC P n .ret K E w := wc_ret h
theorem zO {lo : List Oper} {op : Op} {j s : Nat} {want t : Bool} (h0 : ((ops[j]?).bind (·.dst), Env.get E s, t == want, Nat.blt d n) = (some s, some (.bool t), false, true)) (h : WL P n ops KE lo ((d, undef) :: E) w) : WL P n ops KE (⟨some d, op, T, pos, af, some (j, want)⟩ :: lo) E w := wl_off (congrArg Prod.fst h0) (congrArg (fun p => p.2.1) h0) (congrArg (fun p => p.2.2.1) h0) (congrArg (fun p => p.2.2.2) h0) h
theorem zI {lo : List Oper} {dst : Option Tmp} {op : Op} {j s : Nat} {want : Bool} (h0 : ((ops[j]?).bind (·.dst), Env.get E s) = (some s, some (.bool want))) (h : WL P n ops KE (⟨dst, op, T, pos, af, none⟩ :: lo) E w) : WL P n ops KE (⟨dst, op, T, pos, af, some (j, want)⟩ :: lo) E w := wl_on (congrArg Prod.fst h0) (congrArg Prod.snd h0) h
theorem z1 {t : Nat} {R : Value → World → Prop} (h : Env.get E t = some v) (hr : R v w) : retK P [.tmp t] R .ret E w := wret (.tmp h .nil) hr
theorem z2 {t s : Nat} {u : Value} {R : Value → World → Prop} (h : (Env.get E t, Env.get E s) = (some v, some u)) (hr : R (.tuple [v, u].toArray) w) : retK P [.tmp t, .tmp s] R .ret E w := wret (.tmp (congrArg Prod.fst h) (.tmp (congrArg Prod.snd h) .nil)) hr
theorem zIf {c : Operand} {x y : Code} {t : Bool} {p q : Prop} (hc : ev E c = some (.bool t)) [h : Nice t p q] (ht : p → WC P n x K E w) (hf : q → WC P n y K E w) : WC P n (.cond c x y) K E w := wc_if hc (fun e => ht (h.ht e)) fun e => hf (h.hf e)
theorem zCs {s : Nat} {x y : Code} {t : Bool} {p q : Prop} (hb : Env.get E s = some (.bool t)) [h : Nice t p q] (hT : p → WC P n x K ((s, .bool true) :: E) w) (hF : q → WC P n y K ((s, .bool false) :: E) w) : WC P n (.cond (.tmp s) x y) K E w := wc_case hb (fun e => hT (h.ht e)) fun e => hF (h.hf e)
theorem zWc {lo : List Oper} {s : Nat} {t : Bool} {p q : Prop} (hb : Env.get E s = some (.bool t)) [h : Nice t p q] (hT : p → WL P n ops KE lo ((s, .bool true) :: E) w) (hF : q → WL P n ops KE lo ((s, .bool false) :: E) w) : WL P n ops KE lo E w := wl_cases hb (fun e => hT (h.ht e)) fun e => hF (h.hf e)
variable {M : Mem} {Ls Ls' : List Chunk} {S : World → Prop} {ds : List Nat} {fuel : Nat}
theorem zDc {lb : Array Bool} {s : Nat} {t : Bool} {p q : Prop} (hb : Env.get E s = some (.bool t)) [h : Nice t p q] (hT : p → DR P n ops S ds KE fuel lb ((s, .bool true) :: E) w) (hF : q → DR P n ops S ds KE fuel lb ((s, .bool false) :: E) w) : DR P n ops S ds KE fuel lb E w := dr_cases hb (fun e => hT (h.ht e)) fun e => hF (h.hf e)
theorem zS {x y : Operand} {b j : Nat} {V U : TypeId} {cs : Array Value} (hk : Size P U 1) (h0 : (ev E x, ev E y, oneC v) = (some (.pointer (some ⟨b, j, none⟩)), some v, true))
    (hS : St M w Ls) [hh : Has Ls b (.cells cs V (0, 0))] [hu : Upd Ls b (.cells (cs.setIfInBounds j v) V (0, 0)) Ls']
    (h : ∀ w', St M w' Ls' → WL P n ops KE l E w') (hj : Nat.ble (j + 1) cs.size = true := by rfl) : WL P n ops KE (⟨none, .store U x y, T, pos, af, none⟩ :: l) E w := a_store hk (congrArg Prod.fst h0) (congrArg (fun p => p.2.1) h0) (congrArg (fun p => p.2.2) h0) hS (Nat.le_of_ble_eq_true hj) h
theorem zG {x y : Operand} {b j k : Nat} {V U : TypeId} {cs : Array Value} {vs : List Value} (hk : Size P U k) (h0 : (ev E x, ev E y, vs.all oneC, vs.length) = (some (.pointer (some ⟨b, j, none⟩)), some (.agg vs.toArray), true, k))
    (hS : St M w Ls) [hh : Has Ls b (.cells cs V (0, 0))] [hu : Upd Ls b (.cells (setCells cs j vs) V (0, 0)) Ls']
    (h : ∀ w', St M w' Ls' → WL P n ops KE l E w') (hj : Nat.ble (j + k) cs.size = true := by rfl) : WL P n ops KE (⟨none, .store U x y, T, pos, af, none⟩ :: l) E w := a_storeS (vs := vs) hk (congrArg Prod.fst h0) (congrArg (fun p => p.2.1) h0) (congrArg (fun p => p.2.2.1) h0) (congrArg (fun p => p.2.2.2) h0) hS (Nat.le_of_ble_eq_true hj) h
theorem zC {P : Program} {f : FuncId} {fn : Func} {c : Code} {args : List Value} {w : World} {R : Value → World → Prop} {rs : List ResultVar} (n : Nat) (hf : P.funcs[f]? = some fn)
    (h0 : (fn.body, fn.ntmps, fn.results, fn.name == "runtime.NumGoroutine", Nat.ble args.length n) = (some c, n, rs.toArray, false, true)) (h : WC P n c (retK P rs R) (argEnv 0 args) w) : CallsR P f args.toArray w R :=
  calls_of hf (congrArg Prod.fst h0) (congrArg (fun p => p.2.1) h0) (congrArg (fun p => p.2.2.1) h0) (congrArg (fun p => p.2.2.2.1) h0) (congrArg (fun p => p.2.2.2.2) h0) h
theorem zW {id m : Nat} (hS : St M w Ls) (S : World → Prop) (ds : List Nat) (hm : P.follows .mixedOrders = true) (h0 : (ops.size, Array.replicate m false) = (m, lb m 0))
    (h : ∀ w', St M w' Ls → DR P n ops S ds (K .normal) m (lb m 0) E w') : WC P n (.region id ops true) K E w := wc_draw S ds hm (congrArg Prod.fst h0) (congrArg Prod.snd h0) fun w' hw => h w' (hS.same hw)
theorem zP (i k' : Nat) {k m : Nat} {op : Op} (h0 : (ops[i]?, Nat.blt d n) = (some ⟨some d, op, T, pos, af, none⟩, true)) (hy : ∀ w, Y P E op T w v w) (h : DR P n ops S ds KE fuel (lb m k') ((d, v) :: E) w)
    (hc : takeB ops ds false (lb m k) (lb m k') i = true := by kernel_rfl) : DR P n ops S ds KE (fuel + 1) (lb m k) E w := dr_pure _ (congrArg Prod.fst h0) (congrArg Prod.snd h0) hc hy h
theorem zPm (i k' : Nat) {k m : Nat} (h0 : (ops[i]?, Nat.blt d n, ev E x) = (some ⟨some d, .move x, T, pos, af, none⟩, true, some v)) (h : DR P n ops S ds KE fuel (lb m k') ((d, v) :: E) w)
    (hc : takeB ops ds false (lb m k) (lb m k') i = true := by kernel_rfl) : DR P n ops S ds KE (fuel + 1) (lb m k) E w := dr_pure _ (congrArg Prod.fst h0) (congrArg (fun p => p.2.1) h0) hc (fun _ => y_move (congrArg (fun p => p.2.2) h0)) h
theorem zPa (i k' : Nat) {k m : Nat} (h0 : (ops[i]?, Nat.blt d n, ev E x) = (some ⟨some d, .assign x, T, pos, af, none⟩, true, some v)) (h : DR P n ops S ds KE fuel (lb m k') ((d, v) :: E) w)
    (hc : takeB ops ds false (lb m k) (lb m k') i = true := by kernel_rfl) : DR P n ops S ds KE (fuel + 1) (lb m k) E w := dr_pure _ (congrArg Prod.fst h0) (congrArg (fun p => p.2.1) h0) hc (fun _ => y_assign (congrArg (fun p => p.2.2) h0)) h
theorem zPn (i k' : Nat) {k m : Nat} {ad : Addr} (h0 : (ops[i]?, Nat.blt d n, ev E x) = (some ⟨some d, .nilCheck x, T, pos, af, none⟩, true, some (.pointer (some ad)))) (h : DR P n ops S ds KE fuel (lb m k') ((d, .pointer (some ad)) :: E) w)
    (hc : takeB ops ds false (lb m k) (lb m k') i = true := by kernel_rfl) : DR P n ops S ds KE (fuel + 1) (lb m k) E w := dr_pure _ (congrArg Prod.fst h0) (congrArg (fun p => p.2.1) h0) hc (fun _ => y_nil (congrArg (fun p => p.2.2) h0)) h
theorem zPf (i k' : Nat) {k m b j off sz : Nat} {U V : TypeId} {fi : Nat} (hF : Fld P U fi V off (sz + 1)) (h0 : (ops[i]?, Nat.blt d n, ev E x) = (some ⟨some d, .fieldAddr U x fi, T, pos, af, none⟩, true, some (.pointer (some ⟨b, j, none⟩)))) (h : DR P n ops S ds KE fuel (lb m k') ((d, .pointer (some ⟨b, j + off, none⟩)) :: E) w)
    (hc : takeB ops ds false (lb m k) (lb m k') i = true := by kernel_rfl) : DR P n ops S ds KE (fuel + 1) (lb m k) E w := dr_pure _ (congrArg Prod.fst h0) (congrArg (fun p => p.2.1) h0) hc (fun _ => y_fld hF (congrArg (fun p => p.2.2) h0)) h
theorem zPx (i k' : Nat) {k m : Nat} {a b : Value} {fi : Nat} (h0 : (ops[i]?, Nat.blt d n, ev E x, [a, b][fi]?) = (some ⟨some d, .extract x fi, T, pos, af, none⟩, true, some (.tuple [a, b].toArray), some v)) (h : DR P n ops S ds KE fuel (lb m k') ((d, v) :: E) w)
    (hc : takeB ops ds false (lb m k) (lb m k') i = true := by kernel_rfl) : DR P n ops S ds KE (fuel + 1) (lb m k) E w := dr_pure _ (congrArg Prod.fst h0) (congrArg (fun p => p.2.1) h0) hc (fun _ => y_extract (vs := [a, b]) (congrArg (fun p => p.2.2.1) h0) (congrArg (fun p => p.2.2.2) h0)) h
theorem zPG (i k' : Nat) {k m j s : Nat} {t : Bool} {op : Op} (h0 : (ops[i]?, Nat.blt d n, (ops[j]?).bind (·.dst), Env.get E s) = (some ⟨some d, op, T, pos, af, some (j, t)⟩, true, some s, some (.bool t))) (hy : ∀ w, Y P E op T w v w) (h : DR P n ops S ds KE fuel (lb m k') ((d, v) :: E) w)
    (hc : takeB ops ds false (lb m k) (lb m k') i = true := by kernel_rfl) : DR P n ops S ds KE (fuel + 1) (lb m k) E w := dr_pureG _ (congrArg Prod.fst h0) (congrArg (fun p => p.2.1) h0) hc (congrArg (fun p => p.2.2.1) h0) (congrArg (fun p => p.2.2.2) h0) hy h
theorem zDG (i k' : Nat) {k m j s : Nat} {t : Bool} {op : Op} (h0 : (ops[i]?, Nat.blt d n, (ops[j]?).bind (·.dst), Env.get E s) = (some ⟨some d, op, T, pos, af, some (j, t)⟩, true, some s, some (.bool t))) (hS : S w) (hy : ∀ w, S w → Y P E op T w v w) (h : DR P n ops S ds KE fuel (lb m k') ((d, v) :: E) w)
    (hc : takeB ops ds true (lb m k) (lb m k') i = true := by kernel_rfl) : DR P n ops S ds KE (fuel + 1) (lb m k) E w := dr_readG _ (congrArg Prod.fst h0) (congrArg (fun p => p.2.1) h0) hc (congrArg (fun p => p.2.2.1) h0) (congrArg (fun p => p.2.2.2) h0) hS hy h
theorem zDO (i k' : Nat) {k m j s : Nat} {t u : Bool} {op : Op} (h0 : (ops[i]?, Nat.blt d n, (ops[j]?).bind (·.dst), Env.get E s, u == t) = (some ⟨some d, op, T, pos, af, some (j, t)⟩, true, some s, some (.bool u), false)) (h : DR P n ops S ds KE fuel (lb m k') ((d, undef) :: E) w)
    (hc : takeB ops ds false (lb m k) (lb m k') i = true := by kernel_rfl) : DR P n ops S ds KE (fuel + 1) (lb m k) E w := dr_off _ (congrArg Prod.fst h0) (congrArg (fun p => p.2.1) h0) hc (congrArg (fun p => p.2.2.1) h0) (congrArg (fun p => p.2.2.2.1) h0) (congrArg (fun p => p.2.2.2.2) h0) h
theorem zD (i k' : Nat) {k m : Nat} {op : Op} (h0 : (ops[i]?, Nat.blt d n) = (some ⟨some d, op, T, pos, af, none⟩, true)) (hS : S w) (hy : ∀ w, S w → Y P E op T w v w) (h : DR P n ops S ds KE fuel (lb m k') ((d, v) :: E) w)
    (hc : takeB ops ds true (lb m k) (lb m k') i = true := by kernel_rfl) : DR P n ops S ds KE (fuel + 1) (lb m k) E w := dr_read _ (congrArg Prod.fst h0) (congrArg Prod.snd h0) hc hS hy h
theorem zH {l : Array Bool} (h : KE E w) (hr : (Region.ready .any ops l == []) = true := by kernel_rfl) : DR P n ops S ds KE fuel l E w := dr_done hr h
theorem zU (i k' : Nat) {k m : Nat} {o : Oper} (hi : ops[i]? = some o)
    (h : WL P n ops (fun E' w' => (i ∉ ds → S w → S w') ∧ DR P n ops S ds KE fuel (lb m k') E' w') [o] E w) (hc : (Region.ready .any ops (lb m k) == [i] && (lb m k).setIfInBounds i true == lb m k') = true := by kernel_rfl) : DR P n ops S ds KE (fuel + 1) (lb m k) E w := dr_do _ hi hc h
end
end Go.Proofs.YtndahppmjdbifaaGreatDoor.Eng

set_option linter.unusedVariables false
set_option linter.unusedSimpArgs false
namespace Go.Proofs.YtndahppmjdbifaaGreatDoor.Pre
open Go Go.Proofs Eng
def spell (n : Nat) : Nat := if n < 64 then 0 else if n < 16384 then 1 else if n < 1073741824 then 2 else if n < 4611686018427387904 then 3 else 4
def psize (n : Nat) : Nat := if n < 4611686018427387904 then 2 ^ spell n else 0
def pnum (n : Nat) : Nat := n + 2 ^ (8 * psize n - 2) * spell n
def be (n : Nat) : Nat → List UInt8
  | 0 => []
  | k + 1 => be (n / 256) k ++ [UInt8.ofNat n]
def pput (n : Nat) : List UInt8 := be (pnum n) (psize n)
def un (x : Nat) : List UInt8 → Nat
  | [] => x
  | c :: l => un (256 * x + c.toNat) l
def pget (b : List UInt8) : Nat × Nat × Nat :=
  match b with
  | [] => (0, 0, 2)
  | c :: l =>
    let size := 2 ^ (c.toNat / 64)
    if b.length < size then (0, 0, 2) else
    let n := un (c.toNat % 64) (l.take (size - 1))
    if psize n = size then (n, size, 0) else (0, 0, 3)
theorem be_length (n : Nat) : ∀ k, (be n k).length = k := by
  intro k
  induction k generalizing n with
  | zero => rfl
  | succ k ih => simp [be, ih]
theorem be_get (n : Nat) : ∀ (k i : Nat), i < k → (be n k)[i]? = some (UInt8.ofNat (n / 2 ^ (8 * (k - 1 - i)))) := by
  intro k
  induction k generalizing n with
  | zero => intro i h; omega
  | succ k ih =>
    intro i h
    simp only [be]
    by_cases hi : i < k
    · rw [List.getElem?_append_left (by rw [be_length]; exact hi), ih _ _ hi, Nat.div_div_eq_div_mul]
      congr 3
      rw [show (256 : Nat) = 2 ^ 8 from rfl, ← Nat.pow_add]
      congr 1; omega
    have : i = k := by omega
    subst this
    rw [List.getElem?_append_right (by rw [be_length]; omega), be_length]
    simp
theorem spell_lt (n : Nat) (h : n < 4611686018427387904) : spell n < 4 := by unfold spell; split <;> (try split) <;> (try split) <;> (try split) <;> omega
theorem spell_eq (n : Nat) (i : Nat) (hi : i < 4) (h0 : n < 2 ^ (8 * 2 ^ i - 2)) (h1 : ∀ j, j < i → 2 ^ (8 * 2 ^ j - 2) ≤ n) : spell n = i := by
  unfold spell
  rcases i with _ | _ | _ | _ | i
  · simp at h0; simp [h0]
  · have := h1 0 (by omega); simp at h0 this; rw [if_neg (by omega), if_pos (by omega)]
  · have a := h1 0 (by omega); have b := h1 1 (by omega); simp at h0 a b; rw [if_neg (by omega), if_neg (by omega), if_pos (by omega)]
  · have a := h1 0 (by omega); have b := h1 1 (by omega); have c := h1 2 (by omega); simp at h0 a b c; rw [if_neg (by omega), if_neg (by omega), if_neg (by omega), if_pos (by omega)]
  omega
theorem spell_4 (n : Nat) (h : 4611686018427387904 ≤ n) : spell n = 4 := by unfold spell; rw [if_neg (by omega), if_neg (by omega), if_neg (by omega), if_neg (by omega)]
theorem psize_le (n : Nat) : psize n ≤ 8 := by
  unfold psize
  split
  · rename_i h
    have := spell_lt n h
    have h3 : spell n ≤ 3 := by omega
    calc 2 ^ spell n ≤ 2 ^ 3 := Nat.pow_le_pow_right (by omega) h3
      _ = 8 := rfl
  omega
theorem pnum_bound (n : Nat) (h : n < 4611686018427387904) : n < 2 ^ (8 * psize n - 2) ∧ pnum n < 2 ^ (8 * psize n) := by
  unfold pnum psize
  rw [if_pos h]
  unfold spell
  split
  · simp; omega
  split
  · simp; omega
  split
  · simp; omega
  simp; omega
end Go.Proofs.YtndahppmjdbifaaGreatDoor.Pre
namespace Go.Proofs.YtndahppmjdbifaaGreatDoor.Eng
open Go Go.Proofs
theorem sz_2 : Size Tryz.prog 2 1 := size_of (by kernel_rfl)
theorem pl_2 : Plain Tryz.prog 2 := plain_of Tryz.underlying2 rfl
theorem sz_3 : Size Tryz.prog 3 1 := size_of (by kernel_rfl)
theorem pl_3 : Plain Tryz.prog 3 := plain_of Tryz.underlying3 rfl
theorem z_3 : Zero Tryz.prog 3 (.int .i64 0) := zero_of (by kernel_rfl)
theorem sz_4 : Size Tryz.prog 4 1 := size_of (by kernel_rfl)
theorem pl_4 : Plain Tryz.prog 4 := plain_of Tryz.underlying4 rfl
theorem sz_5 : Size Tryz.prog 5 1 := size_of (by kernel_rfl)
theorem pl_5 : Plain Tryz.prog 5 := plain_of Tryz.underlying5 rfl
theorem z_5 : Zero Tryz.prog 5 (.int .u8 0) := zero_of (by kernel_rfl)
theorem by_5 : Bytes Tryz.prog 5 1 := bytes_of (by kernel_rfl)
theorem sz_9 : Size Tryz.prog 9 1 := size_of (by kernel_rfl)
theorem pl_9 : Plain Tryz.prog 9 := plain_of Tryz.underlying9 rfl
theorem z_9 : Zero Tryz.prog 9 (.string ByteArray.empty) := zero_of (by kernel_rfl)
theorem by_9 : Bytes Tryz.prog 9 16 := bytes_of (by kernel_rfl)
theorem sz_23 : Size Tryz.prog 23 6 := size_of (by kernel_rfl)
theorem z_23 : Zero Tryz.prog 23 (.agg #[.int .i64 0, .int .i64 0, .int .i64 0, .int .i64 0, .int .i64 0, .int .i64 0]) := zero_of (by kernel_rfl)
theorem sz_30 : Size Tryz.prog 30 6 := size_of (by kernel_rfl)
theorem z_30 : Zero Tryz.prog 30 (.agg #[.int .i64 0, .int .i64 0, .int .i64 0, .int .i64 0, .int .i64 0, .int .i64 0]) := zero_of (by kernel_rfl)
theorem sz_32 : Size Tryz.prog 32 1 := size_of (by kernel_rfl)
theorem pl_32 : Plain Tryz.prog 32 := plain_of Tryz.underlying32 rfl
theorem sz_34 : Size Tryz.prog 34 1 := size_of (by kernel_rfl)
theorem pl_34 : Plain Tryz.prog 34 := plain_of Tryz.underlying34 rfl
theorem sz_40 : Size Tryz.prog 40 3 := size_of (by kernel_rfl)
theorem z_40 : Zero Tryz.prog 40 (.agg #[.int .i64 0, .int .i64 0, .string ByteArray.empty]) := zero_of (by kernel_rfl)
theorem by_40 : Bytes Tryz.prog 40 32 := bytes_of (by kernel_rfl)
theorem sz_42 : Size Tryz.prog 42 4 := size_of (by kernel_rfl)
theorem z_42 : Zero Tryz.prog 42 (.agg #[.int .i64 0, .int .i64 0, .int .i64 0, .string ByteArray.empty]) := zero_of (by kernel_rfl)
theorem by_42 : Bytes Tryz.prog 42 40 := bytes_of (by kernel_rfl)
theorem sz_46 : Size Tryz.prog 46 1 := size_of (by kernel_rfl)
theorem pl_46 : Plain Tryz.prog 46 := plain_of Tryz.underlying46 rfl
theorem sz_48 : Size Tryz.prog 48 3 := size_of (by kernel_rfl)
theorem z_48 : Zero Tryz.prog 48 (.agg #[.int .i64 0, .int .i64 0, .slice none 0 0]) := zero_of (by kernel_rfl)
theorem by_48 : Bytes Tryz.prog 48 40 := bytes_of (by kernel_rfl)
theorem sz_59 : Size Tryz.prog 59 4 := size_of (by kernel_rfl)
theorem z_59 : Zero Tryz.prog 59 (.agg #[.string ByteArray.empty, .int .i64 0, .int .i64 0, .string ByteArray.empty]) := zero_of (by kernel_rfl)
theorem by_59 : Bytes Tryz.prog 59 48 := bytes_of (by kernel_rfl)
theorem sz_61 : Size Tryz.prog 61 6 := size_of (by kernel_rfl)
theorem z_61 : Zero Tryz.prog 61 (.agg #[.int .i64 0, .string ByteArray.empty, .int .i64 0, .int .i64 0, .string ByteArray.empty, .string ByteArray.empty]) := zero_of (by kernel_rfl)
theorem sz_65 : Size Tryz.prog 65 3 := size_of (by kernel_rfl)
theorem z_65 : Zero Tryz.prog 65 (.agg #[.int .i64 0, .int .i64 0, .string ByteArray.empty]) := zero_of (by kernel_rfl)
theorem sz_72 : Size Tryz.prog 72 1 := size_of (by kernel_rfl)
theorem pl_72 : Plain Tryz.prog 72 := plain_of Tryz.underlying72 rfl
theorem sz_73 : Size Tryz.prog 73 1 := size_of (by kernel_rfl)
theorem pl_73 : Plain Tryz.prog 73 := plain_of Tryz.underlying73 rfl
theorem sz_74 : Size Tryz.prog 74 1 := size_of (by kernel_rfl)
theorem pl_74 : Plain Tryz.prog 74 := plain_of Tryz.underlying74 rfl
theorem z_76 : Zero Tryz.prog 76 (.agg #[.int .i64 0, .int .i64 0, .int .i64 0, .int .i64 0, .int .i64 0, .int .i64 0, .int .i64 0, .pointer none, .pointer none, .pointer none, .int .i64 0]) := zero_of (by kernel_rfl)
theorem sz_83 : Size Tryz.prog 83 1 := size_of (by kernel_rfl)
theorem pl_83 : Plain Tryz.prog 83 := plain_of Tryz.underlying83 rfl
theorem z_85 : Zero Tryz.prog 85 (.agg #[.pointer none, .int .i64 0, .int .i64 0, .int .i64 0, .slice none 0 0, .slice none 0 0, .slice none 0 0]) := zero_of (by kernel_rfl)
theorem z_87 : Zero Tryz.prog 87 (.agg #[.int .i64 0, .int .i64 0, .slice none 0 0]) := zero_of (by kernel_rfl)
theorem sz_93 : Size Tryz.prog 93 1 := size_of (by kernel_rfl)
theorem pl_93 : Plain Tryz.prog 93 := plain_of Tryz.underlying93 rfl
theorem sz_94 : Size Tryz.prog 94 1 := size_of (by kernel_rfl)
theorem pl_94 : Plain Tryz.prog 94 := plain_of Tryz.underlying94 rfl
theorem sz_95 : Size Tryz.prog 95 1 := size_of (by kernel_rfl)
theorem pl_95 : Plain Tryz.prog 95 := plain_of Tryz.underlying95 rfl
theorem z_97 : Zero Tryz.prog 97 (.agg #[.int .i64 0, .int .i64 0, .int .i64 0, .int .i64 0, .int .i64 0, .int .i64 0, .int .i64 0, .pointer none, .pointer none, .pointer none, .int .i64 0]) := zero_of (by kernel_rfl)
theorem z_120 : Zero Tryz.prog 120 (.agg #[.string ByteArray.empty, .int .i64 0, .int .i64 0]) := zero_of (by kernel_rfl)
theorem sz_137 : Size Tryz.prog 137 1 := size_of (by kernel_rfl)
theorem pl_137 : Plain Tryz.prog 137 := plain_of Tryz.underlying137 rfl
theorem sz_138 : Size Tryz.prog 138 1 := size_of (by kernel_rfl)
theorem pl_138 : Plain Tryz.prog 138 := plain_of Tryz.underlying138 rfl
theorem z_140 : Zero Tryz.prog 140 (.agg #[.int .i64 0, .pointer none, .pointer none, .int .i64 0, .int .i64 0, .bool false]) := zero_of (by kernel_rfl)
theorem sz_160 : Size Tryz.prog 160 1 := size_of (by kernel_rfl)
theorem pl_160 : Plain Tryz.prog 160 := plain_of Tryz.underlying160 rfl
theorem sz_161 : Size Tryz.prog 161 1 := size_of (by kernel_rfl)
theorem pl_161 : Plain Tryz.prog 161 := plain_of Tryz.underlying161 rfl
theorem sz_163 : Size Tryz.prog 163 2 := size_of (by kernel_rfl)
theorem z_163 : Zero Tryz.prog 163 (.agg #[.pointer none, .pointer none]) := zero_of (by kernel_rfl)
theorem z_165 : Zero Tryz.prog 165 (.agg #[.pointer none, .pointer none, .int .i64 0, .int .i64 0, .int .i64 0, .bool false]) := zero_of (by kernel_rfl)
theorem z_168 : Zero Tryz.prog 168 (.agg #[.pointer none, .int .i64 0, .int .i64 0, .int .i64 0, .slice none 0 0, .slice none 0 0, .slice none 0 0]) := zero_of (by kernel_rfl)
theorem z_170 : Zero Tryz.prog 170 (.agg #[.int .i64 0, .int .i64 0, .slice none 0 0]) := zero_of (by kernel_rfl)
theorem sz_172 : Size Tryz.prog 172 1 := size_of (by kernel_rfl)
theorem pl_172 : Plain Tryz.prog 172 := plain_of Tryz.underlying172 rfl
theorem sz_173 : Size Tryz.prog 173 1 := size_of (by kernel_rfl)
theorem pl_173 : Plain Tryz.prog 173 := plain_of Tryz.underlying173 rfl
theorem sz_175 : Size Tryz.prog 175 2 := size_of (by kernel_rfl)
theorem z_177 : Zero Tryz.prog 177 (.agg #[.pointer none, .slice none 0 0, .bool false]) := zero_of (by kernel_rfl)
theorem sz_182 : Size Tryz.prog 182 1 := size_of (by kernel_rfl)
theorem pl_182 : Plain Tryz.prog 182 := plain_of Tryz.underlying182 rfl
theorem sz_185 : Size Tryz.prog 185 2 := size_of (by kernel_rfl)
theorem z_185 : Zero Tryz.prog 185 (.agg #[.int .i64 0, .string ByteArray.empty]) := zero_of (by kernel_rfl)
theorem by_185 : Bytes Tryz.prog 185 24 := bytes_of (by kernel_rfl)
theorem z_189 : Zero Tryz.prog 189 (.agg #[.string ByteArray.empty, .int .i64 0, .int .i64 0]) := zero_of (by kernel_rfl)
theorem z_202 : Zero Tryz.prog 202 (.agg #[.int .i64 0, .slice none 0 0, .int .i64 0]) := zero_of (by kernel_rfl)
theorem z_206 : Zero Tryz.prog 206 (.agg #[.int .i64 0, .int .i64 0, .slice none 0 0, .int .i64 0]) := zero_of (by kernel_rfl)
theorem sz_217 : Size Tryz.prog 217 16 := size_of (by kernel_rfl)
theorem z_219 : Zero Tryz.prog 219 (.agg #[.int .i64 0, .int .i64 0, .string ByteArray.empty, .string ByteArray.empty, .string ByteArray.empty, .string ByteArray.empty, .string ByteArray.empty, .string ByteArray.empty, .string ByteArray.empty, .string ByteArray.empty, .string ByteArray.empty, .string ByteArray.empty, .string ByteArray.empty, .string ByteArray.empty, .string ByteArray.empty, .string ByteArray.empty, .string ByteArray.empty, .string ByteArray.empty, .int .i64 0, .int .i64 0]) := zero_of (by kernel_rfl)
theorem z_221 : Zero Tryz.prog 221 (.agg #[.int .i64 0, .int .i64 0, .int .i64 0, .slice none 0 0]) := zero_of (by kernel_rfl)
theorem sz_228 : Size Tryz.prog 228 1 := size_of (by kernel_rfl)
theorem pl_228 : Plain Tryz.prog 228 := plain_of Tryz.underlying228 rfl
theorem sz_252 : Size Tryz.prog 252 1 := size_of (by kernel_rfl)
theorem pl_252 : Plain Tryz.prog 252 := plain_of Tryz.underlying252 rfl
theorem sz_256 : Size Tryz.prog 256 1 := size_of (by kernel_rfl)
theorem pl_256 : Plain Tryz.prog 256 := plain_of Tryz.underlying256 rfl
theorem z_258 : Zero Tryz.prog 258 (.agg #[.map none]) := zero_of (by kernel_rfl)
theorem sz_260 : Size Tryz.prog 260 256 := size_of (by kernel_rfl)
theorem z_260 : Zero Tryz.prog 260 (.agg (List.replicate 256 (.int .u32 0 : Value)).toArray) := zero_of (by kernel_rfl)
theorem sz_263 : Size Tryz.prog 263 4 := size_of (by kernel_rfl)
theorem st_23 : IsStruct Tryz.prog 23 := ⟨_, Tryz.underlying23⟩
theorem fl_23_0 : Fld Tryz.prog 23 0 3 0 1 := fld_of Tryz.underlying23 (by kernel_rfl) sz_3
theorem fl_23_1 : Fld Tryz.prog 23 1 3 1 1 := fld_of Tryz.underlying23 (by kernel_rfl) sz_3
theorem fl_23_2 : Fld Tryz.prog 23 2 3 2 1 := fld_of Tryz.underlying23 (by kernel_rfl) sz_3
theorem fl_23_3 : Fld Tryz.prog 23 3 3 3 1 := fld_of Tryz.underlying23 (by kernel_rfl) sz_3
theorem fl_23_4 : Fld Tryz.prog 23 4 3 4 1 := fld_of Tryz.underlying23 (by kernel_rfl) sz_3
theorem fl_23_5 : Fld Tryz.prog 23 5 3 5 1 := fld_of Tryz.underlying23 (by kernel_rfl) sz_3
theorem st_30 : IsStruct Tryz.prog 30 := ⟨_, Tryz.underlying30⟩
theorem st_40 : IsStruct Tryz.prog 40 := ⟨_, Tryz.underlying40⟩
theorem fl_40_0 : Fld Tryz.prog 40 0 3 0 1 := fld_of Tryz.underlying40 (by kernel_rfl) sz_3
theorem fl_40_1 : Fld Tryz.prog 40 1 3 1 1 := fld_of Tryz.underlying40 (by kernel_rfl) sz_3
theorem st_42 : IsStruct Tryz.prog 42 := ⟨_, Tryz.underlying42⟩
theorem fl_42_0 : Fld Tryz.prog 42 0 3 0 1 := fld_of Tryz.underlying42 (by kernel_rfl) sz_3
theorem fl_42_1 : Fld Tryz.prog 42 1 3 1 1 := fld_of Tryz.underlying42 (by kernel_rfl) sz_3
theorem fl_42_2 : Fld Tryz.prog 42 2 3 2 1 := fld_of Tryz.underlying42 (by kernel_rfl) sz_3
theorem fl_42_3 : Fld Tryz.prog 42 3 9 3 1 := fld_of Tryz.underlying42 (by kernel_rfl) sz_9
theorem st_48 : IsStruct Tryz.prog 48 := ⟨_, Tryz.underlying48⟩
theorem fl_48_0 : Fld Tryz.prog 48 0 3 0 1 := fld_of Tryz.underlying48 (by kernel_rfl) sz_3
theorem fl_48_1 : Fld Tryz.prog 48 1 3 1 1 := fld_of Tryz.underlying48 (by kernel_rfl) sz_3
theorem fl_48_2 : Fld Tryz.prog 48 2 46 2 1 := fld_of Tryz.underlying48 (by kernel_rfl) sz_46
theorem st_59 : IsStruct Tryz.prog 59 := ⟨_, Tryz.underlying59⟩
theorem fl_59_0 : Fld Tryz.prog 59 0 9 0 1 := fld_of Tryz.underlying59 (by kernel_rfl) sz_9
theorem fl_59_1 : Fld Tryz.prog 59 1 3 1 1 := fld_of Tryz.underlying59 (by kernel_rfl) sz_3
theorem fl_59_2 : Fld Tryz.prog 59 2 2 2 1 := fld_of Tryz.underlying59 (by kernel_rfl) sz_2
theorem fl_59_3 : Fld Tryz.prog 59 3 9 3 1 := fld_of Tryz.underlying59 (by kernel_rfl) sz_9
theorem st_61 : IsStruct Tryz.prog 61 := ⟨_, Tryz.underlying61⟩
theorem fl_61_0 : Fld Tryz.prog 61 0 3 0 1 := fld_of Tryz.underlying61 (by kernel_rfl) sz_3
theorem fl_61_1 : Fld Tryz.prog 61 1 59 1 4 := fld_of Tryz.underlying61 (by kernel_rfl) sz_59
theorem fl_61_2 : Fld Tryz.prog 61 2 9 5 1 := fld_of Tryz.underlying61 (by kernel_rfl) sz_9
theorem st_65 : IsStruct Tryz.prog 65 := ⟨_, Tryz.underlying65⟩
theorem fl_65_0 : Fld Tryz.prog 65 0 3 0 1 := fld_of Tryz.underlying65 (by kernel_rfl) sz_3
theorem fl_65_1 : Fld Tryz.prog 65 1 2 1 1 := fld_of Tryz.underlying65 (by kernel_rfl) sz_2
theorem fl_65_2 : Fld Tryz.prog 65 2 9 2 1 := fld_of Tryz.underlying65 (by kernel_rfl) sz_9
theorem fl_76_0 : Fld Tryz.prog 76 0 23 0 6 := fld_of Tryz.underlying76 (by kernel_rfl) sz_23
theorem fl_76_1 : Fld Tryz.prog 76 1 3 6 1 := fld_of Tryz.underlying76 (by kernel_rfl) sz_3
theorem fl_76_2 : Fld Tryz.prog 76 2 72 7 1 := fld_of Tryz.underlying76 (by kernel_rfl) sz_72
theorem fl_76_3 : Fld Tryz.prog 76 3 73 8 1 := fld_of Tryz.underlying76 (by kernel_rfl) sz_73
theorem fl_76_4 : Fld Tryz.prog 76 4 74 9 1 := fld_of Tryz.underlying76 (by kernel_rfl) sz_74
theorem fl_76_5 : Fld Tryz.prog 76 5 3 10 1 := fld_of Tryz.underlying76 (by kernel_rfl) sz_3
theorem fl_85_0 : Fld Tryz.prog 85 0 72 0 1 := fld_of Tryz.underlying85 (by kernel_rfl) sz_72
theorem fl_85_1 : Fld Tryz.prog 85 1 3 1 1 := fld_of Tryz.underlying85 (by kernel_rfl) sz_3
theorem fl_85_2 : Fld Tryz.prog 85 2 3 2 1 := fld_of Tryz.underlying85 (by kernel_rfl) sz_3
theorem fl_85_3 : Fld Tryz.prog 85 3 3 3 1 := fld_of Tryz.underlying85 (by kernel_rfl) sz_3
theorem fl_85_4 : Fld Tryz.prog 85 4 32 4 1 := fld_of Tryz.underlying85 (by kernel_rfl) sz_32
theorem fl_85_5 : Fld Tryz.prog 85 5 32 5 1 := fld_of Tryz.underlying85 (by kernel_rfl) sz_32
theorem fl_85_6 : Fld Tryz.prog 85 6 46 6 1 := fld_of Tryz.underlying85 (by kernel_rfl) sz_46
theorem fl_87_0 : Fld Tryz.prog 87 0 3 0 1 := fld_of Tryz.underlying87 (by kernel_rfl) sz_3
theorem fl_87_1 : Fld Tryz.prog 87 1 3 1 1 := fld_of Tryz.underlying87 (by kernel_rfl) sz_3
theorem fl_87_2 : Fld Tryz.prog 87 2 32 2 1 := fld_of Tryz.underlying87 (by kernel_rfl) sz_32
theorem fl_97_0 : Fld Tryz.prog 97 0 23 0 6 := fld_of Tryz.underlying97 (by kernel_rfl) sz_23
theorem fl_97_1 : Fld Tryz.prog 97 1 3 6 1 := fld_of Tryz.underlying97 (by kernel_rfl) sz_3
theorem fl_97_2 : Fld Tryz.prog 97 2 93 7 1 := fld_of Tryz.underlying97 (by kernel_rfl) sz_93
theorem fl_97_3 : Fld Tryz.prog 97 3 94 8 1 := fld_of Tryz.underlying97 (by kernel_rfl) sz_94
theorem fl_97_4 : Fld Tryz.prog 97 4 95 9 1 := fld_of Tryz.underlying97 (by kernel_rfl) sz_95
theorem fl_97_5 : Fld Tryz.prog 97 5 3 10 1 := fld_of Tryz.underlying97 (by kernel_rfl) sz_3
theorem fl_120_0 : Fld Tryz.prog 120 0 9 0 1 := fld_of Tryz.underlying120 (by kernel_rfl) sz_9
theorem fl_120_1 : Fld Tryz.prog 120 1 3 1 1 := fld_of Tryz.underlying120 (by kernel_rfl) sz_3
theorem fl_120_2 : Fld Tryz.prog 120 2 3 2 1 := fld_of Tryz.underlying120 (by kernel_rfl) sz_3
theorem fl_140_0 : Fld Tryz.prog 140 0 3 0 1 := fld_of Tryz.underlying140 (by kernel_rfl) sz_3
theorem fl_140_1 : Fld Tryz.prog 140 1 137 1 1 := fld_of Tryz.underlying140 (by kernel_rfl) sz_137
theorem fl_140_2 : Fld Tryz.prog 140 2 138 2 1 := fld_of Tryz.underlying140 (by kernel_rfl) sz_138
theorem fl_140_3 : Fld Tryz.prog 140 3 3 3 1 := fld_of Tryz.underlying140 (by kernel_rfl) sz_3
theorem fl_140_4 : Fld Tryz.prog 140 4 3 4 1 := fld_of Tryz.underlying140 (by kernel_rfl) sz_3
theorem fl_140_5 : Fld Tryz.prog 140 5 4 5 1 := fld_of Tryz.underlying140 (by kernel_rfl) sz_4
theorem fl_163_0 : Fld Tryz.prog 163 0 160 0 1 := fld_of Tryz.underlying163 (by kernel_rfl) sz_160
theorem fl_163_1 : Fld Tryz.prog 163 1 161 1 1 := fld_of Tryz.underlying163 (by kernel_rfl) sz_161
theorem fl_165_0 : Fld Tryz.prog 165 0 163 0 2 := fld_of Tryz.underlying165 (by kernel_rfl) sz_163
theorem fl_165_1 : Fld Tryz.prog 165 1 3 2 1 := fld_of Tryz.underlying165 (by kernel_rfl) sz_3
theorem fl_165_2 : Fld Tryz.prog 165 2 3 3 1 := fld_of Tryz.underlying165 (by kernel_rfl) sz_3
theorem fl_165_3 : Fld Tryz.prog 165 3 3 4 1 := fld_of Tryz.underlying165 (by kernel_rfl) sz_3
theorem fl_165_4 : Fld Tryz.prog 165 4 4 5 1 := fld_of Tryz.underlying165 (by kernel_rfl) sz_4
theorem fl_168_0 : Fld Tryz.prog 168 0 93 0 1 := fld_of Tryz.underlying168 (by kernel_rfl) sz_93
theorem fl_168_1 : Fld Tryz.prog 168 1 3 1 1 := fld_of Tryz.underlying168 (by kernel_rfl) sz_3
theorem fl_168_2 : Fld Tryz.prog 168 2 3 2 1 := fld_of Tryz.underlying168 (by kernel_rfl) sz_3
theorem fl_168_3 : Fld Tryz.prog 168 3 3 3 1 := fld_of Tryz.underlying168 (by kernel_rfl) sz_3
theorem fl_168_4 : Fld Tryz.prog 168 4 32 4 1 := fld_of Tryz.underlying168 (by kernel_rfl) sz_32
theorem fl_168_5 : Fld Tryz.prog 168 5 32 5 1 := fld_of Tryz.underlying168 (by kernel_rfl) sz_32
theorem fl_168_6 : Fld Tryz.prog 168 6 46 6 1 := fld_of Tryz.underlying168 (by kernel_rfl) sz_46
theorem fl_170_0 : Fld Tryz.prog 170 0 3 0 1 := fld_of Tryz.underlying170 (by kernel_rfl) sz_3
theorem fl_170_1 : Fld Tryz.prog 170 1 3 1 1 := fld_of Tryz.underlying170 (by kernel_rfl) sz_3
theorem fl_170_2 : Fld Tryz.prog 170 2 32 2 1 := fld_of Tryz.underlying170 (by kernel_rfl) sz_32
theorem fl_175_0 : Fld Tryz.prog 175 0 172 0 1 := fld_of Tryz.underlying175 (by kernel_rfl) sz_172
theorem fl_175_1 : Fld Tryz.prog 175 1 173 1 1 := fld_of Tryz.underlying175 (by kernel_rfl) sz_173
theorem fl_177_0 : Fld Tryz.prog 177 0 175 0 2 := fld_of Tryz.underlying177 (by kernel_rfl) sz_175
theorem fl_177_1 : Fld Tryz.prog 177 1 4 2 1 := fld_of Tryz.underlying177 (by kernel_rfl) sz_4
theorem st_185 : IsStruct Tryz.prog 185 := ⟨_, Tryz.underlying185⟩
theorem fl_185_0 : Fld Tryz.prog 185 0 3 0 1 := fld_of Tryz.underlying185 (by kernel_rfl) sz_3
theorem fl_185_1 : Fld Tryz.prog 185 1 9 1 1 := fld_of Tryz.underlying185 (by kernel_rfl) sz_9
theorem fl_189_0 : Fld Tryz.prog 189 0 9 0 1 := fld_of Tryz.underlying189 (by kernel_rfl) sz_9
theorem fl_189_1 : Fld Tryz.prog 189 1 3 1 1 := fld_of Tryz.underlying189 (by kernel_rfl) sz_3
theorem fl_189_2 : Fld Tryz.prog 189 2 34 2 1 := fld_of Tryz.underlying189 (by kernel_rfl) sz_34
theorem fl_202_0 : Fld Tryz.prog 202 0 3 0 1 := fld_of Tryz.underlying202 (by kernel_rfl) sz_3
theorem fl_202_1 : Fld Tryz.prog 202 1 83 1 1 := fld_of Tryz.underlying202 (by kernel_rfl) sz_83
theorem fl_202_2 : Fld Tryz.prog 202 2 3 2 1 := fld_of Tryz.underlying202 (by kernel_rfl) sz_3
theorem fl_206_0 : Fld Tryz.prog 206 0 3 0 1 := fld_of Tryz.underlying206 (by kernel_rfl) sz_3
theorem fl_206_1 : Fld Tryz.prog 206 1 3 1 1 := fld_of Tryz.underlying206 (by kernel_rfl) sz_3
theorem fl_206_2 : Fld Tryz.prog 206 2 83 2 1 := fld_of Tryz.underlying206 (by kernel_rfl) sz_83
theorem fl_206_3 : Fld Tryz.prog 206 3 3 3 1 := fld_of Tryz.underlying206 (by kernel_rfl) sz_3
theorem fl_219_0 : Fld Tryz.prog 219 0 3 0 1 := fld_of Tryz.underlying219 (by kernel_rfl) sz_3
theorem fl_219_1 : Fld Tryz.prog 219 1 3 1 1 := fld_of Tryz.underlying219 (by kernel_rfl) sz_3
theorem fl_219_2 : Fld Tryz.prog 219 2 217 2 16 := fld_of Tryz.underlying219 (by kernel_rfl) sz_217
theorem fl_219_3 : Fld Tryz.prog 219 3 3 18 1 := fld_of Tryz.underlying219 (by kernel_rfl) sz_3
theorem fl_219_4 : Fld Tryz.prog 219 4 3 19 1 := fld_of Tryz.underlying219 (by kernel_rfl) sz_3
theorem fl_221_0 : Fld Tryz.prog 221 0 3 0 1 := fld_of Tryz.underlying221 (by kernel_rfl) sz_3
theorem fl_221_1 : Fld Tryz.prog 221 1 3 1 1 := fld_of Tryz.underlying221 (by kernel_rfl) sz_3
theorem fl_221_2 : Fld Tryz.prog 221 2 3 2 1 := fld_of Tryz.underlying221 (by kernel_rfl) sz_3
theorem fl_221_3 : Fld Tryz.prog 221 3 182 3 1 := fld_of Tryz.underlying221 (by kernel_rfl) sz_182
theorem fl_258_0 : Fld Tryz.prog 258 0 256 0 1 := fld_of Tryz.underlying258 (by kernel_rfl) sz_256
theorem plc_23 : ∃ fs, Tryz.prog.underlying 23 = some (.struct fs.toArray) ∧ Plc Tryz.prog fs [(0, 1), (1, 1), (2, 1), (3, 1), (4, 1), (5, 1)] := ⟨[_, _, _, _, _, _], Tryz.underlying23, .cons sz_3 (.cons sz_3 (.cons sz_3 (.cons sz_3 (.cons sz_3 (.cons sz_3 (.nil))))))⟩
theorem plc_30 : ∃ fs, Tryz.prog.underlying 30 = some (.struct fs.toArray) ∧ Plc Tryz.prog fs [(0, 1), (1, 1), (2, 1), (3, 1), (4, 1), (5, 1)] := ⟨[_, _, _, _, _, _], Tryz.underlying30, .cons sz_3 (.cons sz_3 (.cons sz_3 (.cons sz_3 (.cons sz_3 (.cons sz_3 (.nil))))))⟩
theorem eq_30 {d : Nat} (a0 b0 : Int) (a1 b1 : Int) (a2 b2 : Int) (a3 b3 : Int) (a4 b4 : Int) (a5 b5 : Int) : EqIn Tryz.prog (d + 2) 30 (.agg [.int .i64 a0, .int .i64 a1, .int .i64 a2, .int .i64 a3, .int .i64 a4, .int .i64 a5].toArray) (.agg [.int .i64 b0, .int .i64 b1, .int .i64 b2, .int .i64 b3, .int .i64 b4, .int .i64 b5].toArray) (decide (a0 = b0) && (decide (a1 = b1) && (decide (a2 = b2) && (decide (a3 = b3) && (decide (a4 = b4) && (decide (a5 = b5) && true)))))) := eq_st Tryz.underlying30 Tryz.stoodInHeld30 (vs := [.int .i64 a0, .int .i64 a1, .int .i64 a2, .int .i64 a3, .int .i64 a4, .int .i64 a5]) (us := [.int .i64 b0, .int .i64 b1, .int .i64 b2, .int .i64 b3, .int .i64 b4, .int .i64 b5]) (eqf_p rfl pl_3 rfl rfl (eq_i Tryz.underlying3) (eqf_p rfl pl_3 rfl rfl (eq_i Tryz.underlying3) (eqf_p rfl pl_3 rfl rfl (eq_i Tryz.underlying3) (eqf_p rfl pl_3 rfl rfl (eq_i Tryz.underlying3) (eqf_p rfl pl_3 rfl rfl (eq_i Tryz.underlying3) (eqf_p rfl pl_3 rfl rfl (eq_i Tryz.underlying3) (eqf_nil)))))))
theorem plc_40 : ∃ fs, Tryz.prog.underlying 40 = some (.struct fs.toArray) ∧ Plc Tryz.prog fs [(0, 1), (1, 1), (2, 1)] := ⟨[_, _, _], Tryz.underlying40, .cons sz_3 (.cons sz_3 (.cons sz_9 (.nil)))⟩
theorem eq_40 {d : Nat} (a0 b0 : Int) (a1 b1 : Int) (a2 b2 : ByteArray) : EqIn Tryz.prog (d + 2) 40 (.agg [.int .i64 a0, .int .i64 a1, .string a2].toArray) (.agg [.int .i64 b0, .int .i64 b1, .string b2].toArray) (decide (a0 = b0) && (decide (a1 = b1) && (decide (a2 = b2) && true))) := eq_st Tryz.underlying40 Tryz.stoodInHeld40 (vs := [.int .i64 a0, .int .i64 a1, .string a2]) (us := [.int .i64 b0, .int .i64 b1, .string b2]) (eqf_p rfl pl_3 rfl rfl (eq_i Tryz.underlying3) (eqf_p rfl pl_3 rfl rfl (eq_i Tryz.underlying3) (eqf_p rfl pl_9 rfl rfl (eq_s Tryz.underlying9) (eqf_nil))))
theorem plc_42 : ∃ fs, Tryz.prog.underlying 42 = some (.struct fs.toArray) ∧ Plc Tryz.prog fs [(0, 1), (1, 1), (2, 1), (3, 1)] := ⟨[_, _, _, _], Tryz.underlying42, .cons sz_3 (.cons sz_3 (.cons sz_3 (.cons sz_9 (.nil))))⟩
theorem plc_48 : ∃ fs, Tryz.prog.underlying 48 = some (.struct fs.toArray) ∧ Plc Tryz.prog fs [(0, 1), (1, 1), (2, 1)] := ⟨[_, _, _], Tryz.underlying48, .cons sz_3 (.cons sz_3 (.cons sz_46 (.nil)))⟩
theorem plc_59 : ∃ fs, Tryz.prog.underlying 59 = some (.struct fs.toArray) ∧ Plc Tryz.prog fs [(0, 1), (1, 1), (2, 1), (3, 1)] := ⟨[_, _, _, _], Tryz.underlying59, .cons sz_9 (.cons sz_3 (.cons sz_2 (.cons sz_9 (.nil))))⟩
theorem eq_59 {d : Nat} (a0 b0 : ByteArray) (a1 b1 : Int) (a2 b2 : Int) (a3 b3 : ByteArray) : EqIn Tryz.prog (d + 2) 59 (.agg [.string a0, .int .i64 a1, .int .i64 a2, .string a3].toArray) (.agg [.string b0, .int .i64 b1, .int .i64 b2, .string b3].toArray) (decide (a0 = b0) && (decide (a1 = b1) && (decide (a2 = b2) && (decide (a3 = b3) && true)))) := eq_st Tryz.underlying59 Tryz.stoodInHeld59 (vs := [.string a0, .int .i64 a1, .int .i64 a2, .string a3]) (us := [.string b0, .int .i64 b1, .int .i64 b2, .string b3]) (eqf_p rfl pl_9 rfl rfl (eq_s Tryz.underlying9) (eqf_p rfl pl_3 rfl rfl (eq_i Tryz.underlying3) (eqf_p rfl pl_2 rfl rfl (eq_i Tryz.underlying2) (eqf_p rfl pl_9 rfl rfl (eq_s Tryz.underlying9) (eqf_nil)))))
theorem plc_65 : ∃ fs, Tryz.prog.underlying 65 = some (.struct fs.toArray) ∧ Plc Tryz.prog fs [(0, 1), (1, 1), (2, 1)] := ⟨[_, _, _], Tryz.underlying65, .cons sz_3 (.cons sz_2 (.cons sz_9 (.nil)))⟩
theorem eq_65 {d : Nat} (a0 b0 : Int) (a1 b1 : Int) (a2 b2 : ByteArray) : EqIn Tryz.prog (d + 2) 65 (.agg [.int .i64 a0, .int .i64 a1, .string a2].toArray) (.agg [.int .i64 b0, .int .i64 b1, .string b2].toArray) (decide (a0 = b0) && (decide (a1 = b1) && (decide (a2 = b2) && true))) := eq_st Tryz.underlying65 Tryz.stoodInHeld65 (vs := [.int .i64 a0, .int .i64 a1, .string a2]) (us := [.int .i64 b0, .int .i64 b1, .string b2]) (eqf_p rfl pl_3 rfl rfl (eq_i Tryz.underlying3) (eqf_p rfl pl_2 rfl rfl (eq_i Tryz.underlying2) (eqf_p rfl pl_9 rfl rfl (eq_s Tryz.underlying9) (eqf_nil))))
theorem plc_76 : ∃ fs, Tryz.prog.underlying 76 = some (.struct fs.toArray) ∧ Plc Tryz.prog fs [(0, 6), (6, 1), (7, 1), (8, 1), (9, 1), (10, 1)] := ⟨[_, _, _, _, _, _], Tryz.underlying76, .cons sz_23 (.cons sz_3 (.cons sz_72 (.cons sz_73 (.cons sz_74 (.cons sz_3 (.nil))))))⟩
theorem plc_85 : ∃ fs, Tryz.prog.underlying 85 = some (.struct fs.toArray) ∧ Plc Tryz.prog fs [(0, 1), (1, 1), (2, 1), (3, 1), (4, 1), (5, 1), (6, 1)] := ⟨[_, _, _, _, _, _, _], Tryz.underlying85, .cons sz_72 (.cons sz_3 (.cons sz_3 (.cons sz_3 (.cons sz_32 (.cons sz_32 (.cons sz_46 (.nil)))))))⟩
theorem plc_87 : ∃ fs, Tryz.prog.underlying 87 = some (.struct fs.toArray) ∧ Plc Tryz.prog fs [(0, 1), (1, 1), (2, 1)] := ⟨[_, _, _], Tryz.underlying87, .cons sz_3 (.cons sz_3 (.cons sz_32 (.nil)))⟩
theorem plc_97 : ∃ fs, Tryz.prog.underlying 97 = some (.struct fs.toArray) ∧ Plc Tryz.prog fs [(0, 6), (6, 1), (7, 1), (8, 1), (9, 1), (10, 1)] := ⟨[_, _, _, _, _, _], Tryz.underlying97, .cons sz_23 (.cons sz_3 (.cons sz_93 (.cons sz_94 (.cons sz_95 (.cons sz_3 (.nil))))))⟩
theorem plc_120 : ∃ fs, Tryz.prog.underlying 120 = some (.struct fs.toArray) ∧ Plc Tryz.prog fs [(0, 1), (1, 1), (2, 1)] := ⟨[_, _, _], Tryz.underlying120, .cons sz_9 (.cons sz_3 (.cons sz_3 (.nil)))⟩
theorem plc_140 : ∃ fs, Tryz.prog.underlying 140 = some (.struct fs.toArray) ∧ Plc Tryz.prog fs [(0, 1), (1, 1), (2, 1), (3, 1), (4, 1), (5, 1)] := ⟨[_, _, _, _, _, _], Tryz.underlying140, .cons sz_3 (.cons sz_137 (.cons sz_138 (.cons sz_3 (.cons sz_3 (.cons sz_4 (.nil))))))⟩
theorem plc_163 : ∃ fs, Tryz.prog.underlying 163 = some (.struct fs.toArray) ∧ Plc Tryz.prog fs [(0, 1), (1, 1)] := ⟨[_, _], Tryz.underlying163, .cons sz_160 (.cons sz_161 (.nil))⟩
theorem plc_165 : ∃ fs, Tryz.prog.underlying 165 = some (.struct fs.toArray) ∧ Plc Tryz.prog fs [(0, 2), (2, 1), (3, 1), (4, 1), (5, 1)] := ⟨[_, _, _, _, _], Tryz.underlying165, .cons sz_163 (.cons sz_3 (.cons sz_3 (.cons sz_3 (.cons sz_4 (.nil)))))⟩
theorem plc_168 : ∃ fs, Tryz.prog.underlying 168 = some (.struct fs.toArray) ∧ Plc Tryz.prog fs [(0, 1), (1, 1), (2, 1), (3, 1), (4, 1), (5, 1), (6, 1)] := ⟨[_, _, _, _, _, _, _], Tryz.underlying168, .cons sz_93 (.cons sz_3 (.cons sz_3 (.cons sz_3 (.cons sz_32 (.cons sz_32 (.cons sz_46 (.nil)))))))⟩
theorem plc_170 : ∃ fs, Tryz.prog.underlying 170 = some (.struct fs.toArray) ∧ Plc Tryz.prog fs [(0, 1), (1, 1), (2, 1)] := ⟨[_, _, _], Tryz.underlying170, .cons sz_3 (.cons sz_3 (.cons sz_32 (.nil)))⟩
theorem plc_185 : ∃ fs, Tryz.prog.underlying 185 = some (.struct fs.toArray) ∧ Plc Tryz.prog fs [(0, 1), (1, 1)] := ⟨[_, _], Tryz.underlying185, .cons sz_3 (.cons sz_9 (.nil))⟩
theorem plc_189 : ∃ fs, Tryz.prog.underlying 189 = some (.struct fs.toArray) ∧ Plc Tryz.prog fs [(0, 1), (1, 1), (2, 1)] := ⟨[_, _, _], Tryz.underlying189, .cons sz_9 (.cons sz_3 (.cons sz_34 (.nil)))⟩
theorem plc_202 : ∃ fs, Tryz.prog.underlying 202 = some (.struct fs.toArray) ∧ Plc Tryz.prog fs [(0, 1), (1, 1), (2, 1)] := ⟨[_, _, _], Tryz.underlying202, .cons sz_3 (.cons sz_83 (.cons sz_3 (.nil)))⟩
theorem plc_206 : ∃ fs, Tryz.prog.underlying 206 = some (.struct fs.toArray) ∧ Plc Tryz.prog fs [(0, 1), (1, 1), (2, 1), (3, 1)] := ⟨[_, _, _, _], Tryz.underlying206, .cons sz_3 (.cons sz_3 (.cons sz_83 (.cons sz_3 (.nil))))⟩
theorem plc_219 : ∃ fs, Tryz.prog.underlying 219 = some (.struct fs.toArray) ∧ Plc Tryz.prog fs [(0, 1), (1, 1), (2, 16), (18, 1), (19, 1)] := ⟨[_, _, _, _, _], Tryz.underlying219, .cons sz_3 (.cons sz_3 (.cons sz_217 (.cons sz_3 (.cons sz_3 (.nil)))))⟩
theorem plc_221 : ∃ fs, Tryz.prog.underlying 221 = some (.struct fs.toArray) ∧ Plc Tryz.prog fs [(0, 1), (1, 1), (2, 1), (3, 1)] := ⟨[_, _, _, _], Tryz.underlying221, .cons sz_3 (.cons sz_3 (.cons sz_3 (.cons sz_182 (.nil))))⟩
theorem plc_258 : ∃ fs, Tryz.prog.underlying 258 = some (.struct fs.toArray) ∧ Plc Tryz.prog fs [(0, 1)] := ⟨[_], Tryz.underlying258, .cons sz_256 (.nil)⟩
theorem wide_ : Tryz.prog.follows .mixedOrders = true := by kernel_rfl
end Go.Proofs.YtndahppmjdbifaaGreatDoor.Eng
set_option linter.unusedVariables false
set_option linter.unusedSimpArgs false
namespace Go.Proofs.YtndahppmjdbifaaGreatDoor.Pre
open Go Go.Proofs Eng
def Bits (M : Mem) : Prop := ∃ T fz, M 0 = some (.cells #[.int .u64 6, .int .u64 14, .int .u64 30, .int .u64 62] T fz)
theorem Bits.mono {M M' : Mem} (h : Bits M) (hm : Mle M M') : Bits M' := by obtain ⟨T, fz, h⟩ := h; exact ⟨T, fz, hm.1 _ _ h⟩
section
variable {M : Mem} {w : World} {Ls : List Chunk}
theorem spelling_c (hG : Bits M) (n : Nat) (hn : n < 18446744073709551616) (hS : St M w Ls) :
    CallsR Tryz.prog 197 [.int .u64 n].toArray w fun v w' => v = .int .i64 (spell n) ∧ St M w' Ls := by
  obtain ⟨TG, fz, hG⟩ := hG
  have hce := hS.immc (j := 0) hG (vs := [.int .u64 6, .int .u64 14, .int .u64 30, .int .u64 62]) rfl
  refine zC 16 Tryz.func197 rfl (zQ (zR (zA rfl (zE (zQ (zQ (zR (wl (y_loadArr Tryz.underlying263 sz_263 rfl hce rfl) rfl (zM rfl (zE (zB (wc_loop (α := Nat) (fun i => [(0, .int .u64 n), (5, .agg [.int .u64 6, .int .u64 14, .int .u64 30, .int .u64 62].toArray), (6, .int .i64 i)]) (fun i w => i ≤ 4 ∧ (∀ j, j < i → 2 ^ (8 * 2 ^ j - 2) ≤ n) ∧ St M w Ls) (fun i => 4 - i) 0 (sub_cons rfl (sub_cons rfl (subR rfl))) ⟨by omega, (fun j h => absurd h (by omega)), hS⟩ ?_))))))))))))
  rintro i w ⟨hi, hlow, hS⟩
  refine zQ (zR (wl (y_lss rfl rfl) rfl (zE (zQ (zIf rfl (fun hc7 => ?_) fun hc7 => ?_)))))
  · refine zK ?_
    refine zQ (zB (zQ ?_))
    have hi4 : i < 4 := by omega
    have hv : ([.int .u64 6, .int .u64 14, .int .u64 30, .int .u64 62] : List Value)[((i : Int)).toNat]? = some (.int .u64 ((8 * 2 ^ i - 2 : Nat) : Int)) := by
      rcases i with _ | _ | _ | _ | i
      · rfl
      · rfl
      · rfl
      · rfl
      omega
    have hk : 8 * 2 ^ i - 2 ≤ 64 := by
      have : 2 ^ i ≤ 2 ^ 3 := Nat.pow_le_pow_right (by omega) (by omega)
      omega
    refine zR (zM rfl (wl (y_idx_ar Tryz.underlying263 pl_252 sz_252 rfl rfl (by omega) (by omega) hv) rfl (zA rfl (zA rfl (zE (zQ (zR (zM rfl (zM rfl (wl (y_shr rfl rfl (by omega) (natshr64 n _ hk)) rfl (wl (y_eql rfl rfl) rfl (zE (zIf rfl (fun hc13 => ?_) fun hc13 => ?_)))))))))))))
    · have hs : spell n = i := spell_eq n i hi4 (by
        have hd : n / 2 ^ (8 * 2 ^ i - 2) = 0 := by omega
        rw [Nat.div_eq_zero_iff] at hd
        rcases hd with hd | hd
        · have : 0 < 2 ^ (8 * 2 ^ i - 2) := Nat.pow_pos (by omega)
          omega
        exact hd) hlow
      rw [hs]
      refine zQ (zR (zM rfl (zA rfl (zE (zV (z1 rfl ?_))))))
      exact ⟨rfl, hS⟩
    have hge : 2 ^ (8 * 2 ^ i - 2) ≤ n := by
      rcases Nat.lt_or_ge n (2 ^ (8 * 2 ^ i - 2)) with h | h
      · exact absurd (by rw [Nat.div_eq_of_lt h] <;> rfl) hc13
      exact h
    have hlow' : ∀ j, j < i + 1 → 2 ^ (8 * 2 ^ j - 2) ≤ n := fun j hj => by
      rcases Nat.lt_or_ge j i with h | h
      · exact hlow j h
      obtain rfl : j = i := by omega
      exact hge
    refine zK (zR (wl (y_add rfl rfl (w64 (by omega) (by omega))) rfl (zM rfl (zE ?_))))
    exact ⟨i + 1, by omega, sub_cons rfl (sub_cons rfl (subR rfl)), by omega, hlow', hS⟩
  obtain rfl : i = 4 := by omega
  have h62 := hlow 3 (by omega)
  rw [spell_4 n (by simpa using h62)]
  refine wc_exit (zQ (zR (zA rfl (zE (zV (z1 rfl ?_))))))
  exact ⟨rfl, hS⟩
theorem size_c (hG : Bits M) (n : Nat) (hn : n < 18446744073709551616) (hS : St M w Ls) :
    CallsR Tryz.prog 190 [.int .u64 n].toArray w fun v w' => v = .int .i64 (psize n) ∧ St M w' Ls := by
  refine zC 8 Tryz.func190 rfl (zQ (zR (zA rfl (zE (zQ (zQ (zR (zM rfl (wl (y_geq rfl rfl) rfl (zE (zIf rfl (fun hc4 => ?_) fun hc4 => ?_)))))))))))
  · have e : psize n = 0 := by unfold psize; rw [if_neg (by omega)]
    rw [e]
    refine zQ (zR (zA rfl (zE (zV (z1 rfl ?_)))))
    exact ⟨rfl, hS⟩
  have hlt : n < 4611686018427387904 := by omega
  have hs4 := spell_lt n hlt
  have e : psize n = 2 ^ spell n := by unfold psize; rw [if_pos hlt]
  have h8 := psize_le n
  rw [e] at h8 ⊢
  have hp0 : (0 : Int) < 2 ^ spell n := Int.pow_pos (by decide)
  have hp1 : ((2 ^ spell n : Nat) : Int) = 2 ^ spell n := by simp
  have hshl : IntKind.i64.wrap (1 * 2 ^ (min ((spell n : Int)).toNat IntKind.i64.bits)) = ((2 ^ spell n : Nat) : Int) := by
    rw [show min ((spell n : Int)).toNat IntKind.i64.bits = spell n from (by show min (spell n) 64 = _; omega), Int.one_mul, w64 (by omega) (by omega), hp1]
  refine zK (zQ (zR (zM rfl (wl_call (.cons rfl .nil) (spelling_c hG n hn hS) rfl ?_))))
  rintro _ w ⟨rfl, hS⟩
  refine wl (y_shl rfl rfl (by omega) hshl) rfl (zA rfl (zE (zV (z1 rfl ?_))))
  exact ⟨rfl, hS⟩
def str (l : List UInt8) : ByteArray := ⟨l.toArray⟩
theorem setBe (N s i : Nat) (hi : i < s) (c : UInt8) (hc : (be N s)[i]? = some c) : (((be N s).take i ++ List.replicate (s - i) (0 : UInt8)).set i c) = (be N s).take (i + 1) ++ List.replicate (s - (i + 1)) (0 : UInt8) := by
  have hl : ((be N s).take i).length = i := by rw [List.length_take, be_length]; omega
  rw [List.set_append_right _ _ (by omega), hl, Nat.sub_self]
  obtain ⟨r, hr⟩ : ∃ r, s - i = r + 1 := ⟨s - i - 1, by omega⟩
  rw [hr, List.replicate_succ, List.set_cons_zero, List.take_add_one, hc, show s - (i + 1) = r by omega]
  simp
def putV (n : Nat) : Value := if n < 4611686018427387904 then .tuple [.string (str (pput n)), .int .i64 0].toArray else .tuple [.string ByteArray.empty, .int .i64 1].toArray
theorem put_c (hG : Bits M) (n : Nat) (hn : n < 18446744073709551616) (hS : St M w Ls) :
    CallsR Tryz.prog 186 [.int .u64 n].toArray w fun v w' => v = putV n ∧ St M w' Ls := by
  have hp8 := psize_le n
  unfold putV
  refine zC 41 Tryz.func186 rfl (zQ (zR (zA rfl (zA rfl (zE (zQ (zR (zM rfl (wl_call (.cons rfl .nil) (size_c hG n hn hS) rfl ?_)))))))))
  rintro _ w ⟨rfl, hS⟩
  refine zA rfl (zE (zQ (zQ (zR (zM rfl (wl (y_eql rfl rfl) rfl (zE (zIf rfl (fun hc10 => ?_) fun hc10 => ?_))))))))
  · have hge : ¬ n < 4611686018427387904 := by
      intro h
      have : psize n ≠ 0 := by unfold psize; rw [if_pos h]; have := Nat.pow_pos (n := spell n) (show 0 < 2 by omega); omega
      omega
    rw [if_neg hge]
    refine zQ (zR (zA rfl (zA rfl (zE (zV (z2 rfl ?_))))))
    exact ⟨rfl, hS.keep⟩
  have hlt : n < 4611686018427387904 := by
    rcases Nat.lt_or_ge n 4611686018427387904 with h | h
    · exact h
    exact absurd (by unfold psize; rw [if_neg (by omega)] <;> rfl) hc10
  rw [if_pos hlt]
  obtain ⟨hb1, hb2⟩ := pnum_bound n hlt
  have hs4 := spell_lt n hlt
  have hps : 1 ≤ psize n := by have : psize n ≠ 0 := fun h => hc10 (by rw [h] <;> rfl)
                               omega
  have hpow : 2 ^ (8 * psize n) ≤ 2 ^ 64 := Nat.pow_le_pow_right (by omega) (by omega)
  have h264 : (2 : Nat) ^ 64 = 18446744073709551616 := by decide
  have hshl : IntKind.u64.wrap ((spell n : Int) * 2 ^ (min (((8 * psize n - 2 : Nat) : Int)).toNat IntKind.u64.bits)) = ((2 ^ (8 * psize n - 2) * spell n : Nat) : Int) := by
    rw [show min (((8 * psize n - 2 : Nat) : Int)).toNat IntKind.u64.bits = 8 * psize n - 2 from (by show min (8 * psize n - 2) 64 = _; omega)]
    have e : (spell n : Int) * 2 ^ (8 * psize n - 2) = ((2 ^ (8 * psize n - 2) * spell n : Nat) : Int) := by
      rw [Int.natCast_mul, Int.natCast_pow, Int.mul_comm] <;> rfl
    rw [e]
    exact natwrap64 _ (by unfold pnum at hb2; omega)
  have hor := nator64 n (2 ^ (8 * psize n - 2) * spell n) (8 * psize n - 2) (spell n) hb1 rfl (by unfold pnum at hb2; omega)
  have hN : n + 2 ^ (8 * psize n - 2) * spell n = pnum n := rfl
  rw [hN] at hor
  have hm2 : (8 : Int) * (psize n : Int) - 2 = ((8 * psize n - 2 : Nat) : Int) := by omega
  refine zK (zQ (zR (zM rfl (zM rfl (wl_call (.cons rfl .nil) (spelling_c hG n hn hS) rfl ?_)))))
  rintro _ w ⟨rfl, hS⟩
  refine wl (y_conv Tryz.underlying3 Tryz.underlying190 rfl (natwrap64 (spell n) (by omega))) rfl (zM rfl (wl (y_mul rfl rfl (w64 (by omega) (by omega))) rfl (wl ((y_sub rfl rfl (w64 (by omega) (by omega))).val (congrArg (Value.int .i64) hm2)) rfl (wl (y_shl rfl rfl (by omega) hshl) rfl (wl (y_or rfl rfl hor) rfl (zA rfl (zE (zQ (zR (zM rfl (a_mkslice encB 0 Tryz.underlying173 sz_5 z_5 rfl by_5 (by decide) rfl rfl (by omega) hS rfl fun bb H w ho hS => zA rfl (zE (zQ (zQ (zR (zM rfl (wl (y_len_sl Tryz.underlying173 rfl) rfl (zM rfl (zE (zB (wc_loop (α := Nat × Chunk) (fun ⟨i, H⟩ => [(0, .int .u64 (pnum n)), (4, .int .i64 (psize n)), (5, .slice (some ⟨bb, 0, none⟩) (psize n) (psize n)), (23, .int .i64 (psize n)), (24, .int .i64 i)]) (fun ⟨i, H⟩ w => i ≤ psize n ∧ Own 5 encB (.slice (some ⟨bb, 0, none⟩) (psize n) (psize n)) ((be (pnum n) (psize n)).take i ++ List.replicate (psize n - i) (0 : UInt8)) H ∧ St M w (H :: Ls)) (fun ⟨i, _⟩ => psize n - i) (0, H) (sub_cons rfl (sub_cons rfl (sub_cons rfl (sub_cons rfl (subR rfl))))) ⟨by omega, by simpa using ho, hS⟩ ?_)))))))))))))))))))))
  rintro ⟨i, H⟩ w ⟨hi, ho, hS⟩
  have hblen : (be (pnum n) (psize n)).length = psize n := be_length _ _
  refine zQ (zR (wl (y_lss rfl rfl) rfl (zE (zQ (zIf rfl (fun hc25 => ?_) fun hc25 => ?_)))))
  · refine zK ?_
    refine zQ (zB (zQ ?_))
    have hi' : i < psize n := by omega
    have hget := be_get (pnum n) (psize n) i hi'
    have hset := setBe (pnum n) (psize n) i hi' _ hget
    have hsh : (8 : Int) * ((psize n : Int) - 1 - (i : Int)) = ((8 * (psize n - 1 - i) : Nat) : Int) := by omega
    refine zR (zM rfl (zA rfl (zE (zR (zM rfl (zM rfl (zM rfl (zM rfl (wl (y_sub rfl rfl (w64 (by omega) (by omega))) rfl (zM rfl (wl (y_sub rfl rfl (w64 (by omega) (by omega))) rfl (wl ((y_mul rfl rfl (w64 (by omega) (by omega))).val (congrArg (Value.int .i64) hsh)) rfl (wl (y_shr rfl rfl (by omega) (natshr64 (pnum n) _ (by omega))) rfl (wl (y_conv Tryz.underlying190 Tryz.underlying5 rfl (r := (((UInt8.ofNat (pnum n / 2 ^ (8 * (psize n - 1 - i)))).toNat : Nat) : Int)) (by rw [wu8]; simp)) rfl (wl (y_ixa_sl Tryz.underlying173 sz_5 rfl rfl (by omega) (by omega)) rfl (a_storeE (A := encB) (i := i) sz_5 rfl rfl (x' := UInt8.ofNat (pnum n / 2 ^ (8 * (psize n - 1 - i)))) rfl ho (by simp [hblen]; omega) hS fun H' w ho hS => ?_))))))))))))))))
    rw [hset] at ho
    refine zE (zR (wl (y_add rfl rfl (w64 (by omega) (by omega))) rfl (zM rfl (zE ?_))))
    exact ⟨(i + 1, _), by simp only; omega, sub_cons rfl (sub_cons rfl (sub_cons rfl (sub_cons rfl (subR rfl)))), by omega, ho, hS⟩
  obtain rfl : i = psize n := by omega
  rw [Nat.sub_self, List.replicate_zero, List.append_nil, List.take_of_length_le (by omega)] at ho
  refine wc_exit (zQ (zR (zM rfl (wl (y_b2sh Tryz.underlying173 Tryz.underlying9 Tryz.underlying5 rfl (ho.holds hS)) rfl (zA rfl (zA rfl (zE (zV (z2 rfl ?_)))))))))
  exact ⟨rfl, hS.keep⟩
theorem un_append (x : Nat) : ∀ (a b : List UInt8), un x (a ++ b) = un (un x a) b := by
  intro a
  induction a generalizing x with
  | nil => intro b; rfl
  | cons c l ih => intro b; simp only [List.cons_append, un, ih]
theorem un_lt : ∀ (l : List UInt8) (x : Nat), un x l < (x + 1) * 256 ^ l.length := by
  intro l
  induction l with
  | nil => intro x; simp [un]
  | cons c l ih =>
    intro x
    simp only [un, List.length_cons]
    have h1 := ih (256 * x + c.toNat)
    have h2 : c.toNat < 256 := c.toNat_lt
    have h3 : (256 * x + c.toNat + 1) * 256 ^ l.length ≤ (256 * (x + 1)) * 256 ^ l.length := Nat.mul_le_mul_right _ (by omega)
    have h4 : (256 * (x + 1)) * 256 ^ l.length = (x + 1) * 256 ^ (l.length + 1) := by rw [Nat.pow_succ, Nat.mul_comm 256 (x + 1), Nat.mul_assoc, Nat.mul_comm 256]
    omega
theorem natshr8_6 (c : UInt8) : ((c.toNat : Int)).fdiv (2 ^ (min ((6 : Int)).toNat IntKind.u8.bits)) = ((c.toNat / 64 : Nat) : Int) := by
  rw [show min ((6 : Int)).toNat IntKind.u8.bits = 6 from rfl, Int.fdiv_eq_ediv_of_nonneg _ (by decide)]
  simp
theorem natand63 (c : UInt8) : IntKind.u8.wrap ((BitVec.ofInt IntKind.u8.bits (c.toNat : Int) &&& BitVec.ofInt IntKind.u8.bits 63).toNat : Int) = ((c.toNat % 64 : Nat) : Int) := by
  have hc := c.toNat_lt
  have e1 : (BitVec.ofInt IntKind.u8.bits (c.toNat : Int)).toNat = c.toNat := by
    show (BitVec.ofInt 8 (c.toNat : Int)).toNat = c.toNat
    simp [BitVec.toNat_ofInt]
  have e2 : (BitVec.ofInt IntKind.u8.bits 63).toNat = 2 ^ 6 - 1 := rfl
  rw [BitVec.toNat_and, e1, e2, Nat.and_two_pow_sub_one_eq_mod]
  exact wnat rfl (by show c.toNat % 2 ^ 6 < 2 ^ 8; omega)
theorem shl1 (q : Nat) (h : q ≤ 61) : IntKind.i64.wrap (1 * 2 ^ (min ((q : Int)).toNat IntKind.i64.bits)) = ((2 ^ q : Nat) : Int) := by
  have hp0 : (0 : Int) < 2 ^ q := Int.pow_pos (by decide)
  have hp1 : ((2 ^ q : Nat) : Int) = 2 ^ q := by simp
  have hp2 : 2 ^ q ≤ 2 ^ 61 := Nat.pow_le_pow_right (by omega) h
  rw [show min ((q : Int)).toNat IntKind.i64.bits = q from (by show min q 64 = _; omega), Int.one_mul, w64 (by omega) (by omega), hp1]
theorem nator64' (a b i c : Nat) (ha : a < 2 ^ i) (hb : b = 2 ^ i * c) (h : a + b < 18446744073709551616) : IntKind.u64.wrap ((BitVec.ofInt IntKind.u64.bits (b : Int) ||| BitVec.ofInt IntKind.u64.bits (a : Int)).toNat : Int) = ((a + b : Nat) : Int) := by
  rw [BitVec.or_comm]; exact nator64 a b i c ha hb h
theorem bidx {b : ByteArray} {l : List UInt8} (h : b.data.toList = l) {i : Nat} {x : UInt8} (hx : l[i]? = some x) : b[((i : Nat) : Int).toNat]? = some x := by
  have hl : i < b.size := by have := (List.getElem?_eq_some_iff.1 hx).1; rw [← h] at this; simpa using this
  rw [← h] at hx
  rw [show ((i : Nat) : Int).toNat = i from rfl]
  have e : b[i]? = some b[i] := by simp [hl]
  rw [e]
  have e2 : b.data.toList[i]? = some b.data.toList[i] := List.getElem?_eq_getElem (by simpa using hl)
  rw [e2] at hx
  rw [← hx] <;> rfl
def getV (at_ : Nat) (r : Nat × Nat × Nat) : Value := .tuple [.int .u64 r.1, .int .i64 (if r.2.2 = 0 then at_ + r.2.1 else 0 : Nat), .int .i64 r.2.2].toArray
theorem get_c (hG : Bits M) (b : ByteArray) (at_ : Nat) (hb : b.size ≤ 140737488351232) (hat : at_ ≤ b.size) (hS : St M w Ls) :
    CallsR Tryz.prog 167 [.string b, .int .i64 at_].toArray w fun v w' => v = getV at_ (pget (b.data.toList.drop at_)) ∧ St M w' Ls := by
  obtain ⟨rest, hrest⟩ : ∃ r, b.extract at_ b.size = r := ⟨_, rfl⟩
  have hrl : rest.data.toList = b.data.toList.drop at_ := by
    rw [← hrest]; simp only [ByteArray.data_extract, Array.toList_extract, List.extract_eq_take_drop]; exact List.take_of_length_le (by simp)
  have hrs : rest.size = b.size - at_ := by rw [← hrest, ByteArray.size_extract]; omega
  have hll : rest.data.toList.length = rest.size := by simp
  rw [← hrl]
  refine zC 61 Tryz.func167 rfl (zQ (zR (zA rfl (zA rfl (zA rfl (zE (zQ (zQ (zR (zM rfl (wl ((y_lss rfl rfl).val (u := .bool false) (congrArg Value.bool (decide_eq_false (by omega)))) rfl (zM rfl (zI rfl (zM rfl (zI rfl (zM rfl (zI rfl (wl (y_len_s Tryz.underlying9 rfl) rfl (zI rfl (wl ((y_gtr rfl rfl).val (u := .bool false) (congrArg Value.bool (decide_eq_false (by omega)))) rfl (wl (y_pickF rfl rfl) rfl (zE (wc_ifF rfl rfl (zK (zQ (zR (zM rfl (zM rfl (wl (y_sl_s Tryz.underlying9 rfl (lv := at_) (hv := b.size) ⟨_, _, rfl, by omega, by omega⟩ rfl (by omega) (Nat.le_refl _) hrest) rfl (zA rfl (zE (zQ (zQ (zR (zM rfl (wl (y_seql rfl rfl) rfl (zM rfl (zWc (s := 24) rfl (fun hg24 => ?_) fun hg24 => ?_))))))))))))))))))))))))))))))))))))))
  · have he : rest = ByteArray.empty := hg24
    have hnil : rest.data.toList = [] := by rw [he] <;> rfl
    rw [hnil]
    refine zO rfl (zO rfl (zO rfl (zO rfl (zO rfl (zO rfl (zO rfl (wl (y_pickT rfl rfl) rfl (zE (wc_ifT rfl rfl (zQ (zR (zA rfl (zA rfl (zA rfl (zE (zV (wret (vs := [_, _, _]) (.tmp rfl (.tmp rfl (.tmp rfl .nil))) ?_)))))))))))))))))
    exact ⟨rfl, hS⟩
  obtain ⟨c, l, hcl⟩ : ∃ c l, rest.data.toList = c :: l := by
    cases h : rest.data.toList with
    | nil => exact absurd (bytes_eq (b := ByteArray.empty) h) hg24
    | cons c l => exact ⟨c, l, rfl⟩
  rw [hcl] at hll ⊢
  have hidx : rest[((0 : Int)).toNat]? = some c := bidx (i := 0) hcl rfl
  have hc := c.toNat_lt
  have hq : c.toNat / 64 ≤ 3 := by omega
  have hs8 : 2 ^ (c.toNat / 64) ≤ 2 ^ 3 := Nat.pow_le_pow_right (by omega) hq
  have hs1 : 0 < 2 ^ (c.toNat / 64) := Nat.pow_pos (by omega)
  have hshl := shl1 (c.toNat / 64) (by omega)
  obtain ⟨size, hsize⟩ : ∃ s, s = 2 ^ (c.toNat / 64) := ⟨_, rfl⟩
  rw [← hsize] at hs8 hs1 hshl
  have hpg : pget (c :: l) = if (c :: l).length < size then (0, 0, 2) else if psize (un (c.toNat % 64) (l.take (size - 1))) = size then (un (c.toNat % 64) (l.take (size - 1)), size, 0) else (0, 0, 3) := by rw [hsize] <;> rfl
  rw [hpg]
  refine zI rfl (zM rfl (zI rfl (wl (y_len_s Tryz.underlying9 rfl) rfl (zI rfl (zM rfl (zI rfl (wl (y_idx_s Tryz.underlying9 rfl rfl (by omega) hidx) rfl (zI rfl (wl (y_shr rfl rfl (by decide) (natshr8_6 c)) rfl (zI rfl (wl (y_shl rfl rfl (by omega) hshl) rfl (zI rfl (wl (y_lss rfl rfl) rfl (wl (y_pickF rfl rfl) rfl (zE (zIf rfl (fun hc32 => ?_) fun hc32 => ?_))))))))))))))))
  · rw [if_pos (by omega)]
    refine zQ (zR (zA rfl (zA rfl (zA rfl (zE (zV (wret (vs := [_, _, _]) (.tmp rfl (.tmp rfl (.tmp rfl .nil))) ?_)))))))
    exact ⟨rfl, hS⟩
  rw [if_neg (by omega)]
  have hlen1 : (c :: l).length = l.length + 1 := rfl
  refine zK (zQ (zR (zM rfl (wl (y_idx_s Tryz.underlying9 rfl rfl (by omega) hidx) rfl (wl (y_shr rfl rfl (by decide) (natshr8_6 c)) rfl (wl (y_shl rfl rfl (by omega) hshl) rfl (zA rfl (zE (zQ (zR (zM rfl (wl (y_idx_s Tryz.underlying9 rfl rfl (by omega) hidx) rfl (wl (y_and rfl rfl (natand63 c)) rfl (wl (y_conv Tryz.underlying5 Tryz.underlying190 rfl (natwrap64 (c.toNat % 64) (by omega))) rfl (zA rfl (zE (zQ (zQ (zR (zA rfl (zE (zB (wc_loop (α := Nat) (fun i => [(1, .int .i64 at_), (7, .string rest), (8, .int .i64 size), (9, .int .u64 (un (c.toNat % 64) (l.take i) : Nat)), (10, .int .i64 ((i + 1 : Nat) : Int))]) (fun i w => i + 1 ≤ size ∧ St M w Ls) (fun i => size - i) 0 (sub_cons rfl (sub_cons rfl (sub_cons rfl (sub_cons rfl (subR rfl))))) ⟨by omega, hS⟩ ?_)))))))))))))))))))))))
  rintro i w ⟨hi, hS⟩
  refine zQ (zQ (zR (zM rfl (zM rfl (wl (y_lss rfl rfl) rfl (zE (zIf rfl (fun hc43 => ?_) fun hc43 => ?_)))))))
  · refine zK ?_
    refine zQ (zB ?_)
    have hi' : i + 1 < size := by omega
    obtain ⟨x, hx⟩ : ∃ x, l[i]? = some x := ⟨_, List.getElem?_eq_getElem (by omega)⟩
    have hidx2 : rest[(((i + 1 : Nat) : Int)).toNat]? = some x := bidx hcl (by simpa using hx)
    have hxl := x.toNat_lt
    have hun : un (c.toNat % 64) (l.take (i + 1)) = x.toNat + 256 * un (c.toNat % 64) (l.take i) := by
      rw [List.take_add_one, hx, un_append]; simp only [Option.toList_some, un]; omega
    have hub := un_lt (l.take i) (c.toNat % 64)
    rw [List.length_take, Nat.min_eq_left (by omega)] at hub
    have hpw : 256 ^ i ≤ 256 ^ 6 := Nat.pow_le_pow_right (by omega) (by omega)
    have hmm : (c.toNat % 64 + 1) * 256 ^ i ≤ 64 * 256 ^ 6 := Nat.mul_le_mul (by omega) hpw
    have h6 : 64 * 256 ^ 6 = 18014398509481984 := by decide
    have hor := nator64' x.toNat (256 * un (c.toNat % 64) (l.take i)) 8 (un (c.toNat % 64) (l.take i)) (by omega) rfl (by omega)
    rw [← hun] at hor
    have hsh2 : IntKind.u64.wrap (((un (c.toNat % 64) (l.take i) : Nat) : Int) * 2 ^ (min ((8 : Int)).toNat IntKind.u64.bits)) = ((256 * un (c.toNat % 64) (l.take i) : Nat) : Int) := by
      rw [show ((un (c.toNat % 64) (l.take i) : Nat) : Int) * 2 ^ (min ((8 : Int)).toNat IntKind.u64.bits) = ((256 * un (c.toNat % 64) (l.take i) : Nat) : Int) from (by rw [show min ((8 : Int)).toNat IntKind.u64.bits = 8 from rfl]; omega)]
      exact natwrap64 _ (by omega)
    refine zR (zM rfl (wl (y_shl rfl rfl (by decide) hsh2) rfl (zM rfl (zM rfl (wl (y_idx_s Tryz.underlying9 rfl rfl (by omega) hidx2) rfl (wl (y_conv Tryz.underlying5 Tryz.underlying190 rfl (natwrap64 x.toNat (by omega))) rfl (wl (y_or rfl rfl hor) rfl (zA rfl (zE (zR (zM rfl (wl (y_add rfl rfl (w64 (by omega) (by omega))) rfl (zA rfl (zE ?_))))))))))))))
    exact ⟨i + 1, by omega, sub_cons rfl (sub_cons rfl (sub_cons rfl (sub_cons rfl (subR rfl)))), by omega, hS⟩
  have hie : i = size - 1 := by omega
  have hub := un_lt (l.take i) (c.toNat % 64)
  rw [List.length_take, Nat.min_eq_left (by omega)] at hub
  have hpw : 256 ^ i ≤ 256 ^ 7 := Nat.pow_le_pow_right (by omega) (by omega)
  have hmm : (c.toNat % 64 + 1) * 256 ^ i ≤ 64 * 256 ^ 7 := Nat.mul_le_mul (by omega) hpw
  have h7 : 64 * 256 ^ 7 = 4611686018427387904 := by decide
  rw [← hie]
  refine wc_exit (zQ (zQ (zR (zM rfl (wl_call (.cons rfl .nil) (size_c hG (un (c.toNat % 64) (l.take i)) (by omega) hS) rfl ?_)))))
  rintro _ w ⟨rfl, hS⟩
  refine zM rfl (wl (y_neq rfl rfl) rfl (zE (zIf rfl (fun hc56 => ?_) fun hc56 => ?_)))
  · rw [if_neg (by omega)]
    refine zQ (zR (zA rfl (zA rfl (zA rfl (zE (zV (wret (vs := [_, _, _]) (.tmp rfl (.tmp rfl (.tmp rfl .nil))) ?_)))))))
    exact ⟨rfl, hS⟩
  rw [if_pos (by omega)]
  refine zK (zQ (zR (zM rfl (zM rfl (zM rfl (wl (y_add rfl rfl (w64 (by omega) (by omega))) rfl (zA rfl (zA rfl (zA rfl (zE (zV (wret (vs := [_, _, _]) (.tmp rfl (.tmp rfl (.tmp rfl .nil))) ?_))))))))))))
  exact ⟨rfl, hS⟩
def zig (n : Int) : Nat := if n < 0 then (-(2 * n) - 1).toNat else (2 * n).toNat
def zag (n : Nat) : Int := if n < 4611686018427387904 then (if n % 2 = 1 then -((n / 2 : Nat) : Int) - 1 else ((n / 2 : Nat) : Int)) else 0
def zigOk (n : Int) : Bool := decide (-2305843009213693952 ≤ n ∧ n < 2305843009213693952)
def zigV (n : Int) : Value := if zigOk n then .tuple [.int .u64 (zig n), .bool true].toArray else .tuple [.int .u64 0, .bool false].toArray
theorem zig_eq (n : Int) (h0 : -2305843009213693952 ≤ n) (h1 : n < 2305843009213693952) :
    IntKind.u64.wrap ((BitVec.ofInt IntKind.u64.bits (IntKind.u64.wrap (IntKind.i64.wrap (n * 2 ^ (min ((1 : Int)).toNat IntKind.i64.bits)))) ^^^ BitVec.ofInt IntKind.u64.bits (IntKind.u64.wrap (n.fdiv (2 ^ (min ((63 : Int)).toNat IntKind.i64.bits))))).toNat : Int) = (zig n : Nat) := by
  have e1 : IntKind.i64.wrap (n * 2 ^ (min ((1 : Int)).toNat IntKind.i64.bits)) = 2 * n := by
    rw [show min ((1 : Int)).toNat IntKind.i64.bits = 1 from rfl, show n * 2 ^ 1 = 2 * n by omega]
    exact w64 (by omega) (by omega)
  rw [e1]
  unfold zig
  by_cases hn : n < 0
  · have e2 : n.fdiv (2 ^ (min ((63 : Int)).toNat IntKind.i64.bits)) = -1 := by
      rw [show min ((63 : Int)).toNat IntKind.i64.bits = 63 from rfl, Int.fdiv_eq_ediv_of_nonneg _ (by decide)]
      omega
    rw [e2, if_pos hn]
    have e3 : IntKind.u64.wrap (2 * n) = ((18446744073709551616 + 2 * n).toNat : Int) := by rw [wu64]; omega
    have e4 : IntKind.u64.wrap (-1) = ((18446744073709551615 : Nat) : Int) := by decide
    rw [e3, e4]
    change IntKind.u64.wrap (((BitVec.ofInt 64 ((18446744073709551616 + 2 * n).toNat : Int) ^^^ BitVec.ofInt 64 ((18446744073709551615 : Nat) : Int)).toNat : Nat) : Int) = _
    have e5 : (BitVec.ofInt 64 ((18446744073709551615 : Nat) : Int)) = BitVec.allOnes 64 := by decide
    have e6 : (BitVec.ofInt 64 ((18446744073709551616 + 2 * n).toNat : Int)).toNat = (18446744073709551616 + 2 * n).toNat := by
      rw [BitVec.toNat_ofInt]; omega
    rw [e5, BitVec.xor_comm, BitVec.allOnes_xor, BitVec.toNat_not, e6, wu64]
    omega
  have e2 : n.fdiv (2 ^ (min ((63 : Int)).toNat IntKind.i64.bits)) = 0 := by
    rw [show min ((63 : Int)).toNat IntKind.i64.bits = 63 from rfl, Int.fdiv_eq_ediv_of_nonneg _ (by decide)]
    omega
  rw [e2, if_neg hn]
  have e3 : IntKind.u64.wrap (2 * n) = ((2 * n).toNat : Int) := by rw [wu64]; omega
  have e4 : IntKind.u64.wrap 0 = 0 := by decide
  rw [e3, e4]
  change IntKind.u64.wrap (((BitVec.ofInt 64 ((2 * n).toNat : Int) ^^^ BitVec.ofInt 64 0).toNat : Nat) : Int) = _
  have e6 : (BitVec.ofInt 64 ((2 * n).toNat : Int)).toNat = (2 * n).toNat := by
    rw [BitVec.toNat_ofInt]; omega
  have e8 : BitVec.ofInt 64 0 = 0#64 := by decide
  rw [e8, BitVec.xor_zero, e6, wu64]
  omega
theorem zag_eq (n : Nat) (h : n < 4611686018427387904) :
    IntKind.i64.wrap ((BitVec.ofInt IntKind.i64.bits ((n / 2 : Nat) : Int) ^^^ BitVec.ofInt IntKind.i64.bits (-((n % 2 : Nat) : Int))).toNat : Int) = zag n := by
  unfold zag
  rw [if_pos h]
  change IntKind.i64.wrap (((BitVec.ofInt 64 ((n / 2 : Nat) : Int) ^^^ BitVec.ofInt 64 (-((n % 2 : Nat) : Int))).toNat : Nat) : Int) = _
  have e6 : (BitVec.ofInt 64 ((n / 2 : Nat) : Int)).toNat = n / 2 := by
    rw [BitVec.toNat_ofInt]; omega
  rcases Nat.mod_two_eq_zero_or_one n with hm | hm
  · rw [hm, if_neg (by decide)]
    have e8 : BitVec.ofInt 64 (-((0 : Nat) : Int)) = 0#64 := by decide
    rw [e8, BitVec.xor_zero, e6]
    exact w64 (by omega) (by omega)
  rw [hm, if_pos rfl]
  have e8 : BitVec.ofInt 64 (-((1 : Nat) : Int)) = BitVec.allOnes 64 := by decide
  rw [e8, BitVec.xor_comm, BitVec.allOnes_xor, BitVec.toNat_not, e6]
  simp only [IntKind.wrap, IntKind.bits, IntKind.signed, Bool.true_and, ge_iff_le, decide_eq_true_eq, Nat.reduceSub, Int.reducePow, Nat.reducePow]
  split <;> omega
theorem zig_c (n : Int) (h : -9223372036854775808 ≤ n ∧ n ≤ 9223372036854775807) (hS : St M w Ls) :
    CallsR Tryz.prog 188 [.int .i64 n].toArray w fun v w' => v = zigV n ∧ St M w' Ls := by
  unfold zigV zigOk
  refine zC 19 Tryz.func188 rfl (zQ (zR (zA rfl (zA rfl (zE (zQ (zR (zM rfl (wl (y_shl rfl rfl (by decide) rfl) rfl (wl (y_conv Tryz.underlying2 Tryz.underlying190 rfl rfl) rfl (zM rfl (wl (y_shr rfl rfl (by decide) rfl) rfl (wl (y_conv Tryz.underlying2 Tryz.underlying190 rfl rfl) rfl (wl (y_xor rfl rfl rfl) rfl (zA rfl (zE (zQ (zQ (zR (zM rfl (wl (y_lss rfl rfl) rfl (zM rfl (zWc (s := 14) rfl (fun hg14 => ?_) fun hg14 => ?_)))))))))))))))))))))))
  · refine zO rfl ?_
    refine zO rfl (wl (y_pickT rfl rfl) rfl (zE (wc_ifT rfl rfl (zQ (zR (zA rfl (zA rfl (zE (zV (z2 rfl ?_))))))))))
    first
    | exact ⟨rfl, hS⟩
    | (rw [decide_eq_false (by omega), if_neg (by decide)]; exact ⟨rfl, hS⟩)
  refine zI rfl ?_
  refine zM rfl (zI rfl (wl (y_geq rfl rfl) rfl (wl (y_pickF rfl rfl) rfl (zE (zIf rfl (fun hc17 => ?_) fun hc17 => ?_)))))
  · rw [decide_eq_false (by omega), if_neg (by decide)]
    refine zQ (zR (zA rfl (zA rfl (zE (zV (z2 rfl ?_))))))
    first
    | exact ⟨rfl, hS⟩
    | (rw [decide_eq_false (by omega), if_neg (by decide)]; exact ⟨rfl, hS⟩)
  rw [decide_eq_true (by omega), if_pos rfl, ← zig_eq n (by omega) (by omega)]
  refine zK (zQ (zR (zM rfl (zA rfl (zA rfl (zE (zV (z2 rfl ?_))))))))
  first
  | exact ⟨rfl, hS⟩
  | (rw [decide_eq_false (by omega), if_neg (by decide)]; exact ⟨rfl, hS⟩)
theorem zag_c (n : Nat) (hn : n < 18446744073709551616) (hS : St M w Ls) :
    CallsR Tryz.prog 192 [.int .u64 n].toArray w fun v w' => v = .int .i64 (zag n) ∧ St M w' Ls := by
  refine zC 13 Tryz.func192 rfl (zQ (zR (zA rfl (zE (zQ (zQ (zR (zM rfl (wl (y_geq rfl rfl) rfl (zE (zIf rfl (fun hc4 => ?_) fun hc4 => ?_)))))))))))
  · have hz : zag n = 0 := by unfold zag; rw [if_neg (by omega)]
    rw [hz]
    refine zQ (zR (zA rfl (zE (zV (z1 rfl ?_)))))
    exact ⟨rfl, hS⟩
  rw [← zag_eq n (by omega)]
  have hand : IntKind.u64.wrap ((BitVec.ofInt IntKind.u64.bits (n : Int) &&& BitVec.ofInt IntKind.u64.bits 1).toNat : Int) = ((n % 2 : Nat) : Int) := by
    have e1 : (BitVec.ofInt IntKind.u64.bits (n : Int)).toNat = n := by
      show (BitVec.ofInt 64 (n : Int)).toNat = n
      rw [BitVec.toNat_ofInt]; omega
    have e2 : (BitVec.ofInt IntKind.u64.bits 1).toNat = 1 := rfl
    rw [BitVec.toNat_and, e1, e2, Nat.and_one_is_mod]
    exact natwrap64 _ (by omega)
  refine zK (zQ (zR (zM rfl (wl (y_shr rfl rfl (by decide) (natshr64 n 1 (by decide))) rfl (wl (y_conv Tryz.underlying190 Tryz.underlying2 rfl (w64 (by omega) (by omega))) rfl (zM rfl (wl (y_and rfl rfl hand) rfl (wl (y_conv Tryz.underlying190 Tryz.underlying2 rfl (w64 (by omega) (by omega))) rfl (wl (y_neg rfl (w64 (by omega) (by omega))) rfl (wl (y_xor rfl rfl (by rw [Nat.pow_one, Int.zero_sub])) rfl (zA rfl (zE (zV (z1 rfl ?_))))))))))))))
  exact ⟨rfl, hS⟩
end
end Go.Proofs.YtndahppmjdbifaaGreatDoor.Pre
set_option linter.unusedVariables false
set_option linter.unusedSimpArgs false
namespace Go.Proofs.YtndahppmjdbifaaGreatDoor.Pak
open Go Go.Proofs Eng Pre
def IsW (p : Nat) (bs : List UInt8) (wrong : Bool) (H : Chunk) : Prop :=
  ∃ a s Hs, (a = none ∨ a = some ⟨p, 0, none⟩) ∧ Own 5 encB s bs Hs ∧ H = (p, .cells #[.pointer a, s, .bool wrong] 177) :: Hs
section
variable {M : Mem} {w : World} {Ls : List Chunk}
theorem St.shape {b : Nat} {cs : Array Value} {T : TypeId} {fz : Nat × Nat} (hS : St M w Ls) [Has Ls b (.cells cs T fz)] : w.shape? b = some (T, cs.size) := by
  unfold World.shape?; rw [hS.has]
theorem copyCheck_c {p : Nat} {a : Option Addr} {s r : Value} (ha : a = none ∨ a = some ⟨p, 0, none⟩) (hS : St M w ([(p, .cells #[.pointer a, s, r] 177)] :: Ls)) :
    CallsR Tryz.prog 198 [.pointer (some ⟨p, 0, none⟩)].toArray w fun v w' => St M w' ([(p, .cells #[.pointer (some ⟨p, 0, none⟩), s, r] 177)] :: Ls) := by
  rcases ha with rfl | rfl
  · refine zC 20 Tryz.func198 rfl ?_
    refine zQ (zR (zM rfl (zN rfl (zF fl_175_0 rfl (wl (y_load pl_172 rfl (hS.cell rfl)) rfl (wl ((y_pnil Tryz.underlying172 rfl rfl).val (u := .bool true) (congrArg Value.bool (rfl))) rfl (zE (wc_ifT rfl rfl (zR (zM rfl (zM rfl (wl (y_tounsafe Tryz.underlying172 Tryz.underlying264 (k := 1) sz_175 rfl (St.shape hS) (by show 0 < 3; decide)) rfl (wl_extern (e := Extern.AbiNoEscape.same) (vs := [_]) Tryz.func202 (by kernel_rfl) rfl (by kernel_rfl) (by kernel_rfl) (.cons rfl .nil) rfl rfl (wl (y_fromunsafe Tryz.underlying264 Tryz.underlying172 sz_175 rfl (St.shape hS) (by kernel_rfl)) rfl (zN rfl (zF fl_175_0 rfl (zS sz_172 rfl hS fun w hS => zE ?_)))))))))))))))))
    simp only [zL, cells_agg, setCells] at hS
    refine wretN (vs := []) .nil ?_
    exact hS
  refine zC 20 Tryz.func198 rfl ?_
  refine zQ (zR (zM rfl (zN rfl (zF fl_175_0 rfl (wl (y_load pl_172 rfl (hS.cell rfl)) rfl (wl ((y_pnil Tryz.underlying172 rfl rfl).val (u := .bool false) (congrArg Value.bool (rfl))) rfl (zE (wc_ifF rfl rfl (zQ (zR (zM rfl (zN rfl (zF fl_175_0 rfl (wl (y_load pl_172 rfl (hS.cell rfl)) rfl (zM rfl (wl (y_pneqsame Tryz.underlying172 sz_175 rfl rfl) rfl (zE (wc_ifF rfl rfl (zK (wretN (vs := []) .nil ?_))))))))))))))))))))
  exact hS
theorem wstr_c {p : Nat} {bs : List UInt8} {wrong : Bool} {H : Chunk} (b : ByteArray) (hb : IsW p bs wrong H) (hs : bs.length + b.size ≤ 274877906944) (hS : St M w (H :: Ls)) :
    CallsR Tryz.prog 187 [.pointer (some ⟨p, 0, none⟩), .string b].toArray w fun v w' => ∃ H', IsW p (bs ++ b.data.toList) wrong H' ∧ St M w' (H' :: Ls) := by
  obtain ⟨a, s, Hs, ha, ho, rfl⟩ := hb
  obtain ⟨sa, sc, rfl⟩ := ho.slice
  refine zC 19 Tryz.func187 rfl (zQ (zR (zA rfl (zA rfl (zE (zQ (zR (zM rfl (wl_call (.cons rfl .nil) (copyCheck_c ha hS.uncons) rfl ?_)))))))))
  intro _ w hS
  refine zE (zQ (zR (zM rfl (zM rfl (zN rfl (zF fl_175_1 rfl (wl (y_load pl_173 rfl (hS.cell rfl)) rfl (zM rfl (a_append_s Tryz.underlying173 Tryz.underlying9 sz_5 z_5 rfl by_5 (by decide) rfl rfl ho hS hs rfl fun s1 H1 w ho1 hS => ?_)))))))))
  obtain ⟨sa1, sc1, rfl⟩ := ho1.slice
  refine zN rfl (zF fl_175_1 rfl (zS sz_173 rfl hS fun w hS => zE ?_))
  simp only [zL, cells_agg, setCells] at hS
  refine zQ (zR (zM rfl (wl (y_len_s Tryz.underlying9 rfl) rfl (zA rfl (zA rfl (zE (zV (z2 rfl ?_))))))))
  exact ⟨_, ⟨_, _, _, .inr rfl, ho1, rfl⟩, hS.keep⟩
theorem bstr_c {p : Nat} {bs : List UInt8} {wrong : Bool} {H : Chunk} (hb : IsW p bs wrong H) (hs : bs.length ≤ 274877906944) (hS : St M w (H :: Ls)) :
    CallsR Tryz.prog 164 [.pointer (some ⟨p, 0, none⟩)].toArray w fun v w' => v = .string (str bs) ∧ St M w' Ls := by
  obtain ⟨a, s, Hs, ha, ho, rfl⟩ := hb
  obtain ⟨sa, sc, rfl⟩ := ho.slice
  cases sa with
  | none =>
    have hnil : bs = [] := by
      rcases ho with ⟨h1, h2, _⟩ | ⟨b, off, cap, pre, sp, fz, h1, _⟩
      · exact h2
      cases h1
    subst hnil
    refine zC 14 Tryz.func164 rfl (zQ (zR (zA rfl (zE (zQ (zW hS (fun w => w.cell? ⟨p, 1, none⟩ = some (.slice none 0 sc)) [] wide_ rfl fun w hS => zPm 0 1 rfl (zPn 1 3 rfl (zPf 2 7 fl_175_1 rfl (zPm 5 39 rfl (zPn 6 103 rfl (zPf 7 231 fl_175_1 rfl (zD 3 239 rfl (hS.cell rfl) (fun w hS => y_load pl_173 rfl hS) (zP 4 255 rfl (fun w => y_sdata_nil rfl) (zD 8 511 rfl (hS.cell rfl) (fun w hS => y_load pl_173 rfl hS) (zP 9 1023 rfl (fun w => y_len_sl Tryz.underlying173 rfl) (zP 10 2047 rfl (fun w => y_ustr0 rfl rfl) (zPa 11 4095 rfl (zH (zV (z1 rfl ?_))))))))))))))))))))
    exact ⟨rfl, hS.keep⟩
  | some ad =>
    obtain ⟨g, off, hg⟩ : ∃ g off, ad = ⟨g, off, none⟩ := by
      rcases ho with ⟨h1, _⟩ | ⟨b, off, cap, pre, sp, fz, h1, _⟩
      · cases h1
      simp only [Value.slice.injEq, Option.some.injEq] at h1; exact ⟨b, off, h1.1⟩
    subst hg
    obtain ⟨_, hcap⟩ := ho.cap
    by_cases hne : bs = []
    · subst hne
      by_cases hc : sc = 0
      · subst hc
        obtain ⟨T0, cs0, fz0, hH⟩ : ∃ T0 cs0 fz0, Hs = [(g, .cells cs0 T0 fz0)] := by
          rcases ho with ⟨h1, _⟩ | ⟨b, off, cap, pre, sp, fz, h1, h2, _⟩
          · cases h1
          simp only [Value.slice.injEq, Option.some.injEq, Addr.mk.injEq] at h1; obtain ⟨⟨rfl, _, _⟩, _, _⟩ := h1; exact ⟨_, _, _, h2⟩
        subst hH
        refine zC 14 Tryz.func164 rfl (zQ (zR (zA rfl (zE (zQ (zW hS (fun w => w.cell? ⟨p, 1, none⟩ = some (.slice (some ⟨g, off, none⟩) 0 0)) [] wide_ rfl fun w hS => zPm 0 1 rfl (zPn 1 3 rfl (zPf 2 7 fl_175_1 rfl (zPm 5 39 rfl (zPn 6 103 rfl (zPf 7 231 fl_175_1 rfl (zD 3 239 rfl (hS.cell rfl) (fun w hS => y_load pl_173 rfl hS) (zD 8 495 rfl (hS.cell rfl) (fun w hS => y_load pl_173 rfl hS) (zP 9 1007 rfl (fun w => y_len_sl Tryz.underlying173 rfl) (zU 4 1023 rfl (a_sdata0 Tryz.underlying251 rfl (St.shape (b := g) hS.uncons) hS rfl fun q Hq w hS => zE ⟨fun _ _ => hS.c, zP 10 2047 rfl (fun w => y_ustr0 rfl rfl) (zPa 11 4095 rfl (zH (zV (z1 rfl ?_))))⟩))))))))))))))))
        exact ⟨rfl, hS.keep⟩
      refine zC 14 Tryz.func164 rfl ?_
      refine zQ (zR (zA rfl (zE (zQ (zW hS (fun w => w.cell? ⟨p, 1, none⟩ = some (.slice (some ⟨g, off, none⟩) 0 sc)) [] wide_ rfl fun w hS => zPm 0 1 rfl (zPn 1 3 rfl (zPf 2 7 fl_175_1 rfl (zPm 5 39 rfl (zPn 6 103 rfl (zPf 7 231 fl_175_1 rfl (zD 3 239 rfl (hS.cell rfl) (fun w hS => y_load pl_173 rfl hS) (zP 4 255 rfl (fun w => y_sdata hc rfl) (zD 8 511 rfl (hS.cell rfl) (fun w hS => y_load pl_173 rfl hS) (zP 9 1023 rfl (fun w => y_len_sl Tryz.underlying173 rfl) (zP 10 2047 rfl (fun w => y_ustr0 rfl rfl) (zPa 11 4095 rfl (zH (zV (z1 rfl ?_)))))))))))))))))))
      exact ⟨rfl, hS.keep⟩
    have hc : sc ≠ 0 := by have : bs.length ≠ 0 := by simpa using hne
                           omega
    refine zC 14 Tryz.func164 rfl (zQ (zR (zA rfl (zE (zQ (zW hS (fun w => w.cell? ⟨p, 1, none⟩ = some (.slice (some ⟨g, off, none⟩) bs.length sc)) [10] wide_ rfl fun w hS => zPm 0 1 rfl (zPn 1 3 rfl (zPf 2 7 fl_175_1 rfl (zPm 5 39 rfl (zPn 6 103 rfl (zPf 7 231 fl_175_1 rfl (zD 3 239 rfl (hS.cell rfl) (fun w hS => y_load pl_173 rfl hS) (zP 4 255 rfl (fun w => y_sdata hc rfl) (zD 8 511 rfl (hS.cell rfl) (fun w hS => y_load pl_173 rfl hS) (zP 9 1023 rfl (fun w => y_len_sl Tryz.underlying173 rfl) (zU 10 2047 rfl (a_ustr Tryz.underlying251 (by kernel_rfl) rfl rfl hne (by omega) ho hS rfl fun w hS => zE ⟨fun h => absurd (by decide) h, zPa 11 4095 rfl (zH (zV (z1 rfl ?_)))⟩)))))))))))))))))
    exact ⟨rfl, hS.keep⟩
theorem putw_c (hG : Bits M) {p : Nat} {bs : List UInt8} {H : Chunk} (n : Nat) (hn : n < 4611686018427387904) (hb : IsW p bs false H) (hs : bs.length ≤ 137438953472) (hS : St M w (H :: Ls)) :
    CallsR Tryz.prog 161 [.pointer (some ⟨p, 0, none⟩), .int .u64 n, .bool true].toArray w fun v w' => ∃ H', IsW p (bs ++ pput n) false H' ∧ St M w' (H' :: Ls) := by
  have hpl : (pput n).length ≤ 8 := by unfold pput; rw [be_length]; exact psize_le n
  have hpv : putV n = .tuple [.string (str (pput n)), .int .i64 0].toArray := by unfold putV; rw [if_pos hn]
  have hss : (str (pput n)).size = (pput n).length := by simp [str, ByteArray.size]
  obtain ⟨a, s, Hs, ha, ho, rfl⟩ := hb
  refine zC 33 Tryz.func161 rfl (zQ (zR (zM rfl (wl_call (.cons rfl .nil) (put_c hG n (by omega) hS) rfl ?_))))
  rintro _ w ⟨rfl, hS⟩
  rw [hpv]
  refine zM rfl (zX rfl (zX rfl (zA rfl (zA rfl (zE (zQ (zR (zM rfl (zM rfl (zN rfl (zF fl_177_1 rfl (wl (y_load pl_4 rfl (hS.cell rfl)) rfl (zM rfl (zI rfl (zM rfl (zI rfl (wl (y_not rfl) rfl (wl (y_pickF rfl rfl) rfl (zM rfl (zI rfl (zM rfl (zI rfl (wl ((y_neq rfl rfl).val (u := .bool false) rfl) rfl (wl (y_pickF rfl rfl) rfl (zN rfl (zF fl_177_1 rfl (zS sz_4 rfl hS fun w hS => zE ?_)))))))))))))))))))))))))))
  simp only [zL, cells_agg, setCells] at hS
  refine zR (zM rfl (zN rfl (zF fl_177_0 rfl (zM rfl (wl_call (.cons rfl (.cons rfl .nil)) (wstr_c (str (pput n)) ⟨a, s, Hs, ha, ho, rfl⟩ (by rw [hss]; omega) hS) rfl ?_)))))
  rintro _ w ⟨H', hb, hS⟩
  refine zE (wretN (vs := []) .nil ?_)
  exact ⟨_, hb, hS⟩
theorem wnum_c (hG : Bits M) {p : Nat} {bs : List UInt8} {H : Chunk} (n : Nat) (hn : n < 4611686018427387904) (hb : IsW p bs false H) (hs : bs.length ≤ 137438953472) (hS : St M w (H :: Ls)) :
    CallsR Tryz.prog 122 [.pointer (some ⟨p, 0, none⟩), .int .i64 n].toArray w fun v w' => ∃ H', IsW p (bs ++ pput n) false H' ∧ St M w' (H' :: Ls) := by
  refine zC 10 Tryz.func122 rfl (zR (zM rfl (zM rfl (wl (y_conv Tryz.underlying3 Tryz.underlying190 rfl (natwrap64 n (by omega))) rfl (zM rfl (wl ((y_geq rfl rfl).val (u := .bool true) (congrArg Value.bool (decide_eq_true (by omega)))) rfl (wl_call (.cons rfl (.cons rfl (.cons rfl .nil))) (putw_c hG n hn hb hs hS) rfl ?_)))))))
  rintro _ w ⟨H', hb, hS⟩
  refine zE (wretN (vs := []) .nil ?_)
  exact ⟨_, hb, hS⟩
theorem wsig_c (hG : Bits M) {p : Nat} {bs : List UInt8} {H : Chunk} (n : Int) (hn : -2305843009213693952 ≤ n ∧ n < 2305843009213693952) (hb : IsW p bs false H) (hs : bs.length ≤ 137438953472) (hS : St M w (H :: Ls)) :
    CallsR Tryz.prog 163 [.pointer (some ⟨p, 0, none⟩), .int .i64 n].toArray w fun v w' => ∃ H', IsW p (bs ++ pput (zig n)) false H' ∧ St M w' (H' :: Ls) := by
  have hz : zig n < 4611686018427387904 := by unfold zig; split <;> omega
  have hzv : zigV n = .tuple [.int .u64 (zig n), .bool true].toArray := by unfold zigV zigOk; rw [decide_eq_true hn, if_pos rfl]
  refine zC 10 Tryz.func163 rfl (zR (zM rfl (zM rfl (wl_call (.cons rfl .nil) (zig_c n (by omega) hS) rfl ?_))))
  rintro _ w ⟨rfl, hS⟩
  rw [hzv]
  refine zX rfl (zX rfl (wl_call (.cons rfl (.cons rfl (.cons rfl .nil))) (putw_c hG (zig n) hz hb hs hS) rfl ?_))
  rintro _ w ⟨H', hb, hS⟩
  refine zE (wretN (vs := []) .nil ?_)
  exact ⟨_, hb, hS⟩
def ptext (b : ByteArray) : List UInt8 := pput b.size ++ b.data.toList
theorem wtext_c (hG : Bits M) {p : Nat} {bs : List UInt8} {H : Chunk} (b : ByteArray) (hn : b.size ≤ 1099511627776) (hb : IsW p bs false H) (hs : bs.length + b.size ≤ 68719476736) (hS : St M w (H :: Ls)) :
    CallsR Tryz.prog 162 [.pointer (some ⟨p, 0, none⟩), .string b].toArray w fun v w' => ∃ H', IsW p (bs ++ ptext b) false H' ∧ St M w' (H' :: Ls) := by
  have hpl : (pput b.size).length ≤ 8 := by unfold pput; rw [be_length]; exact psize_le _
  have he : bs ++ ptext b = (bs ++ pput b.size) ++ b.data.toList := by unfold ptext; rw [List.append_assoc]
  rw [he]
  refine zC 13 Tryz.func162 rfl (zQ (zR (zM rfl (zM rfl (wl (y_len_s Tryz.underlying9 rfl) rfl (wl_call (.cons rfl (.cons rfl .nil)) (wnum_c hG b.size (by omega) hb (by omega) hS) rfl ?_))))))
  rintro _ w ⟨H', hb, hS⟩
  refine zE (zR (zM rfl (zN rfl (zF fl_177_0 rfl (zM rfl (wl_call (.cons rfl (.cons rfl .nil)) (wstr_c b hb (by rw [List.length_append]; omega) hS) rfl ?_))))))
  rintro _ w ⟨H', hb, hS⟩
  refine zE (wretN (vs := []) .nil ?_)
  exact ⟨_, hb, hS⟩
theorem wbytes_c {p : Nat} {bs : List UInt8} {H : Chunk} (hb : IsW p bs false H) (hs : bs.length ≤ 274877906944) (hS : St M w (H :: Ls)) :
    CallsR Tryz.prog 124 [.pointer (some ⟨p, 0, none⟩)].toArray w fun v w' => v = .tuple [.string (str bs), .int .i64 0].toArray ∧ St M w' Ls := by
  have hb0 := hb
  obtain ⟨a, s, Hs, ha, ho, rfl⟩ := hb
  refine zC 12 Tryz.func124 rfl (zQ (zR (zA rfl (zA rfl (zE (zQ (zQ (zR (zM rfl (zN rfl (zF fl_177_1 rfl (wl (y_load pl_4 rfl (hS.cell rfl)) rfl (zE (wc_ifF rfl rfl (zK (zQ (zR (zM rfl (zN rfl (zF fl_177_0 rfl (wl_call (.cons rfl .nil) (bstr_c hb0 hs hS) rfl ?_)))))))))))))))))))))
  rintro _ w ⟨rfl, hS⟩
  refine zA rfl (zA rfl (zE (zV (z2 rfl ?_))))
  exact ⟨rfl, hS⟩
end
end Go.Proofs.YtndahppmjdbifaaGreatDoor.Pak
set_option linter.unusedVariables false
set_option linter.unusedSimpArgs false
namespace Go.Proofs.YtndahppmjdbifaaGreatDoor.Pak
open Go Go.Proofs Eng Pre
structure Rdr where
  b : ByteArray
  at_ : Nat
  e : Nat
def Rdr.ok (r : Rdr) : Prop := r.at_ ≤ r.b.size ∧ r.b.size ≤ 140737488351232
def rest (r : Rdr) : List UInt8 := r.b.data.toList.drop r.at_
@[irreducible] def rraw (r : Rdr) : Nat × Rdr :=
  if r.e ≠ 0 then (0, r) else
  if (pget (rest r)).2.2 ≠ 0 then (0, ⟨r.b, r.at_, (pget (rest r)).2.2⟩) else ((pget (rest r)).1, ⟨r.b, r.at_ + (pget (rest r)).2.1, r.e⟩)
@[irreducible] def rfail (r : Rdr) (e : Nat) : Rdr := if r.e = 0 then ⟨r.b, r.at_, e⟩ else r
@[irreducible] def rnum (r : Rdr) (lim : Nat) : Nat × Rdr := if (rraw r).1 > lim then (0, rfail (rraw r).2 1) else rraw r
@[irreducible] def rsig (r : Rdr) : Int × Rdr := (zag (rraw r).1, (rraw r).2)
@[irreducible] def rtext (r : Rdr) (lim : Nat) : ByteArray × Rdr :=
  let x := rnum r lim
  if x.1 > x.2.b.size - x.2.at_ then (ByteArray.empty, rfail x.2 2) else (x.2.b.extract x.2.at_ (x.2.at_ + x.1), ⟨x.2.b, x.2.at_ + x.1, x.2.e⟩)
@[irreducible] def rend (r : Rdr) : Rdr := if r.at_ < r.b.size then rfail r 4 else r
theorem pget_ok (l : List UInt8) : (pget l).2.1 ≤ l.length ∧ (pget l).1 < 4611686018427387904 := by
  cases l with
  | nil => simp [pget]
  | cons c l =>
    simp only [pget]
    by_cases h : (c :: l).length < 2 ^ (c.toNat / 64)
    · rw [if_pos h]; simp
    rw [if_neg h]
    by_cases h2 : psize (un (c.toNat % 64) (l.take (2 ^ (c.toNat / 64) - 1))) = 2 ^ (c.toNat / 64)
    · rw [if_pos h2]
      refine ⟨by simp only; omega, ?_⟩
      simp only
      rcases Nat.lt_or_ge (un (c.toNat % 64) (l.take (2 ^ (c.toNat / 64) - 1))) 4611686018427387904 with h3 | h3
      · exact h3
      have : psize (un (c.toNat % 64) (l.take (2 ^ (c.toNat / 64) - 1))) = 0 := by unfold psize; rw [if_neg (by omega)]
      have hp : 0 < 2 ^ (c.toNat / 64) := Nat.pow_pos (by omega)
      omega
    rw [if_neg h2]; simp
theorem pget_e (l : List UInt8) : (pget l).2.2 ≤ 3 := by
  cases l with
  | nil => simp [pget]
  | cons c l =>
    simp only [pget]
    split
    · simp
    split <;> simp
theorem rest_length {r : Rdr} (h : r.ok) : (rest r).length = r.b.size - r.at_ := by unfold rest; rw [List.length_drop]; simp
theorem rraw_ok {r : Rdr} (h : r.ok) : (rraw r).2.ok ∧ (rraw r).1 < 4611686018427387904 ∧ (rraw r).2.b = r.b := by
  unfold rraw
  have hp := pget_ok (rest r)
  rw [rest_length h] at hp
  split
  · exact ⟨h, (by decide : 0 < 4611686018427387904), rfl⟩
  split
  · exact ⟨h, (by decide : 0 < 4611686018427387904), rfl⟩
  exact ⟨⟨by have := h.1; simp only; omega, h.2⟩, hp.2, rfl⟩
theorem rfail_ok {r : Rdr} (h : r.ok) (e : Nat) : (rfail r e).ok ∧ (rfail r e).b = r.b := by
  unfold rfail; split
  · exact ⟨h, rfl⟩
  exact ⟨h, rfl⟩
theorem rnum_ok {r : Rdr} (h : r.ok) (lim : Nat) : (rnum r lim).2.ok ∧ (rnum r lim).1 ≤ lim ∧ (rnum r lim).2.b = r.b := by
  have h1 := rraw_ok h
  unfold rnum
  split
  · exact ⟨(rfail_ok h1.1 1).1, Nat.zero_le _, (rfail_ok h1.1 1).2.trans h1.2.2⟩
  exact ⟨h1.1, by omega, h1.2.2⟩
theorem rtext_ok {r : Rdr} (h : r.ok) (lim : Nat) : (rtext r lim).2.ok ∧ (rtext r lim).1.size ≤ lim ∧ (rtext r lim).2.b = r.b := by
  have h1 := rnum_ok h lim
  unfold rtext
  simp only
  split
  · exact ⟨(rfail_ok h1.1 2).1, Nat.zero_le _, (rfail_ok h1.1 2).2.trans h1.2.2⟩
  refine ⟨⟨?_, h1.1.2⟩, ?_, h1.2.2⟩
  · have := h1.1.1; simp only; omega
  rw [ByteArray.size_extract]; have := h1.2.1; omega
def rdrO (r : Rdr) : Obj := .cells #[.string r.b, .int .i64 r.at_, .int .i64 r.e] 189
section
variable {M : Mem} {w : World} {Ls : List Chunk}
theorem read_c (b : ByteArray) (hS : St M w Ls) : CallsR Tryz.prog 65 [.string b].toArray w fun v w' => ∃ p, v = .pointer (some ⟨p, 0, none⟩) ∧ St M w' ([(p, rdrO ⟨b, 0, 0⟩)] :: Ls) := by
  refine zC 6 Tryz.func65 rfl (zQ (zR (zA rfl (zE (zQ (zR (zM rfl (wl (y_build (is := [0]) (xs := [_]) (out := [_, _, _]) plc_189 z_189 (.cons rfl .nil) rfl) rfl (a_box rfl hS rfl fun b5 w hS => zA rfl (zE (zV (z1 rfl ?_))))))))))))
  exact ⟨_, rfl, hS⟩
theorem rfail_c {p : Nat} {r : Rdr} (e : Nat) (hS : St M w ([(p, rdrO r)] :: Ls)) :
    CallsR Tryz.prog 67 [.pointer (some ⟨p, 0, none⟩), .int .i64 e].toArray w fun v w' => St M w' ([(p, rdrO (rfail r e))] :: Ls) := by
  unfold rdrO at hS
  refine zC 13 Tryz.func67 rfl (zQ (zR (zM rfl (zN rfl (zF fl_189_2 rfl (wl (y_load pl_34 rfl (hS.cell rfl)) rfl (wl (y_eql rfl rfl) rfl (zE (zIf rfl (fun hc8 => ?_) fun hc8 => ?_)))))))))
  · have he : rfail r e = ⟨r.b, r.at_, e⟩ := by unfold rfail; rw [if_pos (by omega)]
    rw [he]
    refine zR (zM rfl (zM rfl (zN rfl (zF fl_189_2 rfl (zS sz_34 rfl hS fun w hS => zE ?_)))))
    simp only [zL, cells_agg, setCells] at hS
    refine wretN (vs := []) .nil ?_
    exact hS
  have he : rfail r e = r := by unfold rfail; rw [if_neg (by omega)]
  rw [he]
  refine zK (wretN (vs := []) .nil ?_)
  exact hS
theorem rget_c (hG : Bits M) {p : Nat} {r : Rdr} (h : r.ok) (hS : St M w ([(p, rdrO r)] :: Ls)) :
    CallsR Tryz.prog 131 [.pointer (some ⟨p, 0, none⟩)].toArray w fun v w' => v = .int .u64 (rraw r).1 ∧ St M w' ([(p, rdrO (rraw r).2)] :: Ls) := by
  obtain ⟨h1, h2⟩ := h
  have hpe := pget_e (rest r)
  unfold rdrO at hS
  unfold rraw
  refine zC 35 Tryz.func131 rfl (zQ (zR (zA rfl (zE (zQ (zQ (zR (zM rfl (zN rfl (zF fl_189_2 rfl (wl (y_load pl_34 rfl (hS.cell rfl)) rfl (wl (y_neq rfl rfl) rfl (zE (zIf rfl (fun hc10 => ?_) fun hc10 => ?_))))))))))))))
  · rw [if_pos (by omega)]
    refine zQ (zR (zA rfl (zE (zV (z1 rfl ?_)))))
    exact ⟨rfl, hS⟩
  rw [if_neg (by omega)]
  refine zK (zQ (zW hS (fun w => w.cell? ⟨p, 0, none⟩ = some (.string r.b) ∧ w.cell? ⟨p, 1, none⟩ = some (.int .i64 r.at_)) [8] wide_ rfl fun w hS => zPm 0 1 rfl (zPn 1 3 rfl (zPf 2 7 fl_189_0 rfl (zPm 4 23 rfl (zPn 5 55 rfl (zPf 6 119 fl_189_1 rfl (zD 3 127 rfl ⟨hS.c, hS.c⟩ (fun w hS => y_load pl_9 rfl hS.1) (zD 7 255 rfl ⟨hS.c, hS.c⟩ (fun w hS => y_load pl_3 rfl hS.2) (zU 8 511 rfl (wl_call (.cons rfl (.cons rfl .nil)) (get_c hG r.b r.at_ h2 h1 hS) rfl ?_)))))))))))
  rintro _ w ⟨rfl, hS⟩
  unfold getV
  refine zE ⟨fun h => absurd (by decide) h, zPm 9 1023 rfl (zP 10 2047 rfl (fun w => y_extract (vs := [_, _, _]) rfl rfl) (zP 11 4095 rfl (fun w => y_extract (vs := [_, _, _]) rfl rfl) (zP 12 8191 rfl (fun w => y_extract (vs := [_, _, _]) rfl rfl) (zPa 13 16383 rfl (zPa 14 32767 rfl (zPa 15 65535 rfl (zH (zQ (zQ (zR (zM rfl (wl (y_neq rfl rfl) rfl (zE (zIf rfl (fun hc25 => ?_) fun hc25 => ?_))))))))))))))⟩
  · rw [if_pos (by unfold rest; omega)]
    refine zQ (zR (zM rfl (zM rfl (zN rfl (zF fl_189_2 rfl (zS sz_34 rfl hS fun w hS => zE ?_))))))
    simp only [zL, cells_agg, setCells] at hS
    refine zQ (zR (zA rfl (zE (zV (z1 rfl ?_)))))
    exact ⟨rfl, hS⟩
  have he0 : (pget (rest r)).2.2 = 0 := by unfold rest; omega
  rw [if_neg (by rw [he0]; decide)]
  have he1 : (pget (List.drop r.at_ r.b.data.toList)).2.2 = 0 := he0
  rw [if_pos he1]
  refine zK (zQ (zR (zM rfl (zM rfl (zN rfl (zF fl_189_1 rfl (zS sz_3 rfl hS fun w hS => zE ?_)))))))
  simp only [zL, cells_agg, setCells] at hS
  refine zQ (zR (zM rfl (zA rfl (zE (zV (z1 rfl ?_))))))
  exact ⟨rfl, hS⟩
theorem rnum_c (hG : Bits M) {p : Nat} {r : Rdr} (lim : Nat) (hlim : lim ≤ 1152921504606846976) (h : r.ok) (hS : St M w ([(p, rdrO r)] :: Ls)) :
    CallsR Tryz.prog 66 [.pointer (some ⟨p, 0, none⟩), .int .i64 lim].toArray w fun v w' => v = .int .i64 (rnum r lim).1 ∧ St M w' ([(p, rdrO (rnum r lim).2)] :: Ls) := by
  have hok := rraw_ok h
  unfold rnum
  refine zC 18 Tryz.func66 rfl (zQ (zR (zA rfl (zE (zQ (zR (zM rfl (wl_call (.cons rfl .nil) (rget_c hG h hS) rfl ?_))))))))
  rintro _ w ⟨rfl, hS⟩
  refine zA rfl (zE (zQ (zQ (zR (zM rfl (zM rfl (wl ((y_max rfl rfl).val (u := .int .i64 lim) (congrArg (Value.int .i64) (by omega))) rfl (wl ((y_min rfl rfl).val (u := .int .i64 lim) (congrArg (Value.int .i64) (by omega))) rfl (wl (y_conv Tryz.underlying3 Tryz.underlying190 rfl (natwrap64 lim (by omega))) rfl (wl (y_gtr rfl rfl) rfl (zE (zIf rfl (fun hc13 => ?_) fun hc13 => ?_))))))))))))
  · rw [if_pos (by omega)]
    refine zQ (zR (zM rfl (wl_call (.cons rfl (.cons rfl .nil)) (rfail_c 1 hS) rfl ?_)))
    intro _ w hS
    refine zE (zQ (zR (zA rfl (zE (zV (z1 rfl ?_))))))
    exact ⟨rfl, hS⟩
  rw [if_neg (by omega)]
  refine zK (zQ (zR (zM rfl (wl (y_conv Tryz.underlying190 Tryz.underlying3 rfl (w64 (by omega) (by omega))) rfl (zA rfl (zE (zV (z1 rfl ?_))))))))
  exact ⟨rfl, hS⟩
theorem rsig_c (hG : Bits M) {p : Nat} {r : Rdr} (h : r.ok) (hS : St M w ([(p, rdrO r)] :: Ls)) :
    CallsR Tryz.prog 175 [.pointer (some ⟨p, 0, none⟩)].toArray w fun v w' => v = .int .i64 (rsig r).1 ∧ St M w' ([(p, rdrO (rsig r).2)] :: Ls) := by
  have hok := rraw_ok h
  unfold rsig
  refine zC 6 Tryz.func175 rfl (zQ (zR (zA rfl (zE (zQ (zR (zM rfl (wl_call (.cons rfl .nil) (rget_c hG h hS) rfl ?_))))))))
  rintro _ w ⟨rfl, hS⟩
  refine wl_call (.cons rfl .nil) (zag_c (rraw r).1 (by omega) hS) rfl ?_
  rintro _ w ⟨rfl, hS⟩
  refine zA rfl (zE (zV (z1 rfl ?_)))
  exact ⟨rfl, hS⟩
theorem rerr_c {p : Nat} {r : Rdr} (hS : St M w ([(p, rdrO r)] :: Ls)) :
    CallsR Tryz.prog 176 [.pointer (some ⟨p, 0, none⟩)].toArray w fun v w' => v = .int .i64 r.e ∧ St M w' ([(p, rdrO r)] :: Ls) := by
  unfold rdrO at hS
  refine zC 7 Tryz.func176 rfl (zQ (zR (zA rfl (zE (zQ (zR (zM rfl (zN rfl (zF fl_189_2 rfl (wl (y_load pl_34 rfl (hS.cell rfl)) rfl (zA rfl (zE (zV (z1 rfl ?_))))))))))))))
  exact ⟨rfl, hS⟩
theorem rend_c {p : Nat} {r : Rdr} (hS : St M w ([(p, rdrO r)] :: Ls)) :
    CallsR Tryz.prog 69 [.pointer (some ⟨p, 0, none⟩)].toArray w fun v w' => v = .int .i64 (rend r).e ∧ St M w' ([(p, rdrO (rend r))] :: Ls) := by
  unfold rend
  refine zC 19 Tryz.func69 rfl (zQ (zR (zA rfl (zE (zQ (zQ ?_))))))
  unfold rdrO at hS
  refine zW hS (fun w => w.cell? ⟨p, 0, none⟩ = some (.string r.b) ∧ w.cell? ⟨p, 1, none⟩ = some (.int .i64 r.at_)) [] wide_ rfl fun w hS => zPm 0 1 rfl (zPn 1 3 rfl (zPf 2 7 fl_189_1 rfl (zPm 4 23 rfl (zPn 5 55 rfl (zPf 6 119 fl_189_0 rfl (zD 3 127 rfl ⟨hS.c, hS.c⟩ (fun w hS => y_load pl_3 rfl hS.2) (zD 7 255 rfl ⟨hS.c, hS.c⟩ (fun w hS => y_load pl_9 rfl hS.1) (zP 8 511 rfl (fun w => y_len_s Tryz.underlying9 rfl) (zP 9 1023 rfl (fun w => y_lss rfl rfl) (zH (zIf rfl (fun hc12 => ?_) fun hc12 => ?_)))))))))))
  · rw [if_pos (by omega)]
    refine zR (zM rfl (wl_call (.cons rfl (.cons rfl .nil)) (rfail_c 4 hS) rfl ?_))
    intro _ w hS
    unfold rdrO at hS
    refine zE (zQ (zR (zM rfl (zN rfl (zF fl_189_2 rfl (wl (y_load pl_34 rfl (hS.cell rfl)) rfl (zA rfl (zE (zV (z1 rfl ?_))))))))))
    exact ⟨rfl, hS⟩
  rw [if_neg (by omega)]
  refine zK (zQ (zR (zM rfl (zN rfl (zF fl_189_2 rfl (wl (y_load pl_34 rfl (hS.cell rfl)) rfl (zA rfl (zE (zV (z1 rfl ?_))))))))))
  exact ⟨rfl, hS⟩
theorem rtext_c (hG : Bits M) {p : Nat} {r : Rdr} (lim : Nat) (hlim : lim ≤ 1152921504606846976) (h : r.ok) (hS : St M w ([(p, rdrO r)] :: Ls)) :
    CallsR Tryz.prog 68 [.pointer (some ⟨p, 0, none⟩), .int .i64 lim].toArray w fun v w' => v = .string (rtext r lim).1 ∧ St M w' ([(p, rdrO (rtext r lim).2)] :: Ls) := by
  have hok := rnum_ok h lim
  have hsz := hok.1.2
  have hat := hok.1.1
  unfold rtext
  simp only
  refine zC 48 Tryz.func68 rfl (zQ (zR (zA rfl (zE (zQ (zR (zM rfl (zM rfl (wl_call (.cons rfl (.cons rfl .nil)) (rnum_c hG lim hlim h hS) rfl ?_)))))))))
  rintro _ w ⟨rfl, hS⟩
  refine zA rfl (zE (zQ (zQ (zW hS (fun w => w.cell? ⟨p, 0, none⟩ = some (.string (rnum r lim).2.b) ∧ w.cell? ⟨p, 1, none⟩ = some (.int .i64 (rnum r lim).2.at_)) [] wide_ rfl fun w hS => ?_))))
  unfold rdrO at hS
  refine zPm 0 1 rfl (zPm 1 3 rfl (zPn 2 7 rfl (zPf 3 15 fl_189_0 rfl (zPm 6 79 rfl (zPn 7 207 rfl (zPf 8 463 fl_189_1 rfl (zD 4 479 rfl ⟨hS.c, hS.c⟩ (fun w hS => y_load pl_9 rfl hS.1) (zP 5 511 rfl (fun w => y_len_s Tryz.underlying9 rfl) (zD 9 1023 rfl ⟨hS.c, hS.c⟩ (fun w hS => y_load pl_3 rfl hS.2) (zP 10 2047 rfl (fun w => y_sub rfl rfl (w64 (by omega) (by omega))) (zP 11 4095 rfl (fun w => y_gtr rfl rfl) (zH (zIf rfl (fun hc21 => ?_) fun hc21 => ?_)))))))))))))
  · rw [if_pos (by omega)]
    refine zQ (zR (zM rfl (wl_call (.cons rfl (.cons rfl .nil)) (rfail_c 2 hS) rfl ?_)))
    intro _ w hS
    refine zE (zQ (zR (zA rfl (zE (zV (z1 rfl ?_))))))
    first
    | exact ⟨rfl, hS⟩
    | (rw [← Int.natCast_add] at hS; exact ⟨rfl, hS⟩)
  rw [if_neg (by omega)]
  refine zK (zQ (zW hS (fun w => w.cell? ⟨p, 0, none⟩ = some (.string (rnum r lim).2.b) ∧ w.cell? ⟨p, 1, none⟩ = some (.int .i64 (rnum r lim).2.at_)) [] wide_ rfl fun w hS => zPm 0 1 rfl (zPn 1 3 rfl (zPf 2 7 fl_189_0 rfl (zPm 4 23 rfl (zPn 5 55 rfl (zPf 6 119 fl_189_1 rfl (zPm 8 375 rfl (zPn 9 887 rfl (zPf 10 1911 fl_189_1 rfl (zPm 12 6007 rfl (zD 3 6015 rfl ⟨hS.c, hS.c⟩ (fun w hS => y_load pl_9 rfl hS.1) (zD 7 6143 rfl ⟨hS.c, hS.c⟩ (fun w hS => y_load pl_3 rfl hS.2) (zD 11 8191 rfl ⟨hS.c, hS.c⟩ (fun w hS => y_load pl_3 rfl hS.2) (zP 13 16383 rfl (fun w => y_add rfl rfl (w64 (by omega) (by omega))) (zP 14 32767 rfl (fun w => y_sl_s Tryz.underlying9 rfl (lv := (rnum r lim).2.at_) (hv := (rnum r lim).2.at_ + (rnum r lim).1) ⟨_, _, rfl, by omega, by omega⟩ ⟨_, _, rfl, by omega, by omega⟩ (by omega) (by omega) rfl) (zPa 15 65535 rfl (zH (zQ (zR (zM rfl (zN rfl (zF fl_189_1 rfl (wl (y_load pl_3 rfl (hS.cell rfl)) rfl (zM rfl (wl (y_add rfl rfl (w64 (by omega) (by omega))) rfl (zN rfl (zF fl_189_1 rfl (zS sz_3 rfl hS fun w hS => zE ?_)))))))))))))))))))))))))))))
  simp only [zL, cells_agg, setCells] at hS
  refine zQ (zR (zM rfl (zA rfl (zE (zV (z1 rfl ?_))))))
  first
  | exact ⟨rfl, hS⟩
  | (rw [← Int.natCast_add] at hS; exact ⟨rfl, hS⟩)
end
end Go.Proofs.YtndahppmjdbifaaGreatDoor.Pak
