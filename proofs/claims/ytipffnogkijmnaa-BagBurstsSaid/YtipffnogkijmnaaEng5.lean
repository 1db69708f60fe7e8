import Derived.Test.YtipffnogkijmnaaEng4
import Derived.OrdersHeld
set_option linter.unusedVariables false
set_option linter.unusedSimpArgs false
namespace Go.Proofs.Ytipffnogkijmnaa.Eng
open Go

/-! ### A region that draws its order.
'S': what the loads of the region need of the world; every operation but those of 'ds' keeps it; each of 'ds' waits for every load that is taken. -/
section
variable {P : Program} {ops : Array Oper} {Q : Exit → Act → World → Prop} {S : World → Prop} {ds : List Nat}

/-- d waits for i -/
def waits (ops : Array Oper) (i : Nat) : Nat → Nat → Bool
  | 0, _ => false
  | fuel + 1, d => match ops[d]? with
    | some o => o.after.any fun e => Region.binds .any e && (e.on == i || waits ops i fuel e.on)
    | none => false
def shutB (ops : Array Oper) (listed : Array Bool) : Bool :=
  (List.range ops.size).all fun j => !listed.getD j false || match ops[j]? with
    | some o => o.after.all fun e => !Region.binds .any e || listed.getD e.on false
    | none => true
def Shut (ops : Array Oper) (listed : Array Bool) : Prop :=
  ∀ j oj, ops[j]? = some oj → listed.getD j false = true → ∀ e ∈ oj.after, Region.binds .any e = true → listed.getD e.on false = true
theorem shutB_spec {listed : Array Bool} (h : shutB ops listed = true) : Shut ops listed := by
  intro j oj hj hl e he hb
  have h1 := List.all_eq_true.1 h j (List.mem_range.2 (Array.getElem?_eq_some_iff.1 hj).1)
  simp only [hl, hj, Bool.not_true, Bool.false_or] at h1
  have h2 := Array.all_eq_true_iff_forall_mem.1 h1 e he
  simpa [hb] using h2
theorem Shut.set {listed : Array Bool} {i : Nat} (h : Shut ops listed) (hi : i ∈ Region.ready .any ops listed) : Shut ops (listed.setIfInBounds i true) := by
  obtain ⟨_, oi, hoi, hall⟩ := mem_ready.1 hi
  intro j oj hj hl e he hb
  by_cases hij : i = j
  · subst hij
    have : oj = oi := Option.some.inj (hj.symm.trans hoi)
    subst this
    exact getD_set_true (hall e he hb)
  · rw [getD_set_ne false hij] at hl
    exact getD_set_true (h j oj hj hl e he hb)
theorem waits_listed {listed : Array Bool} {i : Nat} (hc : Shut ops listed) : ∀ (fuel d : Nat), waits ops i fuel d = true → listed.getD d false = true → listed.getD i false = true
  | 0, _, h, _ => by simp [waits] at h
  | fuel + 1, d, h, hl => by
    unfold waits at h
    cases ho : ops[d]? with
    | none => rw [ho] at h; simp at h
    | some o =>
      rw [ho] at h
      obtain ⟨e, he, h1⟩ := Array.any_eq_true'.1 h
      simp only [Bool.and_eq_true, Bool.or_eq_true, beq_iff_eq] at h1
      have hle := hc d o ho hl e he h1.1
      rcases h1.2 with h2 | h2
      · rw [← h2]; exact hle
      · exact waits_listed hc fuel e.on h2 hle
theorem listed_clash {listed : Array Bool} {i : Nat} (h1 : listed.getD i true = false) (h2 : listed.getD i false = true) : False := by
  rcases Nat.lt_or_ge i listed.size with h' | h'
  · simp [h'] at h1 h2; rw [h1] at h2; cases h2
  · simp [Array.getElem?_eq_none h'] at h1
theorem waits_not_ready {listed : Array Bool} {i d fuel : Nat} (hc : Shut ops listed) (hr : waits ops i fuel d = true) (hun : listed.getD i true = false) : d ∉ Region.ready .any ops listed := by
  intro hd
  obtain ⟨_, o, ho, hall⟩ := mem_ready.1 hd
  cases fuel with
  | zero => simp [waits] at hr
  | succ n =>
    unfold waits at hr
    rw [ho] at hr
    obtain ⟨e, he, h1⟩ := Array.any_eq_true'.1 hr
    simp only [Bool.and_eq_true, Bool.or_eq_true, beq_iff_eq] at h1
    have hle := hall e he h1.1
    rcases h1.2 with h2 | h2
    · exact listed_clash hun (by rw [← h2]; exact hle)
    · exact listed_clash hun (waits_listed hc n e.on h2 hle)

/-- Whatever order is picked from here on; S holds behind every operation but those of ds. -/
def wpD (P : Program) (ops : Array Oper) (Q : Exit → Act → World → Prop) (S : World → Prop) (ds : List Nat) : Nat → Array Bool → Act → World → Prop
  | 0, listed, a, w => Region.ready .any ops listed = [] ∧ Q .normal a w
  | fuel + 1, listed, a, w =>
    (Region.ready .any ops listed = [] → Q .normal a w) ∧
    ∀ i ∈ Region.ready .any ops listed, wpOp P ops Q i (fun a' w' => (i ∉ ds → S w → S w') ∧ wpD P ops Q S ds fuel (listed.setIfInBounds i true) a' w') a w
theorem wpAny_of_wpD : ∀ (fuel : Nat) (listed : Array Bool) (a : Act) (w : World), wpD P ops Q S ds fuel listed a w → wpAny P .any ops Q fuel listed a w
  | 0, _, _, _, h => h
  | fuel + 1, _, _, _, h => ⟨h.1, fun i hi => wpOp_mono (fun a' w' h' => wpAny_of_wpD fuel _ a' w' h'.2) (h.2 i hi)⟩

/-- Number i may be taken first: it yields its value in every world that meets R: S (then each of ds waits for it), or any. -/
theorem wpD_first {R : World → Prop} {i : Nat} {oi : Oper} {v : Value} (hi : ops[i]? = some oi) (hsel : ∀ (j : Nat) (o : Oper) cs b, ops[j]? = some o → o.op ≠ .select cs b)
    (hQ : ∀ c a w, Q (.panic c) (a.put oi.dst v) w → Q (.panic c) a w) (n : Nat) (hRS : (∀ w, S w → R w) ∨ ∀ w, R w) :
    ∀ (fuel : Nat) (listed : Array Bool) (a : Act) (w : World),
      (∀ j oj, ops[j]? = some oj → j ≠ i → listed.getD j true = false → (∀ e ∈ oj.after, Region.binds .any e = true → e.on ≠ i) → oi.apart ops oj = true) →
      Shut ops listed → ((∀ w, R w) ∨ ∀ d ∈ ds, listed.getD d true = false → waits ops i n d = true) →
      i ∈ Region.ready .any ops listed → YieldsIf P ops R oi v a → ((∀ w, R w) ∨ S w) →
      wpD P ops Q S ds fuel (listed.setIfInBounds i true) (a.put oi.dst v) w → wpD P ops Q S ds (fuel + 1) listed a w := by
  intro fuel
  have toR : ∀ w, ((∀ w, R w) ∨ S w) → R w := fun w h => h.elim (fun h => h w) fun h => hRS.elim (fun g => g w h) (fun g => g w)
  induction fuel with
  | zero =>
    intro listed a w _ _ _ hr hy hS H
    refine ⟨fun h => (by rw [h] at hr; cases hr), fun j hj => ?_⟩
    by_cases hji : j = i
    · subst hji; exact hy.wpOp hi (toR w hS) ⟨fun _ h => h, H⟩
    · have := ready_mono hj hji
      rw [H.1] at this
      cases this
  | succ fuel ih =>
    intro listed a w hfree hc hd hr hy hS H
    refine ⟨fun h => (by rw [h] at hr; cases hr), fun j hj => ?_⟩
    by_cases hji : j = i
    · subst hji; exact hy.wpOp hi (toR w hS) ⟨fun _ h => h, H⟩
    · have h1 := H.2 j (ready_mono hj hji)
      obtain ⟨hjun, oj, hoj, hall⟩ := mem_ready.1 hj
      have hiun := (mem_ready.1 hr).1
      have hnot : ∀ e ∈ oj.after, Region.binds .any e = true → e.on ≠ i := fun e he hb heq => by
        have h1 := hall e he hb
        rw [heq] at h1
        exact listed_clash hiun h1
      have h2 := wpOp_putIf hoj (hfree j oj hoj hji hjun hnot) (fun cs b => hsel i oi cs b hi) (fun cs b => hsel j oj cs b hoj) hQ hy h1
      have hfree' : ∀ k ok, ops[k]? = some ok → k ≠ i → (listed.setIfInBounds j true).getD k true = false →
          (∀ e ∈ ok.after, Region.binds .any e = true → e.on ≠ i) → oi.apart ops ok = true := fun k ok hk hki hun hno => by
        refine hfree k ok hk hki ?_ hno
        by_cases hjk : j = k
        · subst hjk; exact hjun
        · rw [getD_set_ne true hjk] at hun; exact hun
      have hd' : (∀ w, R w) ∨ ∀ d ∈ ds, (listed.setIfInBounds j true).getD d true = false → waits ops i n d = true := hd.imp id fun hd d hm hun => by
        refine hd d hm ?_
        by_cases hjk : j = d
        · subst hjk; exact hjun
        · rw [getD_set_ne true hjk] at hun; exact hun
      refine wpOp_mono (fun a' w' h3 => ⟨h3.2.1, ih (listed.setIfInBounds j true) a' w' hfree' (hc.set hj) hd' (ready_mono hr (Ne.symm hji)) h3.1 ?_ ?_⟩) h2
      · rcases hS with hS | hS
        · exact .inl hS
        · rcases hd with hd | hd
          · exact .inl hd
          · exact .inr (h3.2.1 (fun hm => waits_not_ready hc (hd j hm hjun) hiun hj) hS)
      · rw [Array.setIfInBounds_comm _ _ hji]
        exact h3.2.2
end

section
variable {P : Program} {n : Nat} {ops : Array Oper} {S : World → Prop} {ds : List Nat} {KE : Env → World → Prop} {E : Env} {w w' : World} {l l' : Array Bool} {fuel : Nat}

abbrev PostN (n : Nat) (KE : Env → World → Prop) : Exit → Act → World → Prop := Post n fun e E w => match e with | .normal => KE E w | _ => False

/-- What is left of a region that draws its order: 'l' says which operations have come up. -/
def DR (P : Program) (n : Nat) (ops : Array Oper) (S : World → Prop) (ds : List Nat) (KE : Env → World → Prop) (fuel : Nat) (l : Array Bool) (E : Env) (w : World) : Prop :=
  ∀ a, Ok n a → has a E → wpD P ops (PostN n KE) S ds fuel l a w

theorem wc_draw {K : Kont} {id : Nat} {m : Nat} {l0 : Array Bool} (S : World → Prop) (ds : List Nat) (hm : P.follows .mixedOrders = true) (hsz : ops.size = m) (hl : Array.replicate m false = l0)
    (h : ∀ w', w'.heap = w.heap ∧ Io w w' → DR P n ops S ds (K .normal) m l0 E w') : WC P n (.region id ops true) K E w := by
  intro a hn ha
  subst hsz
  subst hl
  have h1 := h { w with drawn := w.drawn + 1 } ⟨rfl, rfl, rfl, rfl⟩ a hn ha
  refine wp_mono (wp_region_any hm (wpAny_of_wpD _ _ _ _ h1)) fun e a w hq => ?_
  cases e <;> simp only [Post] at hq ⊢
  · exact hq
  all_goals first | exact hq | (obtain ⟨_, _, _, h⟩ := hq; exact h.elim)

def takeB (ops : Array Oper) (ds : List Nat) (rd : Bool) (l l' : Array Bool) (i : Nat) : Bool :=
  Region.noSelect ops && Region.free .any ops l i && (Region.ready .any ops l).contains i && shutB ops l && (!rd || ds.all fun d => l.getD d true || waits ops i ops.size d) && (l.setIfInBounds i true == l')

theorem dr_take {R : World → Prop} {i d : Nat} {op : Op} {T : TypeId} {pos : String} {af : Array Edge} {g : Option (Nat × Bool)} {v : Value} {rd : Bool} (l' : Array Bool) (hi : ops[i]? = some ⟨some d, op, T, pos, af, g⟩) (hd : Nat.blt d n = true)
    (hc : takeB ops ds rd l l' i = true) (hR : (rd = true ∧ (∀ w, S w → R w) ∧ S w) ∨ ∀ w, R w)
    (hy : ∀ a, has a E → YieldsIf P ops R ⟨some d, op, T, pos, af, g⟩ v a)
    (h : DR P n ops S ds KE fuel l' ((d, v) :: E) w) : DR P n ops S ds KE (fuel + 1) l E w := by
  intro a hn ha
  simp only [takeB, Bool.and_eq_true, beq_iff_eq] at hc
  obtain ⟨⟨⟨⟨⟨h1, h2⟩, h3⟩, h4⟩, h5⟩, h6⟩ := hc
  subst h6
  refine wpD_first hi (Region.noSelect_spec h1) (fun c a w hq => hq) ops.size (hR.imp (·.2.1) id) fuel l a w (Region.free_spec hi h2) (shutB_spec h4) ?_ (by simpa using h3) (hy a ha) (hR.elim (fun h => .inr h.2.2) .inl) (h _ (ok_put hn) (has_put hn hd ha))
  rcases hR with ⟨rfl, _, _⟩ | hR
  · right
    intro d hm hun
    simp only [Bool.not_true, Bool.false_or] at h5
    have := List.all_eq_true.1 h5 d hm
    rw [hun] at this
    simpa using this
  · exact .inl hR

/-- an operation that yields in every world -/
theorem dr_pure {i d : Nat} {op : Op} {T : TypeId} {pos : String} {af : Array Edge} {v : Value} (l' : Array Bool) (hi : ops[i]? = some ⟨some d, op, T, pos, af, none⟩) (hd : Nat.blt d n = true)
    (hc : takeB ops ds false l l' i = true) (hy : ∀ w, Y P E op T w v w)
    (h : DR P n ops S ds KE fuel l' ((d, v) :: E) w) : DR P n ops S ds KE (fuel + 1) l E w :=
  dr_take (R := fun _ => True) l' hi hd hc (.inr fun _ => trivial) (fun a ha => .inl ⟨by simp [Region.wanted], fun w _ => hy w a ha _ _ _ _⟩) h
/-- a load, or whatever else yields in every world that meets S -/
theorem dr_read {i d : Nat} {op : Op} {T : TypeId} {pos : String} {af : Array Edge} {v : Value} (l' : Array Bool) (hi : ops[i]? = some ⟨some d, op, T, pos, af, none⟩) (hd : Nat.blt d n = true)
    (hc : takeB ops ds true l l' i = true) (hS : S w) (hy : ∀ w, S w → Y P E op T w v w)
    (h : DR P n ops S ds KE fuel l' ((d, v) :: E) w) : DR P n ops S ds KE (fuel + 1) l E w :=
  dr_take (R := S) l' hi hd hc (.inl ⟨rfl, fun _ h => h, hS⟩) (fun a ha => .inl ⟨by simp [Region.wanted], fun w hw => hy w hw a ha _ _ _ _⟩) h

theorem yielded_of {a : Act} {j s : Nat} {t : Bool} (ha : has a E) (hj : (ops[j]?).bind (·.dst) = some s) (ht : Env.get E s = some (.bool t)) : yielded ops a.tmps j = some t := by
  unfold yielded
  rw [hj]
  have h := ha s _ ht
  simp only [Array.getD_eq_getD_getElem?] at h
  cases hs : a.tmps[s]? with
  | none => rw [hs] at h; simp [undef] at h
  | some u => rw [hs] at h; simp at h; subst h; simp [hs]

/-- an operation under a guard that lets it run -/
theorem dr_pureG {i d j s : Nat} {t : Bool} {op : Op} {T : TypeId} {pos : String} {af : Array Edge} {v : Value} (l' : Array Bool) (hi : ops[i]? = some ⟨some d, op, T, pos, af, some (j, t)⟩) (hd : Nat.blt d n = true)
    (hc : takeB ops ds false l l' i = true) (hj : (ops[j]?).bind (·.dst) = some s) (ht : Env.get E s = some (.bool t)) (hy : ∀ w, Y P E op T w v w)
    (h : DR P n ops S ds KE fuel l' ((d, v) :: E) w) : DR P n ops S ds KE (fuel + 1) l E w :=
  dr_take (R := fun _ => True) l' hi hd hc (.inr fun _ => trivial) (fun a ha => .inl ⟨by simp [Region.wanted, yielded_of ha hj ht], fun w _ => hy w a ha _ _ _ _⟩) h
theorem dr_readG {i d j s : Nat} {t : Bool} {op : Op} {T : TypeId} {pos : String} {af : Array Edge} {v : Value} (l' : Array Bool) (hi : ops[i]? = some ⟨some d, op, T, pos, af, some (j, t)⟩) (hd : Nat.blt d n = true)
    (hc : takeB ops ds true l l' i = true) (hj : (ops[j]?).bind (·.dst) = some s) (ht : Env.get E s = some (.bool t)) (hS : S w) (hy : ∀ w, S w → Y P E op T w v w)
    (h : DR P n ops S ds KE fuel l' ((d, v) :: E) w) : DR P n ops S ds KE (fuel + 1) l E w :=
  dr_take (R := S) l' hi hd hc (.inl ⟨rfl, fun _ h => h, hS⟩) (fun a ha => .inl ⟨by simp [Region.wanted, yielded_of ha hj ht], fun w hw => hy w hw a ha _ _ _ _⟩) h
/-- an operation under a guard that does not let it run -/
theorem dr_off {i d j s : Nat} {t u : Bool} {op : Op} {T : TypeId} {pos : String} {af : Array Edge} (l' : Array Bool) (hi : ops[i]? = some ⟨some d, op, T, pos, af, some (j, t)⟩) (hd : Nat.blt d n = true)
    (hc : takeB ops ds false l l' i = true) (hj : (ops[j]?).bind (·.dst) = some s) (ht : Env.get E s = some (.bool u)) (hu : (u == t) = false)
    (h : DR P n ops S ds KE fuel l' ((d, undef) :: E) w) : DR P n ops S ds KE (fuel + 1) l E w :=
  dr_take (R := fun _ => True) l' hi hd hc (.inr fun _ => trivial) (fun a ha => .inr ⟨by simp only [Region.wanted, yielded_of ha hj ht]; simpa using hu, rfl⟩) h

/-- The one operation that may come up now is carried out. -/
theorem dr_do {i : Nat} {o : Oper} (l' : Array Bool) (hi : ops[i]? = some o) (hc : (Region.ready .any ops l == [i] && l.setIfInBounds i true == l') = true)
    (h : WL P n ops (fun E' w' => (i ∉ ds → S w → S w') ∧ DR P n ops S ds KE fuel l' E' w') [o] E w) : DR P n ops S ds KE (fuel + 1) l E w := by
  intro a hn ha
  simp only [Bool.and_eq_true, beq_iff_eq] at hc
  obtain ⟨h1, rfl⟩ := hc
  refine ⟨fun h0 => (by rw [h1] at h0; cases h0), fun j hj => ?_⟩
  rw [h1] at hj
  simp only [List.mem_singleton] at hj
  subst hj
  have h2 := h a hn ha
  simp only [wpList] at h2
  unfold wpOp
  simp only [hi]
  have post : ∀ a' w', PostN n (fun E' w' => (j ∉ ds → S w → S w') ∧ DR P n ops S ds KE fuel (l.setIfInBounds j true) E' w') .normal a' w' → ((j ∉ ds → S w → S w') ∧ wpD P ops (PostN n KE) S ds fuel (l.setIfInBounds j true) a' w') := by
    intro a' w' hq
    obtain ⟨g1, E', g2, g3, g4⟩ := hq
    exact ⟨g3, g4 a' g1 g2⟩
  split at h2
  · rename_i hw
    rw [if_pos hw]
    rcases h2 with h2 | ⟨_, _, _, h2⟩
    · left
      refine Oper.wp_mono post ?_
      unfold Oper.wp at h2 ⊢
      generalize (execOp a.eval o).run P w = r at h2 ⊢
      cases r with
      | ok nx w' =>
        cases nx <;> simp only [Oper.upon] at h2 ⊢ <;> exact h2
      | halt x w' => cases x <;> simp only [Oper.upon] at h2 ⊢ <;> exact h2
    · exact h2.elim
  · rename_i hw
    rw [if_neg hw]
    exact post _ _ h2

/-- a bool is looked at -/
theorem wl_cases {lo : List Oper} {s : Nat} {t : Bool} (hb : Env.get E s = some (.bool t)) (hT : t = true → WL P n ops KE lo ((s, .bool true) :: E) w) (hF : t = false → WL P n ops KE lo ((s, .bool false) :: E) w) : WL P n ops KE lo E w := by
  cases t
  · exact wl_sub (sub_cons hb fun _ _ h => h) (hF rfl)
  · exact wl_sub (sub_cons hb fun _ _ h => h) (hT rfl)
theorem wl_on {lo : List Oper} {dst : Option Tmp} {op : Op} {T : TypeId} {pos : String} {af : Array Edge} {j s : Nat} {want : Bool}
    (hj : (ops[j]?).bind (·.dst) = some s) (ht : Env.get E s = some (.bool want)) (h : WL P n ops KE (⟨dst, op, T, pos, af, none⟩ :: lo) E w) : WL P n ops KE (⟨dst, op, T, pos, af, some (j, want)⟩ :: lo) E w := by
  intro a hn ha
  have h1 := h a hn ha
  unfold wpList at h1 ⊢
  rw [if_pos (by simp [Region.wanted])] at h1
  rw [if_pos (by simp [Region.wanted, yielded_of ha hj ht])]
  exact h1
theorem wl_off {lo : List Oper} {d : Nat} {op : Op} {T : TypeId} {pos : String} {af : Array Edge} {j s : Nat} {want t : Bool}
    (hj : (ops[j]?).bind (·.dst) = some s) (ht : Env.get E s = some (.bool t)) (htw : (t == want) = false) (hd : Nat.blt d n = true) (h : WL P n ops KE lo ((d, undef) :: E) w) : WL P n ops KE (⟨some d, op, T, pos, af, some (j, want)⟩ :: lo) E w := by
  intro a hn ha
  unfold wpList
  rw [if_neg (by simp only [Region.wanted, yielded_of ha hj ht]; simpa using htw)]
  exact h _ (ok_put hn) (has_put hn hd ha)
theorem wl_off0 {lo : List Oper} {op : Op} {T : TypeId} {pos : String} {af : Array Edge} {j s : Nat} {want t : Bool}
    (hj : (ops[j]?).bind (·.dst) = some s) (ht : Env.get E s = some (.bool t)) (htw : (t == want) = false) (h : WL P n ops KE lo E w) : WL P n ops KE (⟨none, op, T, pos, af, some (j, want)⟩ :: lo) E w := by
  intro a hn ha
  unfold wpList
  rw [if_neg (by simp only [Region.wanted, yielded_of ha hj ht]; simpa using htw)]
  exact h _ (ok_put hn) ha

theorem dr_done (hr : (Region.ready .any ops l == []) = true) (h : KE E w) : ∀ {fuel : Nat}, DR P n ops S ds KE fuel l E w
  | 0 => fun a hn ha => ⟨by simpa using hr, hn, E, ha, h⟩
  | _ + 1 => fun a hn ha => ⟨fun _ => ⟨hn, E, ha, h⟩, by rw [show Region.ready .any ops l = [] by simpa using hr]; simp⟩
end
end Go.Proofs.Ytipffnogkijmnaa.Eng
