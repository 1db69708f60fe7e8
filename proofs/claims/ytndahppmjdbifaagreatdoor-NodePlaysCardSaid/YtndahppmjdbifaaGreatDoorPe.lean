/-
  NodePlays holds: in every order of calls, any bytes too, a node does what the document says, and stands as it says. No condition beyond the row's own: prefix.bits holds what the program's text lays.
-/
import Derived.Test.YtndahppmjdbifaaGreatDoorPd
import Derived.Test.YtndahppmjdbifaaGreatDoorRows
import Derived.Test.YtndahppmjdbifaaGreatDoorCards
import Derived.Test.YtndahppmjdbifaaGreatDoorTie
import Derived.ProofKit
import Derived.OpenShut
import Derived.ShutString
import Derived.LaidMore
import Derived.Stop.Joined
import Derived.SevenTiedAt
set_option linter.unusedVariables false
set_option linter.unusedSimpArgs false
namespace Go.Proofs.YtndahppmjdbifaaGreatDoor.Sto
open Go Go.Proofs Eng Pre Val Rou Jnl Cli Nod
def stepK (k : ByteArray) (v : Valu) (u : Upd) : Valu := if u.key = k ∧ mayU u = 0 then apply v u else v
@[irreducible] def getK (k : ByteArray) (l : List Upd) : Valu := l.foldl (stepK k) val0
theorem app_clean {x : Valu} (h : clean x = x) (u : Upd) : clean (app x u) = app x u := by
  unfold app
  split; · simp [clean, num]
  split; · simp [clean, txt]
  split; · simp [clean, val0]
  split
  · split
    · simp [clean, num]
    exact h
  split
  · split; · simp [clean, txt]
    split
    · split
      · simp [clean, txt]
      exact h
    exact h
  exact h
theorem clean_clean (x : Valu) : clean (clean x) = clean x := by
  unfold clean
  split
  · simp [num]
  split
  · simp [txt]
  simp [val0]
theorem apply_clean (x : Valu) (u : Upd) : clean (apply x u) = apply x u := by
  unfold apply; exact app_clean (clean_clean x) u
theorem clean_0 {x : Valu} (h : clean x = x) (h0 : x.kind = 0) : x = val0 := by
  rw [← h]; unfold clean; rw [if_neg (by omega), if_neg (by omega)]
theorem clean_kind {x : Valu} (h : clean x = x) : x.kind = 0 ∨ x.kind = 1 ∨ x.kind = 2 := by
  rw [← h]; unfold clean
  split; · exact .inr (.inl rfl)
  split; · exact .inr (.inr rfl)
  exact .inl rfl
theorem getK_clean (k : ByteArray) (l : List Upd) : clean (getK k l) = getK k l ∧ (getK k l).s.size ≤ 1024 := by
  have key : ∀ (l : List Upd) (v : Valu), clean v = v ∧ v.s.size ≤ 1024 → clean (l.foldl (stepK k) v) = l.foldl (stepK k) v ∧ (l.foldl (stepK k) v).s.size ≤ 1024 := by
    intro l
    induction l with
    | nil => intro v h; exact h
    | cons u l ih =>
      intro v h
      refine ih _ ?_
      unfold stepK
      split
      · rename_i hu; exact ⟨apply_clean _ _, apply_s h.2 (mayU_s hu.2)⟩
      exact h
  unfold getK
  exact key l val0 ⟨by simp [clean, val0], by simp [val0]⟩
theorem getK_app (k : ByteArray) (l : List Upd) (u : Upd) : getK k (l ++ [u]) = stepK k (getK k l) u := by
  unfold getK; rw [List.foldl_append] <;> rfl
theorem kvGet_set (k k' : ByteArray) (x : Valu) (kv : KV) : kvGet k (kvSet k' x kv) = if k = k' then some x else kvGet k kv := by
  induction kv with
  | nil => rfl
  | cons q l ih =>
    obtain ⟨a, y⟩ := q
    simp only [kvSet]
    by_cases h : k' = a
    · rw [if_pos h]
      simp only [kvGet]
      by_cases h2 : k = k'
      · rw [if_pos h2, if_pos h2]
      rw [if_neg h2, if_neg h2, if_neg (fun e => h2 (e.trans h.symm))]
    rw [if_neg h]
    simp only [kvGet]
    rw [ih]
    by_cases h2 : k = a
    · rw [if_pos h2, if_neg (fun e => h (e.symm.trans h2)), if_pos h2]
    rw [if_neg h2]
    by_cases h3 : k = k'
    · rw [if_pos h3, if_pos h3]
    rw [if_neg h3, if_neg h3, if_neg h2]
theorem kvGet_none {k : ByteArray} {kv : KV} : kvGet k kv = none ↔ k ∉ kv.map (·.1) := by
  induction kv with
  | nil => simp [kvGet]
  | cons q l ih =>
    obtain ⟨a, y⟩ := q
    simp only [kvGet, List.map_cons, List.mem_cons, not_or]
    by_cases h : k = a
    · rw [if_pos h]; simp [h]
    rw [if_neg h, ih]; simp [h]
theorem kvGet_del (k k' : ByteArray) (kv : KV) (hn : (kv.map (·.1)).Nodup) : kvGet k (kvDel k' kv) = if k = k' then none else kvGet k kv := by
  induction kv with
  | nil => simp [kvDel, kvGet]
  | cons q l ih =>
    obtain ⟨a, y⟩ := q
    simp only [List.map_cons, List.nodup_cons] at hn
    simp only [kvDel]
    by_cases h : k' = a
    · rw [if_pos h]
      by_cases h2 : k = k'
      · rw [if_pos h2, kvGet_none, h2, h]; exact hn.1
      rw [if_neg h2]
      simp only [kvGet]
      rw [if_neg (fun e => h2 (e.trans h.symm))]
    rw [if_neg h]
    simp only [kvGet]
    rw [ih hn.2]
    by_cases h2 : k = a
    · rw [if_pos h2, if_neg (fun e => h (e.symm.trans h2)), if_pos h2]
    rw [if_neg h2]
    by_cases h3 : k = k'
    · rw [if_pos h3, if_pos h3]
    rw [if_neg h3, if_neg h3, if_neg h2]
theorem keys_set1 {k : ByteArray} (x : Valu) {kv : KV} (h : k ∈ kv.map (·.1)) : (kvSet k x kv).map (·.1) = kv.map (·.1) := by
  induction kv with
  | nil => simp at h
  | cons q l ih =>
    obtain ⟨a, y⟩ := q
    simp only [kvSet]
    by_cases hk : k = a
    · rw [if_pos hk]; simp [hk]
    rw [if_neg hk]
    simp only [List.map_cons, List.mem_cons] at h ⊢
    rw [ih (h.resolve_left hk)]
theorem keys_set2 {k : ByteArray} (x : Valu) {kv : KV} (h : k ∉ kv.map (·.1)) : (kvSet k x kv).map (·.1) = kv.map (·.1) ++ [k] := by
  induction kv with
  | nil => simp [kvSet]
  | cons q l ih =>
    obtain ⟨a, y⟩ := q
    simp only [List.map_cons, List.mem_cons, not_or] at h
    simp only [kvSet]
    rw [if_neg h.1]
    simp only [List.map_cons, List.cons_append]
    rw [ih h.2]
theorem keys_del (k : ByteArray) (kv : KV) : ((kvDel k kv).map (·.1)).Sublist (kv.map (·.1)) := by
  induction kv with
  | nil => exact List.Sublist.refl _
  | cons q l ih =>
    obtain ⟨a, y⟩ := q
    simp only [kvDel]
    split
    · exact List.Sublist.cons _ (List.Sublist.refl _)
    exact ih.cons_cons _
structure kvW (kv : KV) : Prop where
  nd : (kv.map (·.1)).Nodup
  val : ∀ p ∈ kv, p.2.kind ≠ 0
theorem sdo_w {kv : KV} (h : kvW kv) (u : Upd) : kvW (sdo kv u) := by
  unfold sdo
  split
  · exact h
  split
  · exact ⟨(keys_del _ _).nodup h.nd, fun p hp => h.val p (mem_del hp)⟩
  rename_i h0
  refine ⟨?_, fun p hp => ?_⟩
  · rcases Classical.em (u.key ∈ kv.map (·.1)) with hk | hk
    · rw [keys_set1 _ hk]; exact h.nd
    rw [keys_set2 _ hk, List.nodup_append]
    exact ⟨h.nd, by simp, fun a ha b hb => by simp at hb; subst hb; intro e; subst e; exact hk ha⟩
  rcases mem_set hp with rfl | hp
  · exact h0
  exact h.val p hp
theorem vGet_sdo {kv : KV} (h : kvW kv) (k : ByteArray) (u : Upd) : vGet k (sdo kv u) = stepK k (vGet k kv) u := by
  by_cases hm : mayU u = 0
  · have hs0 : sdo kv u = if (apply (vGet u.key kv) u).kind = 0 then kvDel u.key kv else kvSet u.key (apply (vGet u.key kv) u) kv := by unfold sdo; rw [if_neg (by omega)]
    rw [hs0]
    by_cases hk : u.key = k
    · subst hk
      have hs : stepK u.key (vGet u.key kv) u = apply (vGet u.key kv) u := by unfold stepK; exact if_pos ⟨rfl, hm⟩
      rw [hs]
      generalize hx : apply (vGet u.key kv) u = x
      by_cases h0 : x.kind = 0
      · rw [if_pos h0]
        unfold vGet
        rw [kvGet_del _ _ _ h.nd, if_pos rfl]
        exact (clean_0 (by rw [← hx]; exact apply_clean _ _) h0).symm
      rw [if_neg h0]
      unfold vGet
      rw [kvGet_set, if_pos rfl] <;> rfl
    have hs : stepK k (vGet k kv) u = vGet k kv := by unfold stepK; exact if_neg (fun e => hk e.1)
    rw [hs]
    generalize apply (vGet u.key kv) u = x
    by_cases h0 : x.kind = 0
    · rw [if_pos h0]
      unfold vGet
      rw [kvGet_del _ _ _ h.nd, if_neg (fun e => hk e.symm)]
    rw [if_neg h0]
    unfold vGet
    rw [kvGet_set, if_neg (fun e => hk e.symm)]
  have hs0 : sdo kv u = kv := by unfold sdo; rw [if_pos hm]
  have hs : stepK k (vGet k kv) u = vGet k kv := by unfold stepK; exact if_neg (fun e => hm e.2)
  rw [hs0, hs]
theorem sdoL_get (k : ByteArray) (l : List Upd) : ∀ (kv : KV), kvW kv → vGet k (sdoL kv l) = l.foldl (stepK k) (vGet k kv) ∧ kvW (sdoL kv l) := by
  induction l with
  | nil => intro kv h; exact ⟨rfl, h⟩
  | cons u l ih =>
    intro kv h
    obtain ⟨h1, h2⟩ := ih (sdo kv u) (sdo_w h u)
    refine ⟨?_, h2⟩
    show vGet k (sdoL (sdo kv u) l) = _
    rw [h1, vGet_sdo h] <;> rfl
theorem kvW_nil : kvW [] := ⟨by simp, by simp⟩
theorem get_state (k : ByteArray) (rs : List Rnd) (opn : List Upd) : vGet k (state rs opn) = getK k (rs.flatMap (·.ups) ++ opn) := by
  unfold state getK
  exact (sdoL_get k _ [] kvW_nil).1
theorem keys_iff (k : ByteArray) (l : List Upd) : k ∈ (sdoL [] l).map (·.1) ↔ (getK k l).kind ≠ 0 := by
  obtain ⟨h1, h2⟩ := sdoL_get k l [] kvW_nil
  have h3 : getK k l = vGet k (sdoL [] l) := by unfold getK; exact h1.symm
  rw [h3]
  unfold vGet
  cases hg : kvGet k (sdoL [] l) with
  | none =>
    refine ⟨fun h => absurd h (kvGet_none.1 hg), fun h => ?_⟩
    exact absurd (show (val0).kind = 0 from rfl) h
  | some x =>
    obtain ⟨a, ha⟩ := get_mem hg
    refine ⟨fun _ => h2.val _ ha, fun _ => ?_⟩
    rcases Classical.em (k ∈ (sdoL [] l).map (·.1)) with h | h
    · exact h
    rw [kvGet_none.2 h] at hg; cases hg
abbrev less (a b : ByteArray) : Bool := Go.Op.bytesLess a.toList b.toList
theorem bl_irr : ∀ l : List UInt8, Go.Op.bytesLess l l = false
  | [] => rfl
  | a :: l => by simp [Go.Op.bytesLess, bl_irr l]
theorem bl_trans : ∀ x y z : List UInt8, Go.Op.bytesLess x y = true → Go.Op.bytesLess y z = true → Go.Op.bytesLess x z = true
  | [], _, [], _, h => by simp [Go.Op.bytesLess] at h
  | [], [], _ :: _, h, _ => by simp [Go.Op.bytesLess] at h
  | [], _ :: _, _ :: _, _, _ => by simp [Go.Op.bytesLess]
  | _ :: _, [], _, h, _ => by simp [Go.Op.bytesLess] at h
  | _ :: _, _ :: _, [], _, h => by simp [Go.Op.bytesLess] at h
  | a :: x, b :: y, c :: z, h1, h2 => by
    simp only [Go.Op.bytesLess, Bool.or_eq_true, decide_eq_true_eq, Bool.and_eq_true, beq_iff_eq] at h1 h2 ⊢
    rcases h1 with h1 | ⟨rfl, h1⟩
    · rcases h2 with h2 | ⟨rfl, h2⟩
      · exact .inl (UInt8.lt_trans h1 h2)
      exact .inl h1
    rcases h2 with h2 | ⟨rfl, h2⟩
    · exact .inl h2
    exact .inr ⟨rfl, bl_trans x y z h1 h2⟩
theorem bl_tri : ∀ x y : List UInt8, Go.Op.bytesLess x y = false → Go.Op.bytesLess y x = false → x = y
  | [], [], _, _ => rfl
  | [], _ :: _, h, _ => by simp [Go.Op.bytesLess] at h
  | _ :: _, [], _, h => by simp [Go.Op.bytesLess] at h
  | a :: x, b :: y, h1, h2 => by
    simp only [Go.Op.bytesLess, Bool.or_eq_false_iff, decide_eq_false_iff_not, Bool.and_eq_false_imp, beq_iff_eq] at h1 h2
    have hab : a = b := by
      have p1 := h1.1
      have p2 := h2.1
      rw [UInt8.not_lt] at p1 p2
      exact UInt8.le_antisymm p2 p1
    subst hab
    rw [bl_tri x y (h1.2 rfl) (h2.2 rfl)]
theorem less_tri {a b : ByteArray} (h1 : less a b = false) (h2 : less b a = false) : a = b := by
  have h := bl_tri _ _ h1 h2
  have e := beq_toList a b
  rw [h, beq_self_eq_true] at e
  exact of_decide_eq_true e.symm
def insK (k : ByteArray) : List ByteArray → List ByteArray
  | [] => [k]
  | a :: l => if less a k = true then a :: insK k l else if a = k then a :: l else k :: a :: l
def SortK (l : List ByteArray) : Prop := l.Pairwise fun a b => less a b = true
theorem mem_insK {k a : ByteArray} {l : List ByteArray} : a ∈ insK k l ↔ a = k ∨ a ∈ l := by
  induction l with
  | nil => simp [insK]
  | cons b l ih =>
    simp only [insK]
    split
    · simp only [List.mem_cons, ih]
      exact ⟨fun h => by rcases h with h | h | h <;> simp [h], fun h => by rcases h with h | h | h <;> simp [h]⟩
    split
    · rename_i h; subst h; simp only [List.mem_cons]
      exact ⟨fun h => .inr h, fun h => by rcases h with h | h | h <;> simp [h]⟩
    simp only [List.mem_cons]
theorem sort_insK {k : ByteArray} {l : List ByteArray} (h : SortK l) : SortK (insK k l) := by
  induction l with
  | nil => exact List.pairwise_singleton _ _
  | cons b l ih =>
    obtain ⟨h1, h2⟩ := List.pairwise_cons.1 h
    simp only [insK]
    split
    · rename_i hb
      refine List.pairwise_cons.2 ⟨fun a ha => ?_, ih h2⟩
      rcases mem_insK.1 ha with rfl | ha
      · exact hb
      exact h1 a ha
    rename_i hb
    split
    · exact h
    rename_i hne
    have hkb : less k b = true := by
      cases hc : less k b with
      | true => rfl
      | false => exact absurd (less_tri (by simpa using hb) hc) hne
    refine List.pairwise_cons.2 ⟨fun a ha => ?_, h⟩
    rcases List.mem_cons.1 ha with rfl | ha
    · exact hkb
    exact bl_trans _ _ _ hkb (h1 a ha)
theorem sort_nodup {l : List ByteArray} (h : SortK l) : l.Nodup := by
  refine List.Pairwise.imp ?_ h
  intro a b hab e
  subst e
  have := bl_irr a.toList
  unfold less at hab
  rw [this] at hab; cases hab
@[irreducible] def keysF (all l : List Upd) : List ByteArray := l.foldl (fun out u => if (getK u.key all).kind = 0 then out else insK u.key out) []
theorem keysF_app (all l : List Upd) (u : Upd) : keysF all (l ++ [u]) = if (getK u.key all).kind = 0 then keysF all l else insK u.key (keysF all l) := by
  unfold keysF; rw [List.foldl_append] <;> rfl
theorem keysF_ok (all l : List Upd) : SortK (keysF all l) ∧ ∀ a, a ∈ keysF all l ↔ ∃ u ∈ l, u.key = a ∧ (getK a all).kind ≠ 0 := by
  have key : ∀ (l : List Upd) (out : List ByteArray), SortK out → SortK (l.foldl (fun out u => if (getK u.key all).kind = 0 then out else insK u.key out) out) ∧ ∀ a, a ∈ l.foldl (fun out u => if (getK u.key all).kind = 0 then out else insK u.key out) out ↔ a ∈ out ∨ ∃ u ∈ l, u.key = a ∧ (getK a all).kind ≠ 0 := by
    intro l
    induction l with
    | nil => intro out h; exact ⟨h, fun a => by simp⟩
    | cons u l ih =>
      intro out h
      by_cases h0 : (getK u.key all).kind = 0
      · obtain ⟨i1, i2⟩ := ih out h
        simp only [List.foldl_cons, if_pos h0]
        refine ⟨i1, fun a => ?_⟩
        rw [i2]
        refine ⟨fun h => ?_, fun h => ?_⟩
        · rcases h with h | ⟨x, hx, h⟩
          · exact .inl h
          exact .inr ⟨x, List.mem_cons_of_mem _ hx, h⟩
        rcases h with h | ⟨x, hx, h1, h2⟩
        · exact .inl h
        rcases List.mem_cons.1 hx with rfl | hx
        · subst h1; exact absurd h0 h2
        exact .inr ⟨x, hx, h1, h2⟩
      obtain ⟨i1, i2⟩ := ih (insK u.key out) (sort_insK h)
      simp only [List.foldl_cons, if_neg h0]
      refine ⟨i1, fun a => ?_⟩
      rw [i2, mem_insK]
      refine ⟨fun h => ?_, fun h => ?_⟩
      · rcases h with (rfl | h) | ⟨x, hx, h⟩
        · exact .inr ⟨u, List.mem_cons_self, rfl, h0⟩
        · exact .inl h
        exact .inr ⟨x, List.mem_cons_of_mem _ hx, h⟩
      rcases h with h | ⟨x, hx, h1, h2⟩
      · exact .inl (.inr h)
      rcases List.mem_cons.1 hx with rfl | hx
      · exact .inl (.inl h1.symm)
      exact .inr ⟨x, hx, h1, h2⟩
  obtain ⟨k1, k2⟩ := key l [] List.Pairwise.nil
  unfold keysF
  exact ⟨k1, fun a => by rw [k2]; simp⟩
theorem getK_some {k : ByteArray} {l : List Upd} (h : (getK k l).kind ≠ 0) : ∃ u ∈ l, u.key = k := by
  refine Classical.byContradiction fun hn => h ?_
  have key : ∀ (l : List Upd), (¬ ∃ u ∈ l, u.key = k) → ∀ v, l.foldl (stepK k) v = v := by
    intro l
    induction l with
    | nil => intro _ v; rfl
    | cons u l ih =>
      intro hn v
      rw [List.foldl_cons]
      have : stepK k v u = v := by unfold stepK; rw [if_neg (fun e => hn ⟨u, List.mem_cons_self, e.1⟩)]
      rw [this]
      exact ih (fun ⟨x, hx, he⟩ => hn ⟨x, List.mem_cons_of_mem _ hx, he⟩) v
  unfold getK
  rw [key l hn] <;> rfl
theorem keys_len (l : List Upd) : (keysF l l).length = (sdoL [] l).length := by
  obtain ⟨h1, h2⟩ := keysF_ok l l
  have hw := (sdoL_get ByteArray.empty l [] kvW_nil).2
  have hp : (keysF l l).Perm ((sdoL [] l).map (·.1)) := by
    rw [List.perm_ext_iff_of_nodup (sort_nodup h1) hw.nd]
    intro a
    rw [h2, keys_iff]
    exact ⟨fun ⟨_, _, _, h⟩ => h, fun h => by obtain ⟨u, hu, he⟩ := getK_some h; exact ⟨u, hu, he, h⟩⟩
  have := hp.length_eq
  rwa [List.length_map] at this
theorem insK_at {k : ByteArray} : ∀ {out : List ByteArray} {at_ : Nat}, at_ ≤ out.length → (∀ j a, j < at_ → out[j]? = some a → less a k = true) → (∀ a, out[at_]? = some a → less a k = false ∧ a ≠ k) → insK k out = out.take at_ ++ [k] ++ out.drop at_
  | [], at_, h, _, _ => by
    obtain rfl : at_ = 0 := by simpa using h
    rfl
  | b :: out, 0, _, _, h2 => by
    obtain ⟨g1, g2⟩ := h2 b rfl
    simp only [insK]
    rw [if_neg (by rw [g1]; decide), if_neg g2] <;> rfl
  | b :: out, at_ + 1, h, h1, h2 => by
    have ih := insK_at (out := out) (at_ := at_) (k := k) (by simpa using h) (fun j a hj ha => h1 (j + 1) a (by omega) (by simpa using ha)) (fun a ha => h2 a (by simpa using ha))
    simp only [insK]
    rw [if_pos (h1 0 b (by omega) rfl), ih] <;> rfl
theorem insK_there {k : ByteArray} : ∀ {out : List ByteArray} {at_ : Nat}, (∀ j a, j < at_ → out[j]? = some a → less a k = true) → out[at_]? = some k → insK k out = out
  | [], _, _, h => by simp at h
  | b :: out, 0, _, h => by
    simp only [List.getElem?_cons_zero, Option.some.injEq] at h
    subst h
    simp only [insK]
    have hi : less b b = false := bl_irr _
    rw [if_neg (by rw [hi]; decide)]
    exact if_pos trivial
  | b :: out, at_ + 1, h1, h2 => by
    have ih := insK_there (out := out) (at_ := at_) (k := k) (fun j a hj ha => h1 (j + 1) a (by omega) (by simpa using ha)) (by simpa using h2)
    simp only [insK]
    rw [if_pos (h1 0 b (by omega) rfl), ih]
theorem insK_len (k : ByteArray) (out : List ByteArray) : (insK k out).length ≤ out.length + 1 := by
  induction out with
  | nil => simp [insK]
  | cons b l ih =>
    simp only [insK]
    split
    · simp only [List.length_cons]; omega
    split <;> simp
theorem keysF_len (all l : List Upd) : (keysF all l).length ≤ l.length := by
  have key : ∀ (l : List Upd) (out : List ByteArray), (l.foldl (fun out u => if (getK u.key all).kind = 0 then out else insK u.key out) out).length ≤ out.length + l.length := by
    intro l
    induction l with
    | nil => intro out; simp
    | cons u l ih =>
      intro out
      rw [List.foldl_cons]
      have := ih (if (getK u.key all).kind = 0 then out else insK u.key out)
      have h2 : (if (getK u.key all).kind = 0 then out else insK u.key out).length ≤ out.length + 1 := by
        split
        · omega
        exact insK_len _ _
      simp only [List.length_cons]; omega
  unfold keysF
  simpa using key l []
end Go.Proofs.YtndahppmjdbifaaGreatDoor.Sto
set_option linter.unusedVariables false
set_option linter.unusedSimpArgs false
namespace Go.Proofs.YtndahppmjdbifaaGreatDoor.Ref
open Go Go.Proofs Eng Snd Val Rou Jnl Cli Sto
section
variable {P : Program} {E : Env} {w : World} {T : TypeId}
theorem y_slss {x y : Operand} {s t : ByteArray} {U V : TypeId} (hx : ev E x = some (.string s)) (hy : ev E y = some (.string t)) :
    Y P E (.binOp .lss U x y V) T w (.bool (less s t)) w := by
  intro c ha d pos af g
  simp only [execOp, Bind.bind, Sem.bind, Pure.pure, Sem.run, eqGuard, binOp, Op.stringOp, ev_sound ha hx, ev_sound ha hy]
  simp [Sem.bind, Sem.run]
end
abbrev vO (x : Valu) : Obj := .cells #[.int .i64 x.kind, .int .i64 x.n, .string x.s] 65
theorem apply_of {x : Valu} (hx : clean x = x) (u : Upd) : apply x u = app x u := by unfold apply; rw [hx]
section
variable {M : Mem} {w : World} {Ls : List Chunk}
theorem r4apply_c (x : Valu) (u : Upd) (hx : clean x = x) (hxs : x.s.size ≤ 1024) (hu : mayU u = 0) (hS : St M w Ls) :
    CallsR Tryz.prog 184 [vv x, uv u].toArray w fun v w' => v = vv (apply x u) ∧ St M w' Ls := by
  obtain ⟨hk1, hk2⟩ := (mayU_facts hu).2.1
  have hus := mayU_s hu
  have hc0 : x.kind = 0 → x.n = 0 ∧ x.s = ByteArray.empty := fun h => by rw [clean_0 hx h]; exact ⟨rfl, rfl⟩
  have hc1 : x.kind = 1 → x.s = ByteArray.empty := fun h => by rw [← hx]; unfold clean; rw [if_pos h] <;> rfl
  have hc2 : x.kind = 2 → x.n = 0 := fun h => by rw [← hx]; unfold clean; rw [if_neg (by omega), if_pos h] <;> rfl
  have hck := clean_kind hx
  rw [apply_of hx]
  refine zC 98 Tryz.func184 rfl (zQ (zR (a_box rfl hS rfl fun b2 w hS => a_box rfl hS rfl fun b3 w hS => a_alloc z_65 hS rfl fun b4 w hS => zE (wc_cut (α := Unit) (fun _ => [(2, .pointer (some ⟨b2, 0, none⟩)), (3, .pointer (some ⟨b3, 0, none⟩)), (4, .pointer (some ⟨b4, 0, none⟩))]) (fun _ w => St M w ([(b4, vO val0)] :: [(b3, .cells (uv u).cells 59)] :: [(b2, vO x)] :: Ls)) ?_ ?_))))
  · refine zQ ?_
    refine zR (zF fl_65_0 rfl (wl (y_load pl_3 rfl (hS.c (v := .int .i64 x.kind))) rfl (wl (y_eql rfl rfl) rfl (zE (zIf rfl (fun hc7 => ?_) fun hc7 => ?_)))))
    · obtain ⟨q1, q2⟩ := hc0 (by omega)
      have e0 : vO x = vO ⟨0, 0, ByteArray.empty⟩ := by unfold vO; rw [hc7, q1, q2]
      refine zR (wl (y_build (is := []) (xs := []) (out := [_, _, _]) plc_65 z_65 .nil rfl) rfl (zG (vs := [_, _, _]) sz_65 rfl hS fun w hS => zE ?_))
      first
      | exact ⟨(), sub_cons rfl (sub_cons rfl (subR rfl)), hS.keep⟩
      | exact ⟨(), sub_cons rfl (sub_cons rfl (subR rfl)), hS⟩
      | (simp only [zL, cells_agg, setCells] at hS
         refine ⟨(), sub_cons rfl (sub_cons rfl (subR rfl)), ?_⟩
         rw [e0]
         exact hS)
    refine zK ?_
    first
    | exact ⟨(), sub_cons rfl (sub_cons rfl (subR rfl)), hS.keep⟩
    | exact ⟨(), sub_cons rfl (sub_cons rfl (subR rfl)), hS⟩
    | (simp only [zL, cells_agg, setCells] at hS
       refine ⟨(), sub_cons rfl (sub_cons rfl (subR rfl)), ?_⟩
       rw [e0]
       exact hS)
  clear hS
  rintro _ w hS
  refine wc_cut (α := Unit) (fun _ => [(2, .pointer (some ⟨b2, 0, none⟩)), (3, .pointer (some ⟨b3, 0, none⟩)), (4, .pointer (some ⟨b4, 0, none⟩))]) (fun _ w => St M w ([(b4, vO val0)] :: [(b3, .cells (uv u).cells 59)] :: [(b2, vO x)] :: Ls)) ?_ ?_
  · refine zQ ?_
    refine zR (zF fl_65_0 rfl (wl (y_load pl_3 rfl (hS.c (v := .int .i64 x.kind))) rfl (wl (y_eql rfl rfl) rfl (zE (zIf rfl (fun hc11 => ?_) fun hc11 => ?_)))))
    · have e1 : vO x = vO ⟨x.kind, x.n, ByteArray.empty⟩ := by unfold vO; rw [hc1 (by omega)]
      refine zR (zF fl_65_2 rfl (zS sz_9 rfl hS fun w hS => zE ?_))
      first
      | exact ⟨(), sub_cons rfl (sub_cons rfl (subR rfl)), hS.keep⟩
      | (simp only [zL, cells_agg, setCells] at hS
         refine ⟨(), sub_cons rfl (sub_cons rfl (subR rfl)), ?_⟩
         rw [e1]
         exact hS)
    refine zK ?_
    first
    | exact ⟨(), sub_cons rfl (sub_cons rfl (subR rfl)), hS.keep⟩
    | (simp only [zL, cells_agg, setCells] at hS
       refine ⟨(), sub_cons rfl (sub_cons rfl (subR rfl)), ?_⟩
       rw [e1]
       exact hS)
  clear hS
  rintro _ w hS
  refine wc_cut (α := Unit) (fun _ => [(2, .pointer (some ⟨b2, 0, none⟩)), (3, .pointer (some ⟨b3, 0, none⟩)), (4, .pointer (some ⟨b4, 0, none⟩))]) (fun _ w => St M w ([(b4, vO val0)] :: [(b3, .cells (uv u).cells 59)] :: [(b2, vO x)] :: Ls)) ?_ ?_
  · refine zQ ?_
    refine zR (zF fl_65_0 rfl (wl (y_load pl_3 rfl (hS.c (v := .int .i64 x.kind))) rfl (wl (y_eql rfl rfl) rfl (zE (zIf rfl (fun hc15 => ?_) fun hc15 => ?_)))))
    · have e2 : vO x = vO ⟨x.kind, 0, x.s⟩ := by unfold vO; rw [hc2 (by omega)]
      refine zR (zF fl_65_1 rfl (zS sz_2 rfl hS fun w hS => zE ?_))
      first
      | exact ⟨(), sub_cons rfl (sub_cons rfl (subR rfl)), hS.keep⟩
      | (simp only [zL, cells_agg, setCells] at hS
         refine ⟨(), sub_cons rfl (sub_cons rfl (subR rfl)), ?_⟩
         rw [e2]
         exact hS)
    refine zK ?_
    first
    | exact ⟨(), sub_cons rfl (sub_cons rfl (subR rfl)), hS.keep⟩
    | (simp only [zL, cells_agg, setCells] at hS
       refine ⟨(), sub_cons rfl (sub_cons rfl (subR rfl)), ?_⟩
       rw [e2]
       exact hS)
  clear hS
  rintro _ w hS
  refine wc_cut (α := Unit) (fun _ => [(2, .pointer (some ⟨b2, 0, none⟩)), (3, .pointer (some ⟨b3, 0, none⟩)), (4, .pointer (some ⟨b4, 0, none⟩))]) (fun _ w => (¬ u.kind = 1 ∧ ¬ (u.kind = 3 ∧ x.kind = 0)) ∧ St M w ([(b4, vO val0)] :: [(b3, .cells (uv u).cells 59)] :: [(b2, vO x)] :: Ls)) ?_ ?_
  · refine zQ ?_
    refine zR (zF fl_59_1 rfl (wl (y_load pl_3 rfl (hS.c (v := .int .i64 u.kind))) rfl (wl (y_eql rfl rfl) rfl (zM rfl (zWc (s := 20) rfl (fun hg20 => ?_) fun hg20 => ?_)))))
    · have ha : app x u = num u.n := by unfold app; rw [if_pos (by omega)]
      rw [ha]
      refine zO rfl (zO rfl (zO rfl (zO rfl (wl_offU rfl rfl rfl (wl_offU rfl rfl rfl (wl_offU rfl rfl rfl (zO rfl (wl (y_pickT rfl rfl) rfl (zE (wc_ifT rfl rfl (zQ (zR (zF fl_59_2 rfl (wl (y_load pl_2 rfl (hS.c (v := .int .i64 u.n))) rfl (wl (y_build (is := [0, 1]) (xs := [_, _]) (out := [_, _, _]) plc_65 z_65 (.cons rfl (.cons rfl .nil)) rfl) rfl (zG (vs := [_, _, _]) sz_65 rfl hS fun w hS => zE (zV (wret (vs := [_]) (.cell rfl (loadVar_struct st_65 sz_65 (vs := [_, _, _]) rfl (hS.cells rfl)) .nil) ?_))))))))))))))))))
      exact ⟨rfl, hS.keep⟩
    refine zI rfl ?_
    refine zF fl_59_1 rfl (zI rfl (wl (y_load pl_3 rfl (hS.c (v := .int .i64 u.kind))) rfl (zI rfl (wl (y_eql rfl rfl) rfl (zI rfl (zM rfl (zWc (s := 24) rfl (fun hg24 => ?_) fun hg24 => ?_)))))))
    · have h3 : u.kind = 3 := by omega
      refine zI rfl (zF fl_65_0 rfl (zI rfl (wl (y_load pl_3 rfl (hS.c (v := .int .i64 x.kind))) rfl (zI rfl (wl (y_eql rfl rfl) rfl (zI rfl (wl (y_pickT rfl rfl) rfl (wl (y_pickF rfl rfl) rfl (zE (zIf rfl (fun hc29 => ?_) fun hc29 => ?_))))))))))
      · have ha : app x u = num u.n := by (unfold app; rw [if_neg (by omega), if_neg (by omega), if_neg (by omega), if_pos (by omega), if_pos (by omega), (hc0 (by omega)).1, Int.zero_add, w64 (by have := (mayU_facts hu).2.2.1; omega) (by have := (mayU_facts hu).2.2.1; omega)])
        rw [ha]
        refine zQ (zR (zF fl_59_2 rfl (wl (y_load pl_2 rfl (hS.c (v := .int .i64 u.n))) rfl (wl (y_build (is := [0, 1]) (xs := [_, _]) (out := [_, _, _]) plc_65 z_65 (.cons rfl (.cons rfl .nil)) rfl) rfl (zG (vs := [_, _, _]) sz_65 rfl hS fun w hS => zE (zV (wret (vs := [_]) (.cell rfl (loadVar_struct st_65 sz_65 (vs := [_, _, _]) rfl (hS.cells rfl)) .nil) ?_)))))))
        exact ⟨rfl, hS.keep⟩
      refine zK ?_
      exact ⟨(), sub_cons rfl (sub_cons rfl (subR rfl)), ⟨by omega, by omega⟩, hS.keep⟩
    refine zO rfl ?_
    refine zO rfl (zO rfl (zI rfl (wl (y_pickF rfl rfl) rfl (wl (y_pickF rfl rfl) rfl (zE (wc_ifF rfl rfl (zK ?_)))))))
    exact ⟨(), sub_cons rfl (sub_cons rfl (subR rfl)), ⟨by omega, by omega⟩, hS.keep⟩
  clear hS
  rintro _ w ⟨hn1, hS⟩
  refine wc_cut (α := Unit) (fun _ => [(2, .pointer (some ⟨b2, 0, none⟩)), (3, .pointer (some ⟨b3, 0, none⟩)), (4, .pointer (some ⟨b4, 0, none⟩))]) (fun _ w => (¬ u.kind = 2 ∧ ¬ (u.kind = 4 ∧ x.kind = 0)) ∧ St M w ([(b4, vO val0)] :: [(b3, .cells (uv u).cells 59)] :: [(b2, vO x)] :: Ls)) ?_ ?_
  · refine zQ ?_
    refine zR (zF fl_59_1 rfl (wl (y_load pl_3 rfl (hS.c (v := .int .i64 u.kind))) rfl (wl (y_eql rfl rfl) rfl (zM rfl (zWc (s := 36) rfl (fun hg36 => ?_) fun hg36 => ?_)))))
    · have ha : app x u = txt u.s := by unfold app; rw [if_neg (by omega), if_pos (by omega)]
      rw [ha]
      refine zO rfl (zO rfl (zO rfl (zO rfl (wl_offU rfl rfl rfl (wl_offU rfl rfl rfl (wl_offU rfl rfl rfl (zO rfl (wl (y_pickT rfl rfl) rfl (zE (wc_ifT rfl rfl (zQ (zR (zF fl_59_3 rfl (wl (y_load pl_9 rfl (hS.c (v := .string u.s))) rfl (wl (y_build (is := [0, 2]) (xs := [_, _]) (out := [_, _, _]) plc_65 z_65 (.cons rfl (.cons rfl .nil)) rfl) rfl (zG (vs := [_, _, _]) sz_65 rfl hS fun w hS => zE (zV (wret (vs := [_]) (.cell rfl (loadVar_struct st_65 sz_65 (vs := [_, _, _]) rfl (hS.cells rfl)) .nil) ?_))))))))))))))))))
      exact ⟨rfl, hS.keep⟩
    refine zI rfl ?_
    refine zF fl_59_1 rfl (zI rfl (wl (y_load pl_3 rfl (hS.c (v := .int .i64 u.kind))) rfl (zI rfl (wl (y_eql rfl rfl) rfl (zI rfl (zM rfl (zWc (s := 40) rfl (fun hg40 => ?_) fun hg40 => ?_)))))))
    · refine zI rfl ?_
      refine zF fl_65_0 rfl (zI rfl (wl (y_load pl_3 rfl (hS.c (v := .int .i64 x.kind))) rfl (zI rfl (wl (y_eql rfl rfl) rfl (zI rfl (wl (y_pickT rfl rfl) rfl (wl (y_pickF rfl rfl) rfl (zE (zIf rfl (fun hc45 => ?_) fun hc45 => ?_)))))))))
      · have ha : app x u = txt u.s := by (unfold app; rw [if_neg (by omega), if_neg (by omega), if_neg (by omega), if_neg (by omega), if_pos (by omega), if_pos (by omega)])
        rw [ha]
        refine zQ (zR (zF fl_59_3 rfl (wl (y_load pl_9 rfl (hS.c (v := .string u.s))) rfl (wl (y_build (is := [0, 2]) (xs := [_, _]) (out := [_, _, _]) plc_65 z_65 (.cons rfl (.cons rfl .nil)) rfl) rfl (zG (vs := [_, _, _]) sz_65 rfl hS fun w hS => zE (zV (wret (vs := [_]) (.cell rfl (loadVar_struct st_65 sz_65 (vs := [_, _, _]) rfl (hS.cells rfl)) .nil) ?_)))))))
        exact ⟨rfl, hS.keep⟩
      refine zK ?_
      exact ⟨(), sub_cons rfl (sub_cons rfl (subR rfl)), ⟨by omega, by omega⟩, hS.keep⟩
    refine zO rfl ?_
    refine zO rfl (zO rfl (zI rfl (wl (y_pickF rfl rfl) rfl (wl (y_pickF rfl rfl) rfl (zE (wc_ifF rfl rfl (zK ?_)))))))
    exact ⟨(), sub_cons rfl (sub_cons rfl (subR rfl)), ⟨by omega, by omega⟩, hS.keep⟩
  clear hS
  rintro _ w ⟨hn2, hS⟩
  refine wc_cut (α := Valu) (fun _ => [(2, .pointer (some ⟨b2, 0, none⟩)), (3, .pointer (some ⟨b3, 0, none⟩)), (4, .pointer (some ⟨b4, 0, none⟩))]) (fun y w => ((¬ u.kind = 3 → y = x) ∧ (u.kind = 3 → y = app x u)) ∧ St M w ([(b4, vO val0)] :: [(b3, .cells (uv u).cells 59)] :: [(b2, vO y)] :: Ls)) ?_ ?_
  · refine zQ ?_
    refine zR (zF fl_59_1 rfl (wl (y_load pl_3 rfl (hS.c (v := .int .i64 u.kind))) rfl (wl (y_eql rfl rfl) rfl (zM rfl (zWc (s := 52) rfl (fun hg52 => ?_) fun hg52 => ?_)))))
    · refine zI rfl ?_
      refine zF fl_65_0 rfl (zI rfl (wl (y_load pl_3 rfl (hS.c (v := .int .i64 x.kind))) rfl (zI rfl (wl (y_eql rfl rfl) rfl (wl (y_pickT rfl rfl) rfl (zE (zIf rfl (fun hc56 => ?_) fun hc56 => ?_)))))))
      · have ha : app x u = ⟨x.kind, IntKind.i64.wrap (x.n + u.n), x.s⟩ := by (unfold app; rw [if_neg (by omega), if_neg (by omega), if_neg (by omega), if_pos (by omega), if_pos (by omega), hc1 (by omega), show x.kind = 1 by omega] <;> rfl)
        refine zR (zF fl_65_1 rfl (wl (y_load pl_2 rfl (hS.c (v := .int .i64 x.n))) rfl (zF fl_59_2 rfl (wl (y_load pl_2 rfl (hS.c (v := .int .i64 u.n))) rfl (wl (y_add (r := IntKind.i64.wrap (x.n + u.n)) rfl rfl rfl) rfl (zF fl_65_1 rfl (zS sz_2 rfl hS fun w hS => zE ?_)))))))
        first
        | exact ⟨x, sub_cons rfl (sub_cons rfl (subR rfl)), ⟨fun _ => rfl, fun h => (ha h).symm⟩, hS.keep⟩
        | (simp only [zL, cells_agg, setCells] at hS
           exact ⟨⟨x.kind, IntKind.i64.wrap (x.n + u.n), x.s⟩, sub_cons rfl (sub_cons rfl (subR rfl)), ⟨fun h => absurd (by omega) h, fun _ => ha.symm⟩, hS.keep⟩)
      have ha : u.kind = 3 → app x u = x := fun h => by (unfold app; rw [if_neg (by omega), if_neg (by omega), if_neg (by omega), if_pos (by omega), if_neg (by omega)])
      refine zK ?_
      first
      | exact ⟨x, sub_cons rfl (sub_cons rfl (subR rfl)), ⟨fun _ => rfl, fun h => (ha h).symm⟩, hS.keep⟩
      | (simp only [zL, cells_agg, setCells] at hS
         exact ⟨⟨x.kind, IntKind.i64.wrap (x.n + u.n), x.s⟩, sub_cons rfl (sub_cons rfl (subR rfl)), ⟨fun h => absurd (by omega) h, fun _ => ha.symm⟩, hS.keep⟩)
    have ha : u.kind = 3 → app x u = x := fun h => absurd h (by omega)
    refine zO rfl (zO rfl (zO rfl (wl (y_pickF rfl rfl) rfl (zE (wc_ifF rfl rfl (zK ?_))))))
    first
    | exact ⟨x, sub_cons rfl (sub_cons rfl (subR rfl)), ⟨fun _ => rfl, fun h => (ha h).symm⟩, hS.keep⟩
    | (simp only [zL, cells_agg, setCells] at hS
       exact ⟨⟨x.kind, IntKind.i64.wrap (x.n + u.n), x.s⟩, sub_cons rfl (sub_cons rfl (subR rfl)), ⟨fun h => absurd (by omega) h, fun _ => ha.symm⟩, hS.keep⟩)
  clear hS
  rintro y w ⟨⟨hy1, hy2⟩, hS⟩
  have hy3 : u.kind = 4 → y = x := fun h => hy1 (by omega)
  refine wc_cut (α := Valu) (fun _ => [(2, .pointer (some ⟨b2, 0, none⟩)), (3, .pointer (some ⟨b3, 0, none⟩)), (4, .pointer (some ⟨b4, 0, none⟩))]) (fun z w => (¬ u.kind = 5 → z = app x u) ∧ St M w ([(b4, vO val0)] :: [(b3, .cells (uv u).cells 59)] :: [(b2, vO z)] :: Ls)) ?_ ?_
  · refine zQ ?_
    have hcase : u.kind = 4 ∨ ¬ u.kind = 4 := by omega
    have hys : u.kind = 4 → y.s.size ≤ 1024 := fun h => by rw [hy3 h]; exact hxs
    refine zR (zF fl_59_1 rfl (wl (y_load pl_3 rfl (hS.c (v := .int .i64 u.kind))) rfl (wl (y_eql rfl rfl) rfl (zM rfl (zWc (s := 66) rfl (fun hg66 => ?_) fun hg66 => ?_)))))
    · refine zI rfl ?_
      refine zF fl_65_0 rfl (zI rfl (wl (y_load pl_3 rfl (hS.c (v := .int .i64 y.kind))) rfl (zI rfl (wl (y_eql rfl rfl) rfl (wl (y_pickT rfl rfl) rfl (zM rfl (zWc (s := 71) rfl (fun hg71 => ?_) fun hg71 => ?_)))))))
      · refine zI rfl ?_
        refine zF fl_65_2 rfl (zI rfl (wl (y_load pl_9 rfl (hS.c (v := .string y.s))) rfl (zI rfl (wl (y_len_s Tryz.underlying9 rfl) rfl (zI rfl (wl (y_leq rfl rfl) rfl (wl (y_pickT rfl rfl) rfl (zM rfl (zWc (s := 77) rfl (fun hg77 => ?_) fun hg77 => ?_)))))))))
        · refine zI rfl ?_
          refine zF fl_59_3 rfl (zI rfl (wl (y_load pl_9 rfl (hS.c (v := .string u.s))) rfl (zI rfl (wl (y_len_s Tryz.underlying9 rfl) rfl (zI rfl (zF fl_65_2 rfl (zI rfl (wl (y_load pl_9 rfl (hS.c (v := .string y.s))) rfl (zI rfl (wl (y_len_s Tryz.underlying9 rfl) rfl (zI rfl (wl (y_sub rfl rfl (w64 (by omega) (by omega))) rfl (zI rfl (wl (y_leq rfl rfl) rfl (wl (y_pickT rfl rfl) rfl (zE (zIf rfl (fun hc86 => ?_) fun hc86 => ?_)))))))))))))))))
          · have h4 : u.kind = 4 := by omega
            have hyx := hy3 h4
            have ha : app x u = ⟨y.kind, y.n, y.s ++ u.s⟩ := by (rw [hyx] at hg71 hg77 hc86 ⊢; unfold app; rw [if_neg (by omega), if_neg (by omega), if_neg (by omega), if_neg (by omega), if_pos h4, if_neg (by omega), if_pos (by omega), if_pos (by omega), show x.kind = 2 by omega, hc2 (by omega)] <;> rfl)
            refine zR (zF fl_65_2 rfl (wl (y_load pl_9 rfl (hS.c (v := .string y.s))) rfl (zF fl_59_3 rfl (wl (y_load pl_9 rfl (hS.c (v := .string u.s))) rfl (wl (y_sadd rfl rfl (by have := hys (by omega); omega)) rfl (zF fl_65_2 rfl (zS sz_9 rfl hS fun w hS => zE ?_)))))))
            first
            | exact ⟨y, sub_cons rfl (sub_cons rfl (subR rfl)), ha, hS.keep⟩
            | (simp only [zL, cells_agg, setCells] at hS
               exact ⟨⟨y.kind, y.n, y.s ++ u.s⟩, sub_cons rfl (sub_cons rfl (subR rfl)), fun _ => ha.symm, hS.keep⟩)
          have ha : ¬ u.kind = 5 → y = app x u := fun h5 => by (obtain rfl := hy3 (by omega); unfold app; rw [if_neg (by omega), if_neg (by omega), if_neg (by omega), if_neg (by omega), if_pos (by omega), if_neg (by omega), if_pos (by omega), if_neg (by omega)])
          refine zK ?_
          first
          | exact ⟨y, sub_cons rfl (sub_cons rfl (subR rfl)), ha, hS.keep⟩
          | (simp only [zL, cells_agg, setCells] at hS
             exact ⟨⟨y.kind, y.n, y.s ++ u.s⟩, sub_cons rfl (sub_cons rfl (subR rfl)), fun _ => ha.symm, hS.keep⟩)
        have ha : ¬ u.kind = 5 → y = app x u := fun h5 => absurd (hys (by omega)) (by omega)
        refine zO rfl (zO rfl (zO rfl (zO rfl (zO rfl (zO rfl (zO rfl (zO rfl (wl (y_pickF rfl rfl) rfl (zE (wc_ifF rfl rfl (zK ?_)))))))))))
        first
        | exact ⟨y, sub_cons rfl (sub_cons rfl (subR rfl)), ha, hS.keep⟩
        | (simp only [zL, cells_agg, setCells] at hS
           exact ⟨⟨y.kind, y.n, y.s ++ u.s⟩, sub_cons rfl (sub_cons rfl (subR rfl)), fun _ => ha.symm, hS.keep⟩)
      have ha : ¬ u.kind = 5 → y = app x u := fun h5 => by (obtain rfl := hy3 (by omega); unfold app; rw [if_neg (by omega), if_neg (by omega), if_neg (by omega), if_neg (by omega), if_pos (by omega), if_neg (by omega), if_neg (by omega)])
      refine zO rfl (zO rfl (zO rfl (zO rfl (wl (y_pickF rfl rfl) rfl (zM rfl (zO rfl (zO rfl (zO rfl (zO rfl (zO rfl (zO rfl (zO rfl (zO rfl (wl (y_pickF rfl rfl) rfl (zE (wc_ifF rfl rfl (zK ?_)))))))))))))))))
      first
      | exact ⟨y, sub_cons rfl (sub_cons rfl (subR rfl)), ha, hS.keep⟩
      | (simp only [zL, cells_agg, setCells] at hS
         exact ⟨⟨y.kind, y.n, y.s ++ u.s⟩, sub_cons rfl (sub_cons rfl (subR rfl)), fun _ => ha.symm, hS.keep⟩)
    have ha : ¬ u.kind = 5 → y = app x u := fun h5 => hy2 (by omega)
    refine zO rfl (zO rfl (zO rfl (wl (y_pickF rfl rfl) rfl (zM rfl (zO rfl (zO rfl (zO rfl (zO rfl (wl (y_pickF rfl rfl) rfl (zM rfl (zO rfl (zO rfl (zO rfl (zO rfl (zO rfl (zO rfl (zO rfl (zO rfl (wl (y_pickF rfl rfl) rfl (zE (wc_ifF rfl rfl (zK ?_))))))))))))))))))))))
    first
    | exact ⟨y, sub_cons rfl (sub_cons rfl (subR rfl)), ha, hS.keep⟩
    | (simp only [zL, cells_agg, setCells] at hS
       exact ⟨⟨y.kind, y.n, y.s ++ u.s⟩, sub_cons rfl (sub_cons rfl (subR rfl)), fun _ => ha.symm, hS.keep⟩)
  clear hS
  rintro z w ⟨hz, hS⟩
  refine zQ (zQ (zR (zF fl_59_1 rfl (wl (y_load pl_3 rfl (hS.c (v := .int .i64 u.kind))) rfl (wl (y_eql rfl rfl) rfl (zE (zIf rfl (fun hc95 => ?_) fun hc95 => ?_)))))))
  · have ha : app x u = val0 := by unfold app; rw [if_neg (by omega), if_neg (by omega), if_pos (by omega)]
    rw [ha]
    refine zQ (zR (wl (y_build (is := []) (xs := []) (out := [_, _, _]) plc_65 z_65 .nil rfl) rfl (zG (vs := [_, _, _]) sz_65 rfl hS fun w hS => zE (zV (wret (vs := [_]) (.cell rfl (loadVar_struct st_65 sz_65 (vs := [_, _, _]) rfl (hS.cells rfl)) .nil) ?_)))))
    exact ⟨rfl, hS.keep⟩
  rw [← hz (by omega)]
  refine zK (zQ (zR (wl (y_loadS st_65 sz_65 rfl (vs := [.int .i64 z.kind, .int .i64 z.n, .string z.s]) (hS.cells rfl) rfl) rfl (zG (vs := [_, _, _]) sz_65 rfl hS fun w hS => zE (zV (wret (vs := [_]) (.cell rfl (loadVar_struct st_65 sz_65 (vs := [_, _, _]) rfl (hS.cells rfl)) .nil) ?_))))))
  exact ⟨rfl, hS.keep⟩
end
end Go.Proofs.YtndahppmjdbifaaGreatDoor.Ref
set_option linter.unusedVariables false
set_option linter.unusedSimpArgs false
namespace Go.Proofs.YtndahppmjdbifaaGreatDoor.Ref
open Go Go.Proofs Eng Snd Val Rou Jnl Cli Sto
theorem take_app {α : Type} {l : List α} {i : Nat} {x : α} (h : l[i]? = some x) : l.take (i + 1) = l.take i ++ [x] := by rw [List.take_add_one, h] <;> rfl
theorem flat_len {rs : List Rnd} (hul : ∀ r ∈ rs, r.ups.length ≤ 1000) : (rs.flatMap (·.ups)).length ≤ 1000 * rs.length := by
  induction rs with
  | nil => simp
  | cons r rs ih =>
    have := ih fun x hx => hul x (List.mem_cons_of_mem _ hx)
    have := hul r List.mem_cons_self
    simp only [List.flatMap_cons, List.length_append, List.length_cons]
    omega
theorem lt_step {α : Type} {P : α → Prop} {out : List α} {n : Nat} {a : α} (h : ∀ j b, j < n → out[j]? = some b → P b) (ha : out[n]? = some a) (hp : P a) : ∀ j b, j < n + 1 → out[j]? = some b → P b := by
  intro j b hj hb
  rcases Nat.lt_succ_iff_lt_or_eq.1 hj with h1 | rfl
  · exact h j b h1 hb
  rw [ha] at hb; cases hb; exact hp
section
variable {M : Mem} {w : World} {Ls : List Chunk}
theorem r5get_c (k : ByteArray) (l : List Upd) (s : Value) (hll : l.length ≤ 137438953472) (hl : Rd M encU s l) (hS : St M w Ls) :
    CallsR Tryz.prog 154 [.string k, s].toArray w fun v w' => v = vv (getK k l) ∧ St M w' Ls := by
  obtain ⟨sa, sc, rfl⟩ := (hl.holds hS).slice
  have h0 : getK k (l.take 0) = val0 := by unfold getK; rfl
  refine zC 36 Tryz.func154 rfl (zQ (zR (a_alloc z_65 hS rfl fun b4 w hS => zE (zQ (zR (wl (y_build (is := []) (xs := []) (out := [_, _, _]) plc_65 z_65 .nil rfl) rfl (a_alloc z_65 hS rfl fun b5 w hS => zG (vs := [_, _, _]) sz_65 rfl hS fun w hS => zE (zQ (wc_cut (α := Nat × Nat) (fun ⟨b4, b5⟩ => [(0, .string k), (1, .slice sa l.length sc), (4, .pointer (some ⟨b4, 0, none⟩)), (5, .pointer (some ⟨b5, 0, none⟩)), (6, .int .i64 0)]) (fun ⟨b4, b5⟩ w => St M w ([(b5, vO val0)] :: [(b4, vO val0)] :: Ls)) ?_ ?_)))))))))
  · refine zR ?_
    refine zA rfl (zE ?_)
    simp only [zL, cells_agg, setCells] at hS
    exact ⟨(b4, b5), sub_cons rfl (sub_cons rfl (sub_cons rfl (sub_cons rfl (subR rfl)))), hS⟩
  clear hS
  rintro ⟨b4, b5⟩ w hS
  replace hS := (show St M w ([(b5, vO (getK k (l.take 0)))] :: [(b4, vO val0)] :: Ls) by rw [h0]; exact hS)
  refine zB (wc_loop (α := Nat) (fun i => [(0, .string k), (1, .slice sa l.length sc), (4, .pointer (some ⟨b4, 0, none⟩)), (5, .pointer (some ⟨b5, 0, none⟩)), (6, .int .i64 i)]) (fun i w => i ≤ l.length ∧ St M w ([(b5, vO (getK k (l.take i)))] :: [(b4, vO val0)] :: Ls)) (fun i => l.length - i) 0 (sub_cons rfl (sub_cons rfl (sub_cons rfl (sub_cons rfl (subR rfl))))) ⟨by omega, hS⟩ ?_)
  clear hS
  rintro i w ⟨hi, hS⟩
  refine zQ (zQ (zR (zM rfl (zM rfl (wl (y_len_sl Tryz.underlying46 rfl) rfl (wl (y_lss rfl rfl) rfl (zE (zIf rfl (fun hc11 => ?_) fun hc11 => ?_))))))))
  · refine zK ?_
    refine zQ (zB (zQ ?_))
    have hi' : i < l.length := by omega
    obtain ⟨u, hu⟩ : ∃ u, l[i]? = some u := ⟨_, List.getElem?_eq_getElem hi'⟩
    have htk := take_app hu
    have hst := getK_app k (l.take i) u
    rw [← htk] at hst
    obtain ⟨hcl, hcs⟩ := getK_clean k (l.take i)
    obtain ⟨bb, off, c', hse, hce⟩ := (hl.holds hS).at hu
    simp only [Value.slice.injEq] at hse
    have hSk := hS
    obtain ⟨rfl, _, rfl⟩ := hse
    replace hS := hSk
    refine zR (zM rfl (zM rfl (wl (y_ixa_sl Tryz.underlying46 sz_59 rfl rfl (by omega) (by omega)) rfl (zF fl_59_0 rfl (wl (y_load pl_9 rfl ((hl.holds hS).cellAt hu (j := 0) rfl)) rfl (zM rfl (wl (y_seql rfl rfl) rfl (zM rfl (zWc (s := 21) rfl (fun hg21 => ?_) fun hg21 => ?_)))))))))
    · refine zI rfl ?_
      refine zM rfl (zI rfl (zM rfl (zI rfl (wl (y_ixa_sl Tryz.underlying46 sz_59 rfl rfl (by omega) (by omega)) rfl (zI rfl (wl ((y_loadS st_59 sz_59 rfl (vs := encU.f u) ((hl.holds hS).cells hu) rfl).val (show _ = uv u from rfl)) rfl (zI rfl (wl_call (.cons rfl .nil) (r4may_c u hS) rfl ?_))))))))
      rintro _ w ⟨rfl, hS⟩
      refine zI rfl (wl (y_eql rfl rfl) rfl (wl (y_pickT rfl rfl) rfl (zE (zIf rfl (fun hc28 => ?_) fun hc28 => ?_))))
      · have hq : getK k (l.take (i + 1)) = apply (getK k (l.take i)) u := by rw [hst]; unfold stepK; rw [if_pos ⟨by assumption, by omega⟩]
        refine zW hS (fun w => CellsAt w b5 0 [.int .i64 (getK k (l.take i)).kind, .int .i64 (getK k (l.take i)).n, .string (getK k (l.take i)).s] ∧ CellsAt w bb (off + i * encU.k) (encU.f u)) [6] wide_ rfl fun w hS => zPm 1 2 rfl (zPm 2 6 rfl (zP 3 14 rfl (fun w => y_ixa_sl Tryz.underlying46 sz_59 rfl rfl (by omega) (by omega)) (zD 0 15 rfl ⟨hS.cells rfl, (hl.holds hS).cells hu⟩ (fun w hS => (y_loadS st_65 sz_65 rfl hS.1 rfl).val (show _ = vv (getK k (l.take i)) from rfl)) (zD 4 31 rfl ⟨hS.cells rfl, (hl.holds hS).cells hu⟩ (fun w hS => (y_loadS st_59 sz_59 rfl hS.2 rfl).val (show _ = uv u from rfl)) (zU 5 63 rfl (wl_call (.cons rfl (.cons rfl .nil)) (r4apply_c (getK k (l.take i)) u hcl hcs (by omega) hS) rfl ?_))))))
        rintro _ w ⟨rfl, hS⟩
        refine zE ⟨fun _ _ => ⟨hS.cells rfl, (hl.holds hS).cells hu⟩, zU 6 127 rfl (zG (vs := [_, _, _]) sz_65 rfl hS fun w hS => zE ⟨fun h => absurd (by decide) h, zH (zR (zM rfl (wl (y_add rfl rfl (w64 (by omega) (by omega))) rfl (zA rfl (zE ?_)))))⟩)⟩
        first
        | exact ⟨i + 1, by omega, sub_cons rfl (sub_cons rfl (sub_cons rfl (sub_cons rfl (subR rfl)))), by omega, by rw [hq]; exact hS.keep⟩
        | (simp only [zL, cells_agg, setCells] at hS
           exact ⟨i + 1, by omega, sub_cons rfl (sub_cons rfl (sub_cons rfl (sub_cons rfl (subR rfl)))), by omega, by rw [hq]; exact hS.keep⟩)
      have hq : getK k (l.take (i + 1)) = getK k (l.take i) := by rw [hst]; unfold stepK; rw [if_neg (fun h => by omega)]
      refine zK (zR (zM rfl (wl (y_add rfl rfl (w64 (by omega) (by omega))) rfl (zA rfl (zE ?_)))))
      first
      | exact ⟨i + 1, by omega, sub_cons rfl (sub_cons rfl (sub_cons rfl (sub_cons rfl (subR rfl)))), by omega, by rw [hq]; exact hS.keep⟩
      | (simp only [zL, cells_agg, setCells] at hS
         exact ⟨i + 1, by omega, sub_cons rfl (sub_cons rfl (sub_cons rfl (sub_cons rfl (subR rfl)))), by omega, by rw [hq]; exact hS.keep⟩)
    have hq : getK k (l.take (i + 1)) = getK k (l.take i) := by rw [hst]; unfold stepK; rw [if_neg (fun h => by first | exact hg21 h.1 | simp_all)]
    refine zO rfl (zO rfl (zO rfl (zO rfl (zO rfl (zO rfl (wl (y_pickF rfl rfl) rfl (zE (wc_ifF rfl rfl (zK (zR (zM rfl (wl (y_add rfl rfl (w64 (by omega) (by omega))) rfl (zA rfl (zE ?_))))))))))))))
    first
    | exact ⟨i + 1, by omega, sub_cons rfl (sub_cons rfl (sub_cons rfl (sub_cons rfl (subR rfl)))), by omega, by rw [hq]; exact hS.keep⟩
    | (simp only [zL, cells_agg, setCells] at hS
       exact ⟨i + 1, by omega, sub_cons rfl (sub_cons rfl (sub_cons rfl (sub_cons rfl (subR rfl)))), by omega, by rw [hq]; exact hS.keep⟩)
  obtain rfl : i = l.length := by omega
  rw [List.take_length] at hS
  refine wc_exit (zQ (zR (wl (y_loadS st_65 sz_65 rfl (vs := [.int .i64 (getK k l).kind, .int .i64 (getK k l).n, .string (getK k l).s]) (hS.cells rfl) rfl) rfl (zG (vs := [_, _, _]) sz_65 rfl hS fun w hS => zE (zV (wret (vs := [_]) (.cell rfl (loadVar_struct st_65 sz_65 (vs := [_, _, _]) rfl (hS.cells rfl)) .nil) ?_))))))
  exact ⟨rfl, hS.keep⟩
theorem r8flat_c (opn : List Upd) (so : Value) (ho : Rd M encU so opn) (hol : opn.length ≤ 1000) {xs : List RV} {rs : List Rnd} (s : Value) {Hx : Chunk} (hxl : rs.length ≤ 10000000) (hul : ∀ r ∈ rs, r.ups.length ≤ 1000) (hx : Own 48 encRV s xs Hx) (hr : Rvs M xs rs) (hS : St M w (Hx :: Ls)) :
    CallsR Tryz.prog 155 [so, s].toArray w fun v w' => ∃ H', Own 59 encU v (rs.flatMap (·.ups) ++ opn) H' ∧ St M w' (H' :: Hx :: Ls) := by
  have hlen := hr.len
  obtain ⟨oa, oc, rfl⟩ := (ho.holds hS).slice
  obtain ⟨sa, sc, rfl⟩ := hx.slice
  refine zC 24 Tryz.func155 rfl (zQ (zR (zA rfl (zE (zQ (zR (a_bslice encU [] (vs := []) (ps := []) Tryz.underlying46 sz_59 z_59 rfl .nil rfl rfl rfl (by decide) hS rfl fun u0 H0 w o0 hS => zA rfl (zE (zQ (zQ (zR (zA rfl (zE (zB (wc_loop (α := Nat × Value × Chunk) (fun ⟨i, s, _⟩ => [(0, .slice oa opn.length oc), (1, .slice sa xs.length sc), (5, s), (6, .int .i64 i)]) (fun ⟨i, s, H⟩ w => i ≤ xs.length ∧ Own 59 encU s ((rs.take i).flatMap (·.ups)) H ∧ ((rs.take i).flatMap (·.ups)).length ≤ 1000 * i ∧ St M w (H :: Hx :: Ls)) (fun ⟨i, _, _⟩ => xs.length - i) (0, u0, H0) (sub_cons rfl (sub_cons rfl (sub_cons rfl (subR rfl)))) ⟨by omega, o0, by simp, hS⟩ ?_)))))))))))))))
  clear hS o0
  rintro ⟨i, s, H0⟩ w ⟨hi, o0, hfl, hS⟩
  refine zQ (zQ (zR (zM rfl (zM rfl (wl (y_len_sl Tryz.underlying32 rfl) rfl (wl (y_lss rfl rfl) rfl (zE (zIf rfl (fun hc11 => ?_) fun hc11 => ?_))))))))
  · refine zK ?_
    refine zQ (zB ?_)
    have hi' : i < xs.length := by omega
    obtain ⟨r, hri⟩ : ∃ r, rs[i]? = some r := ⟨_, List.getElem?_eq_getElem (by omega)⟩
    obtain ⟨x, hx', hxr⟩ := hr.at hri
    have hru := hul r (List.mem_of_getElem? hri)
    have htk : (rs.take (i + 1)).flatMap (·.ups) = (rs.take i).flatMap (·.ups) ++ r.ups := by rw [take_app hri]; simp
    obtain ⟨bb, off, c', hse, hce⟩ := (hx.holds (hS.pull Hx)).at hx'
    simp only [Value.slice.injEq] at hse
    have hSk := hS
    obtain ⟨rfl, _, rfl⟩ := hse
    replace hS := hSk
    have hxu := hxr.2.2.1
    obtain ⟨ua, uc, hue⟩ := (hxu.holds hS).slice
    obtain ⟨xa, xc, rfl⟩ := o0.slice
    refine zR (zM rfl (zM rfl (zM rfl (wl (y_ixa_sl Tryz.underlying32 sz_48 rfl rfl (by omega) (by omega)) rfl (zF fl_48_2 rfl (wl ((y_load pl_46 rfl ((hx.holds (hS.pull Hx)).cellAt hx' (j := 2) rfl)).val (show _ = .slice ua r.ups.length uc from hue)) rfl (a_append Tryz.underlying46 Tryz.underlying46 sz_59 z_59 rfl by_59 (by decide) rfl rfl o0 (by rw [hue] at hxu; exact hxu.holds hS) (hS.pull H0) (by omega) rfl fun s1 H1 w o1 hS => ?_)))))))
    try rw [List.nil_append] at o1
    rw [← htk] at o1
    refine zA rfl (zE (zR (zM rfl (wl (y_add rfl rfl (w64 (by omega) (by omega))) rfl (zA rfl (zE ?_))))))
    exact ⟨(i + 1, _, H1), by simp only; omega, sub_cons rfl (sub_cons rfl (sub_cons rfl (subR rfl))), by omega, o1, by rw [htk, List.length_append]; omega, hS.keep⟩
  obtain rfl : i = xs.length := by omega
  rw [hlen, List.take_length] at o0 hfl
  obtain ⟨xa, xc, rfl⟩ := o0.slice
  refine wc_exit (zQ (zR (zM rfl (zM rfl (a_append Tryz.underlying46 Tryz.underlying46 sz_59 z_59 rfl by_59 (by decide) rfl rfl o0 (ho.holds hS) (hS.pull H0) (by omega) rfl fun s2 H2 w o2 hS => ?_)))))
  try rw [List.nil_append] at o2
  refine zA rfl (zE (zV (z1 rfl ?_)))
  exact ⟨_, o2, hS⟩
theorem r8read_c (k : ByteArray) (opn : List Upd) (so : Value) (ho : Rd M encU so opn) (hol : opn.length ≤ 1000) {xs : List RV} {rs : List Rnd} (s : Value) {Hx : Chunk} (hxl : rs.length ≤ 10000000) (hul : ∀ r ∈ rs, r.ups.length ≤ 1000) (hx : Own 48 encRV s xs Hx) (hr : Rvs M xs rs) (hS : St M w (Hx :: Ls)) :
    CallsR Tryz.prog 103 [.string k, so, s].toArray w fun v w' => ∃ M', Mle M M' ∧ v = vv (vGet k (state rs opn)) ∧ St M' w' (Hx :: Ls) := by
  obtain ⟨oa, oc, rfl⟩ := (ho.holds hS).slice
  obtain ⟨sa, sc, rfl⟩ := hx.slice
  have hfl := flat_len hul
  rw [get_state]
  refine zC 12 Tryz.func103 rfl (zQ (zR (a_alloc z_65 hS rfl fun b6 w hS => zE (zQ (zR (zM rfl (zM rfl (zM rfl (wl_call (.cons rfl (.cons rfl .nil)) (r8flat_c opn _ ho hol _ hxl hul hx hr (hS.pull Hx)) rfl ?_)))))))))
  rintro v w ⟨H1, o1, hS⟩
  obtain ⟨M1, hM1, hF, hS⟩ := hS.freeze
  have r1 := o1.rd hF
  obtain ⟨fa, fc, rfl⟩ := o1.slice
  refine wl_call (.cons rfl (.cons rfl .nil)) (r5get_c k _ _ (by rw [List.length_append]; omega) r1 hS) rfl ?_
  rintro _ w ⟨rfl, hS⟩
  refine zG (vs := [_, _, _]) sz_65 rfl hS fun w hS => zE (zV (wret (vs := [_]) (.cell rfl (loadVar_struct st_65 sz_65 (vs := [_, _, _]) rfl (hS.cells rfl)) .nil) ?_))
  exact ⟨M1, hM1, rfl, hS.keep⟩
theorem r5keys_c (l : List Upd) (s : Value) (hl : Rd M encU s l) (hll : l.length ≤ 100000000) (hS : St M w Ls) :
    CallsR Tryz.prog 157 [s].toArray w fun v w' => ∃ H', Own 9 encS v (keysF l l) H' ∧ St M w' (H' :: Ls) := by
  obtain ⟨sa, sc, rfl⟩ := (hl.holds hS).slice
  have h0 : keysF l (l.take 0) = [] := by unfold keysF; rfl
  refine zC 65 Tryz.func157 rfl (zQ (zR (zA rfl (zE (zQ (zR (a_bslice encS [] (vs := []) (ps := []) Tryz.underlying83 sz_9 z_9 rfl .nil rfl rfl rfl (by decide) hS rfl fun u0 H0 w o0 hS => zA rfl (zE (zQ (zQ (zR (zA rfl (zE (zB (wc_loop (α := Nat × Value × Chunk) (fun ⟨i, s, _⟩ => [(0, .slice sa l.length sc), (3, s), (4, .int .i64 i)]) (fun ⟨i, s, H⟩ w => i ≤ l.length ∧ Own 9 encS s (keysF l (l.take i)) H ∧ St M w (H :: Ls)) (fun ⟨i, _, _⟩ => l.length - i) (0, u0, H0) (sub_cons rfl (sub_cons rfl (subR rfl))) ⟨by omega, by rw [h0]; exact o0, hS⟩ ?_)))))))))))))))
  clear hS o0
  rintro ⟨i, s, H0⟩ w ⟨hi, o0, hS⟩
  refine zQ (zQ (zR (zM rfl (zM rfl (wl (y_len_sl Tryz.underlying46 rfl) rfl (wl (y_lss rfl rfl) rfl (zE (zIf rfl (fun hc12 => ?_) fun hc12 => ?_))))))))
  · refine zK ?_
    refine zQ (zB (zQ ?_))
    have hi' : i < l.length := by omega
    obtain ⟨u, hu⟩ : ∃ u, l[i]? = some u := ⟨_, List.getElem?_eq_getElem hi'⟩
    have htk := take_app hu
    have hkf := keysF_app l (l.take i) u
    rw [← htk] at hkf
    have hkl := keysF_len l (l.take i)
    rw [List.length_take] at hkl
    obtain ⟨bb, off, c', hse, hce⟩ := (hl.holds hS).at hu
    simp only [Value.slice.injEq] at hse
    have hSk := hS
    obtain ⟨rfl, _, rfl⟩ := hse
    replace hS := hSk
    generalize keysF l (l.take i) = out at o0 hkf hkl
    obtain ⟨xa, xc, rfl⟩ := o0.slice
    have hocap := o0.cap.2
    have hoad := o0.addr
    refine zR (zM rfl (zM rfl (wl (y_ixa_sl Tryz.underlying46 sz_59 rfl rfl (by omega) (by omega)) rfl (zF fl_59_0 rfl (wl (y_load pl_9 rfl ((hl.holds hS).cellAt hu (j := 0) rfl)) rfl (zA rfl (zE (zQ (zQ (zR (zM rfl (zM rfl (wl_call (.cons rfl (.cons rfl .nil)) (r5get_c u.key l _ (by omega) hl hS) rfl ?_)))))))))))))
    rintro _ w ⟨rfl, hS⟩
    refine wl (y_field fl_65_0 pl_3 (show _ = some (Value.agg [.int .i64 (getK u.key l).kind, .int .i64 (getK u.key l).n, .string (getK u.key l).s].toArray) from rfl) rfl) rfl (wl (y_eql rfl rfl) rfl (zE (zIf rfl (fun hc24 => ?_) fun hc24 => ?_)))
    · rw [if_pos (by omega)] at hkf
      refine wc_exit (zR (zM rfl (wl (y_add rfl rfl (w64 (by omega) (by omega))) rfl (zA rfl (zE ?_)))))
      first
      | exact ⟨(i + 1, _, H6), by simp only; omega, sub_cons rfl (sub_cons rfl (subR rfl)), by omega, o6, hS.keep⟩
      | exact ⟨(i + 1, _, H0), by simp only; omega, sub_cons rfl (sub_cons rfl (subR rfl)), by omega, by rw [hkf]; exact o0, hS.keep⟩
    rw [if_neg (by omega)] at hkf
    refine zK (zQ (zR (zA rfl (zE (wc_cut (α := Nat) (fun at_ => [(0, .slice (some ⟨bb, off, none⟩) l.length sc), (3, .slice xa out.length xc), (4, .int .i64 i), (5, .string u.key), (6, .int .i64 at_)]) (fun at_ w => at_ ≤ out.length ∧ (∀ j a, j < at_ → out[j]? = some a → less a u.key = true) ∧ (∀ a, out[at_]? = some a → less a u.key = false) ∧ St M w (H0 :: Ls)) ?_ ?_)))))
    · refine zB ?_
      refine wc_loop (α := Nat) (fun at_ => [(0, .slice (some ⟨bb, off, none⟩) l.length sc), (3, .slice xa out.length xc), (4, .int .i64 i), (5, .string u.key), (6, .int .i64 at_)]) (fun at_ w => at_ ≤ out.length ∧ (∀ j a, j < at_ → out[j]? = some a → less a u.key = true) ∧ St M w (H0 :: Ls)) (fun at_ => out.length - at_) 0 (sub_cons rfl (sub_cons rfl (sub_cons rfl (sub_cons rfl (subR rfl))))) ⟨by omega, fun j a hj => absurd hj (by omega), hS⟩ ?_
      clear hS hSk
      rintro at_ w ⟨hat, hlt, hS⟩
      refine zQ (zQ (zR (zM rfl (zM rfl (wl (y_len_sl Tryz.underlying83 rfl) rfl (wl (y_lss rfl rfl) rfl (zM rfl (zWc (s := 29) rfl (fun hg29 => ?_) fun hg29 => ?_))))))))
      · obtain ⟨a, ha⟩ : ∃ a, out[at_]? = some a := ⟨_, List.getElem?_eq_getElem (by omega)⟩
        obtain ⟨b2, off2, c2, hse, hce2⟩ := (o0.holds hS).at ha
        simp only [Value.slice.injEq] at hse
        have hSk := hS
        obtain ⟨rfl, _, rfl⟩ := hse
        replace hS := hSk
        refine zI rfl (zM rfl (zI rfl (zM rfl (zI rfl (wl (y_ixa_sl Tryz.underlying83 sz_9 rfl rfl (by omega) (by omega)) rfl (zI rfl (wl (y_load pl_9 rfl hce2.one) rfl (zI rfl (zM rfl (zI rfl (wl (y_slss rfl rfl) rfl (wl (y_pickT rfl rfl) rfl (zE (zIf rfl (fun hc36 => ?_) fun hc36 => ?_))))))))))))))
        · have hlt2 := lt_step (P := fun b => less b u.key = true) hlt ha hc36
          refine zK (zB (zR (zM rfl (wl (y_add rfl rfl (w64 (by omega) (by omega))) rfl (zA rfl (zE ?_))))))
          exact ⟨at_ + 1, by omega, sub_cons rfl (sub_cons rfl (sub_cons rfl (sub_cons rfl (subR rfl)))), by omega, hlt2, hS⟩
        have hend : ∀ b, out[at_]? = some b → less b u.key = false := fun b hb => by (rw [ha] at hb; cases hb; exact hc36)
        refine wc_exit ?_
        exact ⟨at_, sub_cons rfl (sub_cons rfl (sub_cons rfl (sub_cons rfl (subR rfl)))), hat, hlt, hend, hS⟩
      have hend : ∀ a, out[at_]? = some a → less a u.key = false := fun a h => by (rw [List.getElem?_eq_none (by omega)] at h; cases h)
      refine zO rfl (zO rfl (zO rfl (zO rfl (zO rfl (zO rfl (wl (y_pickF rfl rfl) rfl (zE (wc_ifF rfl rfl (wc_exit ?_)))))))))
      exact ⟨at_, sub_cons rfl (sub_cons rfl (sub_cons rfl (sub_cons rfl (subR rfl)))), hat, hlt, hend, hS⟩
    clear hS hSk
    rintro at_ w ⟨hat, hlt, hend, hS⟩
    refine zQ (zQ (zR (zM rfl (zM rfl (wl (y_len_sl Tryz.underlying83 rfl) rfl (wl (y_lss rfl rfl) rfl (zM rfl (zWc (s := 43) rfl (fun hg43 => ?_) fun hg43 => ?_))))))))
    · obtain ⟨a, ha⟩ : ∃ a, out[at_]? = some a := ⟨_, List.getElem?_eq_getElem (by omega)⟩
      obtain ⟨b2, off2, c2, hse, hce2⟩ := (o0.holds hS).at ha
      simp only [Value.slice.injEq] at hse
      have hSk := hS
      obtain ⟨rfl, _, rfl⟩ := hse
      replace hS := hSk
      refine zI rfl (zM rfl (zI rfl (zM rfl (zI rfl (wl (y_ixa_sl Tryz.underlying83 sz_9 rfl rfl (by omega) (by omega)) rfl (zI rfl (wl (y_load pl_9 rfl hce2.one) rfl (zI rfl (zM rfl (zI rfl (wl (y_seql rfl rfl) rfl (wl (y_pickT rfl rfl) rfl (zE (zIf rfl (fun hc50 => ?_) fun hc50 => ?_))))))))))))))
      · have hin : insK u.key out = out := insK_there hlt (by rw [ha, hc50])
        rw [hin] at hkf
        refine wc_exit (zR (zM rfl (wl (y_add rfl rfl (w64 (by omega) (by omega))) rfl (zA rfl (zE ?_)))))
        first
        | exact ⟨(i + 1, _, H6), by simp only; omega, sub_cons rfl (sub_cons rfl (subR rfl)), by omega, o6, hS.keep⟩
        | exact ⟨(i + 1, _, H0), by simp only; omega, sub_cons rfl (sub_cons rfl (subR rfl)), by omega, by rw [hkf]; exact o0, hS.keep⟩
      have hin : insK u.key out = out.take at_ ++ [u.key] ++ out.drop at_ := insK_at hat hlt (fun b hb => ⟨hend b hb, by (rw [ha] at hb; cases hb; exact hc50)⟩)
      refine zK (zQ ?_)
      rw [hin] at hkf
      have hdl : (out.drop at_).length = out.length - at_ := List.length_drop
      have htl : (out.take at_).length = at_ := by rw [List.length_take]; omega
      refine zR (a_bslice encS [] (vs := []) (ps := []) Tryz.underlying83 sz_9 z_9 rfl .nil rfl rfl rfl (by decide) hS rfl fun u1 H1 w o1 hS => zM rfl (zM rfl (wl (y_slFrom (lv := at_) Tryz.underlying83 sz_9 rfl rfl (by omega) (by omega) (by omega)) rfl (a_append Tryz.underlying83 Tryz.underlying83 sz_9 z_9 rfl by_9 (by decide) rfl rfl o1 ((o0.holds (hS.pull H0)).cut hat hocap) (hS.pull H1) (by simp; omega) rfl fun s2 H2 w o2 hS => ?_))))
      try rw [List.nil_append] at o2
      obtain ⟨ya, yc, rfl⟩ := o2.slice
      refine zA rfl (zE (zR (zM rfl (zM rfl (wl (y_slTo' (hv := at_) Tryz.underlying83 sz_9 hoad rfl rfl (by omega) (by omega) (by omega)) rfl ?_)))))
      have o3 := o0.take hat
      have H3 := H0
      refine zM rfl (a_bslice encS [u.key] Tryz.underlying83 sz_9 z_9 rfl (.cons rfl .nil) rfl rfl rfl (by decide) hS rfl fun u4 H4 w o4 hS => a_append Tryz.underlying83 Tryz.underlying83 sz_9 z_9 rfl by_9 (by decide) rfl rfl o3 (o4.holds hS) (hS.pull H0) (by simp; omega) rfl fun s5 H5 w o5 hS => ?_)
      obtain ⟨za, zc, rfl⟩ := o5.slice
      refine zM rfl (a_append Tryz.underlying83 Tryz.underlying83 sz_9 z_9 rfl by_9 (by decide) rfl rfl o5 (o2.holds (hS.pull H2)) (hS.pull H5) (by simp; omega) rfl fun s6 H6 w o6 hS => ?_)
      rw [← hkf] at o6
      refine zA rfl (zE (zR (zM rfl (wl (y_add rfl rfl (w64 (by omega) (by omega))) rfl (zA rfl (zE ?_))))))
      first
      | exact ⟨(i + 1, _, H6), by simp only; omega, sub_cons rfl (sub_cons rfl (subR rfl)), by omega, o6, hS.keep⟩
      | exact ⟨(i + 1, _, H0), by simp only; omega, sub_cons rfl (sub_cons rfl (subR rfl)), by omega, by rw [hkf]; exact o0, hS.keep⟩
    have hin : insK u.key out = out.take at_ ++ [u.key] ++ out.drop at_ := insK_at hat hlt (fun a h => by (rw [List.getElem?_eq_none (by omega)] at h; cases h))
    refine zO rfl (zO rfl (zO rfl (zO rfl (zO rfl (zO rfl (wl (y_pickF rfl rfl) rfl (zE (wc_ifF rfl rfl (zK (zQ ?_))))))))))
    rw [hin] at hkf
    have hdl : (out.drop at_).length = out.length - at_ := List.length_drop
    have htl : (out.take at_).length = at_ := by rw [List.length_take]; omega
    refine zR (a_bslice encS [] (vs := []) (ps := []) Tryz.underlying83 sz_9 z_9 rfl .nil rfl rfl rfl (by decide) hS rfl fun u1 H1 w o1 hS => zM rfl (zM rfl (wl (y_slFrom (lv := at_) Tryz.underlying83 sz_9 rfl rfl (by omega) (by omega) (by omega)) rfl (a_append Tryz.underlying83 Tryz.underlying83 sz_9 z_9 rfl by_9 (by decide) rfl rfl o1 ((o0.holds (hS.pull H0)).cut hat hocap) (hS.pull H1) (by simp; omega) rfl fun s2 H2 w o2 hS => ?_))))
    try rw [List.nil_append] at o2
    obtain ⟨ya, yc, rfl⟩ := o2.slice
    refine zA rfl (zE (zR (zM rfl (zM rfl (wl (y_slTo' (hv := at_) Tryz.underlying83 sz_9 hoad rfl rfl (by omega) (by omega) (by omega)) rfl ?_)))))
    have o3 := o0.take hat
    have H3 := H0
    refine zM rfl (a_bslice encS [u.key] Tryz.underlying83 sz_9 z_9 rfl (.cons rfl .nil) rfl rfl rfl (by decide) hS rfl fun u4 H4 w o4 hS => a_append Tryz.underlying83 Tryz.underlying83 sz_9 z_9 rfl by_9 (by decide) rfl rfl o3 (o4.holds hS) (hS.pull H0) (by simp; omega) rfl fun s5 H5 w o5 hS => ?_)
    obtain ⟨za, zc, rfl⟩ := o5.slice
    refine zM rfl (a_append Tryz.underlying83 Tryz.underlying83 sz_9 z_9 rfl by_9 (by decide) rfl rfl o5 (o2.holds (hS.pull H2)) (hS.pull H5) (by simp; omega) rfl fun s6 H6 w o6 hS => ?_)
    rw [← hkf] at o6
    refine zA rfl (zE (zR (zM rfl (wl (y_add rfl rfl (w64 (by omega) (by omega))) rfl (zA rfl (zE ?_))))))
    first
    | exact ⟨(i + 1, _, H6), by simp only; omega, sub_cons rfl (sub_cons rfl (subR rfl)), by omega, o6, hS.keep⟩
    | exact ⟨(i + 1, _, H0), by simp only; omega, sub_cons rfl (sub_cons rfl (subR rfl)), by omega, by rw [hkf]; exact o0, hS.keep⟩
  obtain rfl : i = l.length := by omega
  rw [List.take_length] at o0
  refine wc_exit (zQ (zR (zM rfl (zA rfl (zE (zV (z1 rfl ?_)))))))
  exact ⟨H0, o0, hS⟩
theorem r8len_c (opn : List Upd) (so : Value) (ho : Rd M encU so opn) (hol : opn.length ≤ 1000) {xs : List RV} {rs : List Rnd} (s : Value) {Hx : Chunk} (hxl : rs.length ≤ 10000) (hul : ∀ r ∈ rs, r.ups.length ≤ 1000) (hx : Own 48 encRV s xs Hx) (hr : Rvs M xs rs) (hS : St M w (Hx :: Ls)) :
    CallsR Tryz.prog 106 [so, s].toArray w fun v w' => ∃ M', Mle M M' ∧ v = .int .i64 (state rs opn).length ∧ St M' w' (Hx :: Ls) := by
  obtain ⟨oa, oc, rfl⟩ := (ho.holds hS).slice
  obtain ⟨sa, sc, rfl⟩ := hx.slice
  have hfl := flat_len hul
  have hst : (state rs opn).length = (keysF (rs.flatMap (·.ups) ++ opn) (rs.flatMap (·.ups) ++ opn)).length := by unfold state; rw [keys_len]
  rw [hst]
  refine zC 10 Tryz.func106 rfl (zQ (zR (zA rfl (zE (zQ (zR (zM rfl (zM rfl (wl_call (.cons rfl (.cons rfl .nil)) (r8flat_c opn _ ho hol _ (by omega) hul hx hr (hS.pull Hx)) rfl ?_)))))))))
  rintro v w ⟨H1, o1, hS⟩
  obtain ⟨M1, hM1, hF, hS⟩ := hS.freeze
  have r1 := o1.rd hF
  obtain ⟨fa, fc, rfl⟩ := o1.slice
  refine wl_call (.cons rfl .nil) (r5keys_c _ _ r1 (by rw [List.length_append]; omega) hS) rfl ?_
  rintro v w ⟨H2, o2, hS⟩
  obtain ⟨ga, gc, rfl⟩ := o2.slice
  refine wl (y_len_sl Tryz.underlying83 rfl) rfl (zA rfl (zE (zV (z1 rfl ?_))))
  exact ⟨M1, hM1, rfl, hS.keep⟩
end
end Go.Proofs.YtndahppmjdbifaaGreatDoor.Ref
set_option linter.unusedVariables false
set_option linter.unusedSimpArgs false
namespace Go.Proofs.YtndahppmjdbifaaGreatDoor.Nod
open Go Go.Proofs Eng Pre Pak Val Rou Fra Go.Proofs.YtndahppmjdbifaaGreatDoor.Snd Go.Proofs.YtndahppmjdbifaaGreatDoor.Lnk Jnl Go.Proofs.YtndahppmjdbifaaGreatDoor.Cli Sto
structure Nod.more (t : Nat) (m : Nod) : Prop where
  jl : m.j.l.length ≤ m.j.last
  ku : ∀ r ∈ m.own.known, r.ups.length ≤ 8
  pu : ∀ r ∈ m.own.pending, r.ups.length ≤ 8
  so : m.k.s.all.length = m.offered
  sl : m.offered ≤ m.j.l.length
  ra : m.k.r.all.length ≤ t
theorem Nod.more.mono {t t' : Nat} {m : Nod} (h : m.more t) (ht : t ≤ t') : m.more t' := ⟨h.jl, h.ku, h.pu, h.so, h.sl, Nat.le_trans h.ra ht⟩
theorem Nod.new_more (c : Cfg) (o : Int) : (Nod.new c o).more 0 := by
  refine ⟨?_, ?_, ?_, ?_, ?_, ?_⟩
  · unfold Nod.new Jnl.new; simp
  · unfold Nod.new Cli.new; simp
  · unfold Nod.new Cli.new Jnl.new behind; simp
  · unfold Nod.new Lnk.new Snd.new; simp
  · unfold Nod.new; simp
  unfold Nod.new Lnk.new Rcv.new; simp
theorem take_ups {m : Cli} {r : Rnd} (hr : r.ups.length ≤ 8) (hk : ∀ r ∈ m.known, r.ups.length ≤ 8) (hp : ∀ r ∈ m.pending, r.ups.length ≤ 8) : (∀ x ∈ (m.take r).known, x.ups.length ≤ 8) ∧ ∀ x ∈ (m.take r).pending, x.ups.length ≤ 8 := by
  by_cases he : m.takE r = 0
  · have hq : m.take r = { m with known := m.known ++ [r], pending := if r.o = m.origin then m.pending.tail else m.pending } := by unfold Cli.take; rw [if_pos he]
    rw [hq]
    refine ⟨fun x hx => ?_, fun x hx => ?_⟩
    · simp only [List.mem_append, List.mem_singleton] at hx
      rcases hx with hx | rfl
      · exact hk x hx
      exact hr
    simp only at hx
    split at hx
    · exact hp x (List.mem_of_mem_tail hx)
    exact hp x hx
  have hq : m.take r = m := by unfold Cli.take; rw [if_neg he]
  rw [hq]; exact ⟨hk, hp⟩
theorem takeL_ups : ∀ (l : List ByteArray) (m : Cli), (∀ d ∈ l, d.size ≤ 1400) → (∀ r ∈ m.known, r.ups.length ≤ 8) → (∀ r ∈ m.pending, r.ups.length ≤ 8) → (∀ r ∈ (m.takeL l).known, r.ups.length ≤ 8) ∧ ∀ r ∈ (m.takeL l).pending, r.ups.length ≤ 8
  | [], m, _, hk, hp => ⟨hk, hp⟩
  | d :: l, m, hl, hk, hp => by
    have hd := hl d List.mem_cons_self
    have hu := grr_ups d (by omega)
    have h1 : (∀ r ∈ (m.take1 d).known, r.ups.length ≤ 8) ∧ ∀ r ∈ (m.take1 d).pending, r.ups.length ≤ 8 := by
      by_cases he : gre d = 0
      · have hq : m.take1 d = m.take (grr d) := by unfold Cli.take1; rw [if_pos he]
        rw [hq]; exact take_ups (r := grr d) hu hk hp
      have hq : m.take1 d = m := by unfold Cli.take1; rw [if_neg he]
      rw [hq]; exact ⟨hk, hp⟩
    exact takeL_ups l (m.take1 d) (fun x hx => hl x (List.mem_cons_of_mem _ hx)) h1.1 h1.2
theorem offl_count (l : List Rnd) (k : Lnk) (n : Nat) : ∃ j, j ≤ l.length ∧ (offl l k n).2 = n + j ∧ (offl l k n).1.s.all.length = k.s.all.length + j := by
  induction l generalizing k n with
  | nil => exact ⟨0, Nat.le_refl _, rfl, rfl⟩
  | cons r l ih =>
    simp only [offl]
    split
    · rename_i he
      obtain ⟨j, h1, h2, h3⟩ := ih (k.offer (putB r)) (n + 1)
      refine ⟨j + 1, by rw [List.length_cons]; omega, by rw [h2]; omega, ?_⟩
      have : (k.offer (putB r)).s.all.length = k.s.all.length + 1 := by
        unfold Lnk.offer Snd.offer; rw [if_pos he]; simp
      rw [h3, this]; omega
    exact ⟨0, Nat.zero_le _, rfl, rfl⟩
theorem Lnk.hear_rlen (k : Lnk) (f : Frm) : (k.hear f).r.all.length ≤ k.r.all.length + 1 := by
  have h2 : ∀ k : Lnk, (k.hear2 f).r.all.length ≤ k.r.all.length + 1 := by
    intro k
    unfold Lnk.hear2; simp only
    split
    · omega
    unfold Rcv.hear; split <;> simp
  unfold Lnk.hear
  split; · omega
  split
  · split
    · have := h2 (k.fresh f.ep); have h3 : (k.fresh f.ep).r.all.length = 0 := rfl; omega
    omega
  exact h2 k
theorem Lnk.hear_slen {k : Lnk} {f : Frm} (hp : k.pas = false) : (k.hear f).s.all = k.s.all := by
  unfold Lnk.hear
  split; · rfl
  split
  · rw [hp] <;> rfl
  unfold Lnk.hear2; exact Snd.ack_all _ _
theorem Nod.act_more {t u : Nat} {m : Nod} (hi : m.inv u) (hf : m.fit) (hw : m.wide) (h : m.more t) (a : Act) : (m.act a).more (t + 1) := by
  unfold Nod.act
  split
  · unfold Nod.upd Cli.upd
    split
    · exact ⟨h.jl, h.ku, h.pu, h.so, h.sl, Nat.le_trans h.ra (by omega)⟩
    exact h.mono (by omega)
  split
  · unfold Nod.push Cli.pushC Cli.pushJ
    split
    · rename_i he
      have hl := h.jl
      have hadd : m.j.addE m.own.opn = 0 := by
        unfold Cli.pushE at he
        split at he; · cases he
        split at he; · cases he
        exact he
      have hadd' := hadd
      unfold Jnl.addE at hadd
      split at hadd; · cases hadd
      rename_i hne
      have hm := mayR_ok hadd
      have hj : m.j.add m.own.opn = ⟨m.j.origin, m.j.last, m.j.l ++ [m.j.next m.own.opn]⟩ := by unfold Jnl.add; rw [if_pos hadd']
      rw [hj]
      refine ⟨?_, h.ku, ?_, h.so, ?_, Nat.le_trans h.ra (by omega)⟩
      · simp only [List.length_append, List.length_singleton]; omega
      · intro r hr
        simp only [List.mem_append, List.mem_singleton] at hr
        rcases hr with hr | rfl
        · exact h.pu r hr
        exact hm.2.2.2.2.2.1
      simp only [List.length_append, List.length_singleton]; have := h.sl; omega
    exact h.mono (by omega)
  split
  · obtain ⟨k1, k2⟩ := takeL_ups m.k.r.came m.own (fun d hd => hi.rd d (List.mem_of_mem_drop hd)) h.ku h.pu
    exact ⟨h.jl, k1, k2, h.so, h.sl, Nat.le_trans h.ra (by omega)⟩
  split
  · unfold Nod.reset
    split
    · refine ⟨h.jl, ?_, ?_, rfl, Nat.zero_le _, Nat.zero_le _⟩
      · unfold Cli.resume; simp
      intro r hr
      have hr' : r ∈ m.j.l := (List.mem_filter.1 hr).1
      exact (mayR_ok (hf.jr r hr').1).2.2.2.2.2.1
    exact h.mono (by omega)
  split
  · unfold Nod.hear
    split
    · have h1 := Lnk.hear_rlen m.k (fget a.bytes)
      have h2 := Lnk.hear_slen (f := fget a.bytes) hw.pas
      refine ⟨h.jl, h.ku, h.pu, ?_, h.sl, ?_⟩
      · simp only [h2]; exact h.so
      have := h.ra; simp only; omega
    exact h.mono (by omega)
  split
  · obtain ⟨j, h1, h2, h3⟩ := offl_count (m.j.l.drop m.offered) m.k m.offered
    have hr : m.tick.k.r = m.k.r := (offl_r _ _ _).1
    have hs := h.so
    have hl := h.sl
    rw [List.length_drop] at h1
    refine ⟨h.jl, h.ku, h.pu, ?_, ?_, ?_⟩
    · show (offl _ _ _).1.s.all.length = (offl _ _ _).2
      omega
    · show (offl _ _ _).2 ≤ _
      have : m.tick.j = m.j := rfl
      rw [this]; omega
    rw [hr]; have := h.ra; omega
  exact h.mono (by omega)
theorem Nod.rok_of {t u : Nat} {m : Nod} (hi : m.inv u) (hu : u ≤ 1000) (hf : m.fit) (h : m.more t) (ht : t ≤ 100000) : m.rok := by
  have hsm := hi.small hu
  obtain ⟨s1, s2, s3, s4⟩ := hsm
  refine ⟨hi.k, hi.small hu, h.jl, fun r hr => (hf.jr r hr).1, ?_, ?_, ?_, hi.rd, hi.sd⟩
  · exact behind_all fun i r hr => (hf.jn i r hr).1
  · have := h.so; have := h.sl; omega
  have := h.ra; omega
end Go.Proofs.YtndahppmjdbifaaGreatDoor.Nod
set_option linter.unusedVariables false
set_option linter.unusedSimpArgs false
namespace Go.Proofs.YtndahppmjdbifaaGreatDoor.Ref
open Go Go.Proofs Eng Snd Lnk Fra Val Rou Jnl Cli Nod Pre Pak Crc Sto
section
variable {M : Mem} {w : World} {Ls : List Chunk}
theorem r17read_c (k : ByteArray) {p jp : Nat} {m : Cli} {H : Chunk} (hl : m.known.length + m.pending.length ≤ 10000) (hol : m.opn.length ≤ 1000) (hku : ∀ r ∈ m.known ++ m.pending, r.ups.length ≤ 1000) (hb : IsRC M p jp m H) (hS : St M w (H :: Ls)) :
    CallsR Tryz.prog 40 [.pointer (some ⟨p, 0, none⟩), .string k].toArray w fun v w' => ∃ M', Mle M M' ∧ v = vv (m.read k) ∧ St M' w' (H :: Ls) := by
  have hb0 := hb
  obtain ⟨xs, sk, ys, sp, so, h1, h2, h3, h4, h5, rfl⟩ := hb
  obtain ⟨h5, oa, oc, rfl, _⟩ := h5
  have e2 := h2.len
  have e4 := h4.len
  refine zC 13 Tryz.func40 rfl (zQ (zR (a_alloc z_65 hS rfl fun b4 w hS => zE (zQ (zW hS (fun w => w.cell? ⟨p, 6, none⟩ = some (.slice oa m.opn.length oc)) [7, 8] wide_ rfl fun w hS => zPm 0 1 rfl (zPm 1 3 rfl (zPn 2 7 rfl (zPf 3 15 fl_85_6 rfl (zPm 5 47 rfl (zD 4 63 rfl (hS.cell rfl) (fun w hS => y_load pl_46 rfl hS) (zU 6 127 rfl (wl_call (.cons rfl .nil) (r17seen_c (by omega) hb0 (hS.pull _)) rfl ?_))))))))))))
  rintro v w ⟨zs, Hz, ho, hr, hS⟩
  obtain ⟨za, zc, rfl⟩ := ho.slice
  refine zE ⟨fun _ _ => hS.c, zU 7 255 rfl (wl_call (.cons rfl (.cons rfl (.cons rfl .nil))) (r8read_c k m.opn _ h5 hol _ (by rw [List.length_append]; omega) hku ho hr (hS.pull Hz)) rfl ?_)⟩
  rintro _ w ⟨M1, hM1, rfl, hS⟩
  refine zE ⟨fun h => absurd (by decide) h, zU 8 511 rfl (zG (vs := [_, _, _]) sz_65 rfl hS fun w hS => zE ⟨fun h => absurd (by decide) h, zH (zV (wret (vs := [_]) (.cell rfl (loadVar_struct st_65 sz_65 (vs := [_, _, _]) rfl (hS.cells rfl)) .nil) ?_))⟩)⟩
  exact ⟨M1, hM1, rfl, hS.keep⟩
theorem r17len_c {p jp : Nat} {m : Cli} {H : Chunk} (hl : m.known.length + m.pending.length ≤ 10000) (hol : m.opn.length ≤ 1000) (hku : ∀ r ∈ m.known ++ m.pending, r.ups.length ≤ 1000) (hb : IsRC M p jp m H) (hS : St M w (H :: Ls)) :
    CallsR Tryz.prog 42 [.pointer (some ⟨p, 0, none⟩)].toArray w fun v w' => ∃ M', Mle M M' ∧ v = .int .i64 m.len ∧ St M' w' (H :: Ls) := by
  have hb0 := hb
  obtain ⟨xs, sk, ys, sp, so, h1, h2, h3, h4, h5, rfl⟩ := hb
  obtain ⟨h5, oa, oc, rfl, _⟩ := h5
  have e2 := h2.len
  have e4 := h4.len
  refine zC 10 Tryz.func42 rfl (zQ (zR (zA rfl (zE (zQ (zW hS (fun w => w.cell? ⟨p, 6, none⟩ = some (.slice oa m.opn.length oc)) [6] wide_ rfl fun w hS => zPm 0 1 rfl (zPn 1 3 rfl (zPf 2 7 fl_85_6 rfl (zPm 4 23 rfl (zD 3 31 rfl (hS.cell rfl) (fun w hS => y_load pl_46 rfl hS) (zU 5 63 rfl (wl_call (.cons rfl .nil) (r17seen_c (by omega) hb0 (hS.pull _)) rfl ?_))))))))))))
  rintro v w ⟨zs, Hz, ho, hr, hS⟩
  obtain ⟨za, zc, rfl⟩ := ho.slice
  refine zE ⟨fun _ _ => hS.c, zU 6 127 rfl (wl_call (.cons rfl (.cons rfl .nil)) (r8len_c m.opn _ h5 hol _ (by rw [List.length_append]; omega) hku ho hr (hS.pull Hz)) rfl ?_)⟩
  rintro _ w ⟨M1, hM1, rfl, hS⟩
  refine zE ⟨fun h => absurd (by decide) h, zPa 7 255 rfl (zH (zV (z1 rfl ?_)))⟩
  exact ⟨M1, hM1, rfl, hS.keep⟩
theorem rsameall_r {xs ys : List RV} {rs qs : List Rnd} {s t : Value} {H1 : Chunk} (hl : rs.length ≤ 137438953472) (hx : Own 48 encRV s xs H1) (hr : Rvs M xs rs) (hy : Rd M encRV t ys) (hq : Rvs M ys qs) (hS : St M w (H1 :: Ls)) :
    CallsR Tryz.prog 16 [s, t].toArray w fun v w' => v = .bool (decide (rs = qs)) ∧ St M w' (H1 :: Ls) := by
  obtain ⟨sa, sc, rfl⟩ := hx.slice
  obtain ⟨ta, tc, rfl⟩ := (hy.holds hS).slice
  have e1 := hr.len
  have e2 := hq.len
  refine zC 27 Tryz.func16 rfl (zQ (zR (zA rfl (zE (zQ (zQ (zR (zM rfl (wl (y_len_sl Tryz.underlying32 rfl) rfl (zM rfl (wl (y_len_sl Tryz.underlying32 rfl) rfl (wl (y_neq rfl rfl) rfl (zE (zIf rfl (fun hc10 => ?_) fun hc10 => ?_))))))))))))))
  · have hne : rs ≠ qs := fun e => by subst e; omega
    rw [decide_eq_false hne]
    refine zQ (zR (zA rfl (zE (zV (z1 rfl ?_)))))
    exact ⟨rfl, hS⟩
  have hlen : xs.length = ys.length := by omega
  refine zK (zQ (zQ (zR (zA rfl (zE (zB (wc_loop (α := Nat) (fun i => [(0, .slice sa xs.length sc), (1, .slice ta ys.length tc), (5, .int .i64 i)]) (fun i w => i ≤ xs.length ∧ rs.take i = qs.take i ∧ St M w (H1 :: Ls)) (fun i => xs.length - i) 0 (sub_cons rfl (sub_cons rfl (subR rfl))) ⟨by omega, rfl, hS⟩ ?_)))))))
  clear hS
  rintro i w ⟨hi, hk, hS⟩
  refine zQ (zQ (zR (zM rfl (zM rfl (wl (y_len_sl Tryz.underlying32 rfl) rfl (wl (y_lss rfl rfl) rfl (zE (zIf rfl (fun hc14 => ?_) fun hc14 => ?_))))))))
  · refine zK ?_
    refine zQ (zB (zQ ?_))
    have hi' : i < xs.length := by omega
    obtain ⟨r, hri⟩ : ∃ r, rs[i]? = some r := ⟨_, List.getElem?_eq_getElem (by omega)⟩
    obtain ⟨q, hqi⟩ : ∃ q, qs[i]? = some q := ⟨_, List.getElem?_eq_getElem (by omega)⟩
    obtain ⟨x, hxi, hxr⟩ := hr.at hri
    obtain ⟨y, hyi, hyq⟩ := hq.at hqi
    obtain ⟨bb, off, c', hse, _⟩ := (hx.holds (hS.pull H1)).at hxi
    obtain ⟨bc, og, c2, hsf, _⟩ := (hy.holds hS).at hyi
    simp only [Value.slice.injEq] at hse hsf
    have hSk := hS
    obtain ⟨rfl, _, rfl⟩ := hse
    obtain ⟨rfl, _, rfl⟩ := hsf
    replace hS := hSk
    refine zW hS (fun w => CellsAt w bb (off + i * encRV.k) (encRV.f x) ∧ CellsAt w bc (og + i * encRV.k) (encRV.f y)) [8] wide_ rfl fun w hS => zPm 0 1 rfl (zPm 1 3 rfl (zP 2 7 rfl (fun w => y_ixa_sl Tryz.underlying32 sz_48 rfl rfl (by omega) (by omega)) (zPm 4 23 rfl (zPm 5 55 rfl (zP 6 119 rfl (fun w => y_ixa_sl Tryz.underlying32 sz_48 rfl rfl (by omega) (by omega)) (zD 3 127 rfl ⟨(hx.holds (hS.pull H1)).atV hxi, (hy.holds hS).atV hyi⟩ (fun w hS => (y_loadS st_48 sz_48 rfl hS.1 rfl).val hxr.val) (zD 7 255 rfl ⟨(hx.holds (hS.pull H1)).atV hxi, (hy.holds hS).atV hyi⟩ (fun w hS => (y_loadS st_48 sz_48 rfl hS.2 rfl).val hyq.val) (zU 8 511 rfl (wl_call (.cons rfl (.cons rfl .nil)) (rsame_c r q x.s y.s hxr.2.2.1 hyq.2.2.1 hxr.2.2.2 hS) rfl ?_)))))))))
    rintro _ w ⟨rfl, hS⟩
    refine zE ⟨fun h => absurd (by decide) h, zP 9 1023 rfl (fun w => y_not rfl) (zH (zIf rfl (fun hc26 => ?_) fun hc26 => ?_))⟩
    · have hne : rs ≠ qs := fun e => by subst e; rw [hri] at hqi; exact hc26 (Option.some.inj hqi)
      rw [decide_eq_false hne]
      refine zQ (zR (zA rfl (zE (zV (z1 rfl ?_)))))
      exact ⟨rfl, hS⟩
    refine zK ?_
    refine zR (zM rfl (wl (y_add rfl rfl (w64 (by omega) (by omega))) rfl (zA rfl (zE ?_))))
    exact ⟨i + 1, by omega, sub_cons rfl (sub_cons rfl (subR rfl)), by omega, take_eq_step hri hqi hk hc26, hS⟩
  obtain rfl : i = xs.length := by omega
  rw [e1, List.take_length, ← e1, hlen, e2, List.take_length] at hk
  rw [decide_eq_true hk]
  refine wc_exit (zQ (zR (zA rfl (zE (zV (z1 rfl ?_))))))
  exact ⟨rfl, hS⟩
end
end Go.Proofs.YtndahppmjdbifaaGreatDoor.Ref
set_option linter.unusedVariables false
set_option linter.unusedSimpArgs false
namespace Go.Proofs.YtndahppmjdbifaaGreatDoor.Ref
open Go Go.Proofs Eng Snd Lnk Fra Val Rou Jnl Cli Nod Pre Pak Crc Sto
theorem conf_eq {ps : List Rnd} {os : List Upd} {a b : Nat} (ha : a = ps.length) (h : (a : Int) = 0) (hb : b = os.length) : decide (decide (ps = [] ∧ os = []) = decide ((b : Int) = 0)) = true := by
  have hp : ps = [] := List.length_eq_zero_iff.1 (by omega)
  subst hp hb
  refine decide_eq_true (decide_eq_decide.2 ?_)
  rw [← List.length_eq_zero_iff (l := os)]
  simp
theorem conf_ne {ps : List Rnd} {os : List Upd} {a : Nat} (ha : a = ps.length) (h : ¬ (a : Int) = 0) : decide (decide (ps = [] ∧ os = []) = false) = true := by
  refine decide_eq_true (decide_eq_false fun e => ?_)
  rw [e.1] at ha; simp at ha; omega
theorem mayC_01 (c : Cfg) : mayC c = 0 ∨ mayC c = 1 := by unfold mayC; split <;> simp
section
variable {M : Mem} {w : World} {Ls : List Chunk}
set_option maxHeartbeats 4000000 in
theorem NodePlays_c (hG : Bits M) (c : Cfg) (origin : Int) (l : List Nod.Act) (s : Value) (hl : Rd M encA s l) (hS : St M w Ls) :
    CallsR Tryz.prog 8 [cfgV c, .int .i64 origin, s].toArray w fun v w' => ∃ M', Mle M M' ∧ v = .bool true ∧ St M' w' Ls := by
  obtain ⟨sa, sc, rfl⟩ := (hl.holds hS).slice
  refine zC 223 Tryz.func8 rfl (zQ (zR (a_box rfl hS rfl fun b3 w hS => zA rfl (zE (zQ (zQ (zR (wl_call .nil (awake_c hG hS) rfl ?_))))))))
  rintro _ w ⟨M1, hM1, rfl, hS⟩
  refine wl (y_not rfl) rfl (zM rfl (zI rfl (wl ((y_loadS st_23 sz_23 rfl (vs := cfgL c) (hS.cells rfl) rfl).val (show _ = cfgV c from rfl)) rfl (zI rfl (zM rfl (zI rfl (wl_call (.cons rfl (.cons rfl .nil)) (great_c c l _ (hl.mono hM1) hS) rfl ?_)))))))
  rintro _ w ⟨rfl, hS⟩
  refine wl (y_pickF rfl rfl) rfl (zE (zIf rfl (fun hc25 => ?_) fun hc25 => ?_))
  · refine zQ ?_
    refine zR (wl_call .nil (awake_c (hG.mono hM1) hS) rfl ?_)
    rintro _ w ⟨M2, hM2, rfl, hS⟩
    refine zA rfl (zE (zV (z1 rfl ?_)))
    first
    | exact ⟨_, hMc, rfl, hS.keep⟩
    | exact ⟨M2, hM1.trans hM2, rfl, hS.keep⟩
    | exact ⟨_, hMc, congrArg Value.bool (by first | exact conf_eq f4l (by assumption) rfl | exact conf_ne f4l (by assumption)), hS.keep⟩
  obtain ⟨g1, g7, g2⟩ := greatB_ok (by assumption)
  have hab : ∀ a ∈ l, a.bytes.size ≤ 140737488351232 := fun a ha => by have := (greatA_ok (g2 a ha)).1; omega
  refine zK (zQ (zR (wl ((y_loadS st_23 sz_23 rfl (vs := cfgL c) (hS.cells rfl) rfl).val (show _ = cfgV c from rfl)) rfl (zM rfl (wl_call (.cons rfl (.cons rfl .nil)) (nnew_c c origin hS) rfl ?_)))))
  rintro v w ⟨M2, hM2, hor⟩
  have hnE : newE c origin = if mayC c ≠ 0 then mayC c else if origin < 1 ∨ origin > c.clients then 11 else 0 := by unfold newE; rfl
  have hor2 : ∃ pv H, v = .tuple [pv, .int .i64 (newE c origin)].toArray ∧ ((newE c origin ≠ 0 ∧ pv = .pointer none ∧ H = []) ∨ (newE c origin = 0 ∧ ∃ p, pv = .pointer (some ⟨p, 0, none⟩) ∧ IsN M2 p (Nod.new c origin) H)) ∧ St M2 w (H :: [(b3, .cells (cfgV c).cells 23)] :: Ls) := by
    rcases hor with ⟨h0, h1, h2⟩ | ⟨h0, p, H, h1, h2, h3⟩
    · exact ⟨_, [], h1, .inl ⟨h0, rfl, rfl⟩, St.nil h2⟩
    exact ⟨_, H, by rw [h1, h0] <;> rfl, .inr ⟨h0, p, rfl, h2⟩, h3⟩
  clear hor
  obtain ⟨pv, H, rfl, hor, hS⟩ := hor2
  have hMc := hM1.trans hM2
  refine zM rfl (zX rfl (zX rfl (zA rfl (zA rfl (zE (zQ (zQ (zR (wl ((y_loadS st_23 sz_23 rfl (vs := cfgL c) (hS.cells rfl) rfl).val (show _ = cfgV c from rfl)) rfl (wl_call (.cons rfl .nil) (rmayc_c c hS) rfl ?_))))))))))
  rintro _ w ⟨rfl, hS⟩
  refine wl (y_not rfl) rfl (zE (zIf rfl (fun hc35 => ?_) fun hc35 => ?_))
  · have hm1 : mayC c ≠ 0 := by simpa using hc35
    have hm1' : mayC c = 1 := (mayC_01 c).resolve_left hm1
    have hE : newE c origin = 1 := by rw [hnE, if_pos hm1, hm1']
    rcases hor with ⟨_, rfl, rfl⟩ | ⟨h0, _⟩
    rotate_left
    · omega
    refine zQ (zR (zM rfl (wl ((y_pnil Tryz.underlying27 rfl rfl).val (u := .bool true) rfl) rfl (zM rfl (zI rfl (zM rfl (zI rfl (wl ((y_eql rfl rfl).val (u := .bool true) (congrArg Value.bool (decide_eq_true (by rw [hE] <;> rfl)))) rfl (wl (y_pickT rfl rfl) rfl (zA rfl (zE (zV (z1 rfl ?_)))))))))))))
    first
    | exact ⟨_, hMc, rfl, hS.keep⟩
    | exact ⟨M2, hM1.trans hM2, rfl, hS.keep⟩
    | exact ⟨_, hMc, congrArg Value.bool (by first | exact conf_eq f4l (by assumption) rfl | exact conf_ne f4l (by assumption)), hS.keep⟩
  have hm0 : mayC c = 0 := by simpa using hc35
  have hcm := mayC_ok hm0
  rw [if_neg (by omega)] at hnE
  refine zK (zQ (zQ (zR (zM rfl (wl (y_lss rfl rfl) rfl (zM rfl (zWc (s := 44) rfl (fun hg44 => ?_) fun hg44 => ?_)))))))
  · have hE : newE c origin = 11 := by rw [hnE, if_pos (by omega)]
    rcases hor with ⟨_, rfl, rfl⟩ | ⟨h0, _⟩
    rotate_left
    · omega
    refine zO rfl (zO rfl (zO rfl (zO rfl (wl (y_pickT rfl rfl) rfl (zE (wc_ifT rfl rfl (zQ (zR (zM rfl (wl ((y_pnil Tryz.underlying27 rfl rfl).val (u := .bool true) rfl) rfl (zM rfl (zI rfl (zM rfl (zI rfl (wl ((y_eql rfl rfl).val (u := .bool true) (congrArg Value.bool (decide_eq_true (by rw [hE] <;> rfl)))) rfl (wl (y_pickT rfl rfl) rfl (zA rfl (zE (zV (z1 rfl ?_))))))))))))))))))))
    first
    | exact ⟨_, hMc, rfl, hS.keep⟩
    | exact ⟨M2, hM1.trans hM2, rfl, hS.keep⟩
    | exact ⟨_, hMc, congrArg Value.bool (by first | exact conf_eq f4l (by assumption) rfl | exact conf_ne f4l (by assumption)), hS.keep⟩
  refine zI rfl ?_
  refine zM rfl (zI rfl (zF fl_23_0 rfl (zI rfl (wl (y_load pl_3 rfl (hS.c (v := .int .i64 c.clients))) rfl (zI rfl (wl (y_gtr rfl rfl) rfl (wl (y_pickF rfl rfl) rfl (zE (zIf rfl (fun hc49 => ?_) fun hc49 => ?_)))))))))
  · have hE : newE c origin = 11 := by rw [hnE, if_pos (by omega)]
    rcases hor with ⟨_, rfl, rfl⟩ | ⟨h0, _⟩
    rotate_left
    · omega
    refine zQ (zR (zM rfl (wl ((y_pnil Tryz.underlying27 rfl rfl).val (u := .bool true) rfl) rfl (zM rfl (zI rfl (zM rfl (zI rfl (wl ((y_eql rfl rfl).val (u := .bool true) (congrArg Value.bool (decide_eq_true (by rw [hE] <;> rfl)))) rfl (wl (y_pickT rfl rfl) rfl (zA rfl (zE (zV (z1 rfl ?_)))))))))))))
    first
    | exact ⟨_, hMc, rfl, hS.keep⟩
    | exact ⟨M2, hM1.trans hM2, rfl, hS.keep⟩
    | exact ⟨_, hMc, congrArg Value.bool (by first | exact conf_eq f4l (by assumption) rfl | exact conf_ne f4l (by assumption)), hS.keep⟩
  have hE : newE c origin = 0 := by rw [hnE, if_neg (by omega)]
  rcases hor with ⟨h0, _⟩ | ⟨_, p, rfl, hn⟩
  · omega
  refine zK (zQ (zR (wl ((y_loadS st_23 sz_23 rfl (vs := cfgL c) (hS.cells rfl) rfl).val (show _ = cfgV c from rfl)) rfl (zM rfl (wl_call (.cons rfl (.cons rfl .nil)) (r18new_c c origin hS) rfl ?_)))))
  rintro _ w ⟨M3, q, K, hM3, rfl, kn, hS⟩
  replace hn := hn.mono hM3
  replace hMc := hMc.trans hM3
  refine zA rfl (zE (zQ (zQ (zR (zM rfl (wl ((y_neq rfl rfl).val (u := .bool false) (congrArg Value.bool (by rw [hE] <;> rfl))) rfl (zM rfl (zI rfl (zM rfl (zI rfl (wl ((y_pnil Tryz.underlying27 rfl rfl).val (u := .bool false) rfl) rfl (wl (y_pickF rfl rfl) rfl (zE (wc_ifF rfl rfl (zK (zQ (zQ (zR (zM rfl (wl (y_len_sl Tryz.underlying24 rfl) rfl (zM rfl (zE (zB (wc_loop (α := Nat × Mem × Chunk × Chunk) (fun ⟨i, _, _, _⟩ => [(7, .pointer (some ⟨p, 0, none⟩)), (9, .pointer (some ⟨q, 0, none⟩)), (65, .slice sa l.length sc), (66, .int .i64 l.length), (67, .int .i64 i)]) (fun ⟨i, M3, H3, K3⟩ w => i ≤ l.length ∧ Mle M M3 ∧ IsN M3 p ((Nod.new c origin).acts (l.take i)) H3 ∧ IsRN M3 q ((Nod.new c origin).acts (l.take i)) K3 ∧ ((Nod.new c origin).acts (l.take i)).more i ∧ St M3 w (H3 :: K3 :: Ls)) (fun ⟨i, _, _, _⟩ => l.length - i) (0, M3, H, K) (sub_cons rfl (sub_cons rfl (sub_cons rfl (sub_cons rfl (subR rfl))))) ⟨by omega, hMc, hn, kn, Nod.new_more c origin, hS.keep⟩ ?_))))))))))))))))))))))))
  clear hS hn hMc kn
  rintro ⟨i, M3, H, K⟩ w ⟨hi, hMc, hn, kn, hmo, hS⟩
  refine zQ (zR (wl (y_lss rfl rfl) rfl (zE (zQ (zIf rfl (fun hc68 => ?_) fun hc68 => ?_)))))
  · refine zK ?_
    refine zQ (zB (zQ ?_))
    have hi' : i < l.length := by omega
    obtain ⟨a, hai⟩ : ∃ a, l[i]? = some a := ⟨_, List.getElem?_eq_getElem hi'⟩
    have hba := hab a (List.mem_of_getElem? hai)
    have hinv := Nod.acts_inv (Nod.new_inv hm0 origin) (l.take i) fun x hx => hab x (List.mem_of_mem_take hx)
    have hfit := Nod.acts_fit (Nod.new_inv hm0 origin) (Nod.new_fit c origin) (l.take i) fun x hx => hab x (List.mem_of_mem_take hx)
    obtain ⟨hwid, hcc, hoo⟩ := Nod.acts_wide (Nod.new_wide c origin) (l.take i)
    replace hcc : ((Nod.new c origin).acts (l.take i)).c = c := hcc
    rw [List.length_take] at hinv
    have htk : (Nod.new c origin).acts (l.take (i + 1)) = ((Nod.new c origin).acts (l.take i)).act a := by
      unfold Nod.acts
      rw [List.take_add_one, hai, List.foldl_append] <;> rfl
    generalize (Nod.new c origin).acts (l.take i) = m at hn kn hinv hfit hwid hmo hcc htk
    have hsm := hinv.small (by omega)
    have hsm' := hsm
    obtain ⟨s1, s2, s3, s4⟩ := hsm'
    have hmt : 0 ≤ m.own.mtu ∧ m.own.mtu ≤ 1400 := by rw [hinv.mtu, hcc]; omega
    have hrok := Nod.rok_of hinv (by omega) hfit hmo (by omega)
    have hinv2 := Nod.act_inv hinv a hba
    have hfit2 := Nod.act_fit hinv hfit a
    have hmo2 := Nod.act_more hinv hfit hwid hmo a
    have hsm2 := hinv2.small (by omega)
    have hrok2 := Nod.rok_of hinv2 (by omega) hfit2 hmo2 (by omega)
    obtain ⟨bb, off, c', hse, hce⟩ := ((hl.mono hMc).holds hS).at hai
    simp only [Value.slice.injEq] at hse
    have hSk := hS
    obtain ⟨rfl, _, rfl⟩ := hse
    replace hS := hSk
    refine zR (wl (y_ixa_sl Tryz.underlying24 sz_61 rfl rfl (by omega) (by omega)) rfl (wl ((y_loadS st_61 sz_61 rfl (vs := encA.f a) hce rfl).val (show _ = aV a from rfl)) rfl (a_alloc z_61 hS rfl fun b11 w hS => zG (vs := [_, _, _, _, _, _]) sz_61 rfl hS fun w hS => zE (zQ (zR (zA rfl (zE (wc_cut (α := Mem × Chunk × Chunk) (fun _ => [(7, .pointer (some ⟨p, 0, none⟩)), (9, .pointer (some ⟨q, 0, none⟩)), (12, .bool true), (65, .slice (some ⟨bb, off, none⟩) l.length sc), (66, .int .i64 l.length), (67, .int .i64 i)]) (fun ⟨M4, H4, K4⟩ w => Mle M M4 ∧ IsN M4 p (m.act a) H4 ∧ IsRN M4 q (m.act a) K4 ∧ St M4 w (H4 :: K4 :: Ls)) ?_ ?_))))))))
    · refine zQ ?_
      refine zR (zF fl_61_0 rfl (wl (y_load pl_3 rfl (hS.c (v := .int .i64 a.kind))) rfl (zE (zB (zQ (zR (wl (y_eql rfl rfl) rfl (zA rfl (zE (zIf rfl (fun hc73 => ?_) fun hc73 => ?_))))))))))
      · have hq : m.act a = m.upd a.u := by unfold Nod.act; rw [if_pos hc73]
        obtain ⟨jp, kp, cp, Kj, Kk, Kc, k1, k2, k3, rfl⟩ := kn
        replace hS := (hS.pull ((q, rnO jp kp cp m) :: (Kj ++ (Kk ++ Kc)))).un3
        refine zW hS (fun w => CellsAt w b11 1 (encU.f a.u) ∧ w.cell? ⟨q, 9, none⟩ = some (.pointer (some ⟨cp, 0, none⟩))) [] wide_ rfl fun w hS => zPm 0 1 rfl (zPf 1 3 fl_61_1 rfl (zPm 4 19 rfl (zPn 5 51 rfl (zPf 6 115 fl_76_4 rfl (zPf 8 371 fl_61_1 rfl (zD 2 375 rfl ⟨hS.cells rfl, hS.c⟩ (fun w hS => (y_loadS st_59 sz_59 rfl hS.1 rfl).val (show _ = uv a.u from rfl)) (zD 7 503 rfl ⟨hS.cells rfl, hS.c⟩ (fun w hS => y_load pl_74 rfl hS.2) (zD 9 1015 rfl ⟨hS.cells rfl, hS.c⟩ (fun w hS => (y_loadS st_59 sz_59 rfl hS.1 rfl).val (show _ = uv a.u from rfl)) (zU 3 1023 rfl (wl_call (.cons rfl (.cons rfl .nil)) (nupd_c (hG.mono hMc) a.u hmt (by omega) hn (hS.pull H)) rfl ?_))))))))))
        rintro _ w ⟨M4, H4, hM4, rfl, hn4, hS⟩
        refine zE ⟨fun _ _ => ⟨hS.cells rfl, hS.c⟩, zU 10 2047 rfl (wl_call (.cons rfl (.cons rfl .nil)) (r17upd_c a.u hmt (by omega) (k3.mono hM4) (hS.pull Kc)) rfl ?_)⟩
        rintro _ w ⟨M5, Kc5, hM5, rfl, k5, hS⟩
        refine zE ⟨fun _ _ => ⟨hS.cells rfl, hS.c⟩, zP 11 4095 rfl (fun w => (y_eql rfl rfl).val (u := .bool true) (congrArg Value.bool (decide_eq_true rfl))) (zPa 12 8191 rfl (zH ?_))⟩
        first
        | exact ⟨(M5, H4, K5), sub_cons rfl (sub_cons rfl (sub_cons rfl (sub_cons rfl (sub_cons rfl (subR rfl))))), hMc.trans (hM4.trans hM5), by rw [hq]; exact hn4.mono hM5, by rw [hq]; exact kn5, hS.keep⟩
        | exact ⟨(M5, H4, (q, rnO jp kp cp m) :: (Kj ++ (Kk ++ Kc5))), sub_cons rfl (sub_cons rfl (sub_cons rfl (sub_cons rfl (sub_cons rfl (subR rfl))))), hMc.trans (hM4.trans hM5), by rw [hq]; exact hn4.mono hM5, by rw [hq]; exact ⟨jp, kp, cp, Kj, Kk, Kc5, k1.mono (hM4.trans hM5), k2.mono (hM4.trans hM5), k5, rfl⟩, (by have h := hS.keep (T := H4 :: ((q, rnO jp kp cp m) :: (Kj ++ (Kk ++ Kc5))) :: Ls); exact h)⟩
        | exact ⟨(M3, H, K), sub_cons rfl (sub_cons rfl (sub_cons rfl (sub_cons rfl (sub_cons rfl (subR rfl))))), hMc, by rw [hq]; exact hn, by rw [hq]; exact kn, hS.keep⟩
      refine zQ ?_
      refine zR (wl (y_eql rfl rfl) rfl (zA rfl (zE (zIf rfl (fun hc87 => ?_) fun hc87 => ?_))))
      · have hq : m.act a = m.push := by unfold Nod.act; rw [if_neg hc73, if_pos hc87]
        refine zQ (zR (zM rfl (wl_call (.cons rfl .nil) (npush_c (by omega) (by omega) (by omega) hn (hS.pull H)) rfl ?_)))
        rintro _ w ⟨M4, H4, hM4, rfl, hn4, hS⟩
        refine zM rfl (zX rfl (zX rfl (zA rfl (zA rfl (zE (zQ (zR (zM rfl (wl_call (.cons rfl .nil) (r18push_c hrok (kn.mono hM4) (hS.pull K)) rfl ?_)))))))))
        rintro _ w ⟨M5, K5, hM5, rfl, kn5, hS⟩
        refine zM rfl (zX rfl (zX rfl (zA rfl (zA rfl (zE (zR (zM rfl (zM rfl (wl ((y_eql rfl rfl).val (u := .bool true) (congrArg Value.bool (decide_eq_true rfl))) rfl (zM rfl (zI rfl (zM rfl (zI rfl (zM rfl (zI rfl (wl ((y_eql rfl rfl).val (u := .bool true) (congrArg Value.bool (decide_eq_true rfl))) rfl (wl (y_pickT rfl rfl) rfl (zA rfl (zE ?_)))))))))))))))))))
        first
        | exact ⟨(M5, H4, K5), sub_cons rfl (sub_cons rfl (sub_cons rfl (sub_cons rfl (sub_cons rfl (subR rfl))))), hMc.trans (hM4.trans hM5), by rw [hq]; exact hn4.mono hM5, by rw [hq]; exact kn5, hS.keep⟩
        | exact ⟨(M5, H4, (q, rnO jp kp cp m) :: (Kj ++ (Kk ++ Kc5))), sub_cons rfl (sub_cons rfl (sub_cons rfl (sub_cons rfl (sub_cons rfl (subR rfl))))), hMc.trans (hM4.trans hM5), by rw [hq]; exact hn4.mono hM5, by rw [hq]; exact ⟨jp, kp, cp, Kj, Kk, Kc5, k1.mono (hM4.trans hM5), k2.mono (hM4.trans hM5), k5, rfl⟩, (by have h := hS.keep (T := H4 :: ((q, rnO jp kp cp m) :: (Kj ++ (Kk ++ Kc5))) :: Ls); exact h)⟩
        | exact ⟨(M3, H, K), sub_cons rfl (sub_cons rfl (sub_cons rfl (sub_cons rfl (sub_cons rfl (subR rfl))))), hMc, by rw [hq]; exact hn, by rw [hq]; exact kn, hS.keep⟩
      refine zQ ?_
      refine zR (wl (y_eql rfl rfl) rfl (zA rfl (zE (zIf rfl (fun hc107 => ?_) fun hc107 => ?_))))
      · have hq : m.act a = m.pull := by unfold Nod.act; rw [if_neg hc73, if_neg hc87, if_pos hc107]
        refine zR (zM rfl (wl_call (.cons rfl .nil) (npull_c (hG.mono hMc) hinv.k hsm hinv.rd hn (hS.pull H)) rfl ?_))
        rintro _ w ⟨M4, H4, hM4, rfl, hn4, hS⟩
        refine zM rfl (wl_call (.cons rfl .nil) (r18pull_c hrok (kn.mono hM4) (hS.pull K)) rfl ?_)
        rintro _ w ⟨M5, K5, hM5, rfl, kn5, hS⟩
        refine wl ((y_eql rfl rfl).val (u := .bool true) (congrArg Value.bool (decide_eq_true rfl))) rfl (zA rfl (zE ?_))
        first
        | exact ⟨(M5, H4, K5), sub_cons rfl (sub_cons rfl (sub_cons rfl (sub_cons rfl (sub_cons rfl (subR rfl))))), hMc.trans (hM4.trans hM5), by rw [hq]; exact hn4.mono hM5, by rw [hq]; exact kn5, hS.keep⟩
        | exact ⟨(M5, H4, (q, rnO jp kp cp m) :: (Kj ++ (Kk ++ Kc5))), sub_cons rfl (sub_cons rfl (sub_cons rfl (sub_cons rfl (sub_cons rfl (subR rfl))))), hMc.trans (hM4.trans hM5), by rw [hq]; exact hn4.mono hM5, by rw [hq]; exact ⟨jp, kp, cp, Kj, Kk, Kc5, k1.mono (hM4.trans hM5), k2.mono (hM4.trans hM5), k5, rfl⟩, (by have h := hS.keep (T := H4 :: ((q, rnO jp kp cp m) :: (Kj ++ (Kk ++ Kc5))) :: Ls); exact h)⟩
        | exact ⟨(M3, H, K), sub_cons rfl (sub_cons rfl (sub_cons rfl (sub_cons rfl (sub_cons rfl (subR rfl))))), hMc, by rw [hq]; exact hn, by rw [hq]; exact kn, hS.keep⟩
      refine zQ ?_
      refine zR (wl (y_eql rfl rfl) rfl (zA rfl (zE (zIf rfl (fun hc114 => ?_) fun hc114 => ?_))))
      · have hq : m.act a = m.reset := by unfold Nod.act; rw [if_neg hc73, if_neg hc87, if_neg hc107, if_pos hc114]
        refine zR (zM rfl (wl_call (.cons rfl .nil) (nreset_c (by rw [hcc]; omega) (by omega) hn (hS.pull H)) rfl ?_))
        rintro _ w ⟨M4, H4, hM4, rfl, hn4, hS⟩
        refine zM rfl (wl_call (.cons rfl .nil) (r18reset_c hrok (by rw [hcc]; omega) (kn.mono hM4) (hS.pull K)) rfl ?_)
        rintro _ w ⟨M5, K5, hM5, rfl, kn5, hS⟩
        refine wl ((y_eql rfl rfl).val (u := .bool true) (congrArg Value.bool (decide_eq_true rfl))) rfl (zA rfl (zE ?_))
        first
        | exact ⟨(M5, H4, K5), sub_cons rfl (sub_cons rfl (sub_cons rfl (sub_cons rfl (sub_cons rfl (subR rfl))))), hMc.trans (hM4.trans hM5), by rw [hq]; exact hn4.mono hM5, by rw [hq]; exact kn5, hS.keep⟩
        | exact ⟨(M5, H4, (q, rnO jp kp cp m) :: (Kj ++ (Kk ++ Kc5))), sub_cons rfl (sub_cons rfl (sub_cons rfl (sub_cons rfl (sub_cons rfl (subR rfl))))), hMc.trans (hM4.trans hM5), by rw [hq]; exact hn4.mono hM5, by rw [hq]; exact ⟨jp, kp, cp, Kj, Kk, Kc5, k1.mono (hM4.trans hM5), k2.mono (hM4.trans hM5), k5, rfl⟩, (by have h := hS.keep (T := H4 :: ((q, rnO jp kp cp m) :: (Kj ++ (Kk ++ Kc5))) :: Ls); exact h)⟩
        | exact ⟨(M3, H, K), sub_cons rfl (sub_cons rfl (sub_cons rfl (sub_cons rfl (sub_cons rfl (subR rfl))))), hMc, by rw [hq]; exact hn, by rw [hq]; exact kn, hS.keep⟩
      refine zQ ?_
      refine zR (wl (y_eql rfl rfl) rfl (zA rfl (zE (zIf rfl (fun hc121 => ?_) fun hc121 => ?_))))
      · have hq : m.act a = m.hear a.bytes := by unfold Nod.act; rw [if_neg hc73, if_neg hc87, if_neg hc107, if_neg hc114, if_pos hc121]
        refine zW hS (fun w => w.cell? ⟨b11, 5, none⟩ = some (.string a.bytes)) [] wide_ rfl fun w hS => zPm 0 1 rfl (zPf 1 3 fl_61_2 rfl (zPm 4 19 rfl (zPf 5 51 fl_61_2 rfl (zD 2 55 rfl (hS.cell rfl) (fun w hS => y_load pl_9 rfl hS) (zD 6 119 rfl (hS.cell rfl) (fun w hS => y_load pl_9 rfl hS) (zU 3 127 rfl (wl_call (.cons rfl (.cons rfl .nil)) (nhear_c (hG.mono hMc) a.bytes hba hinv.k hn (hS.pull H)) rfl ?_)))))))
        rintro _ w ⟨H4, rfl, hn4, hS⟩
        have hM4 := Mle.refl M3
        refine zE ⟨fun _ _ => hS.c, zU 7 255 rfl (wl_call (.cons rfl (.cons rfl .nil)) (r18hear_c a.bytes hba hrok kn (hS.pull K)) rfl ?_)⟩
        rintro _ w ⟨M5, K5, hM5, rfl, kn5, hS⟩
        refine zE ⟨fun _ _ => hS.c, zP 8 511 rfl (fun w => (y_eql rfl rfl).val (u := .bool true) (congrArg Value.bool (decide_eq_true rfl))) (zPa 9 1023 rfl (zH ?_))⟩
        first
        | exact ⟨(M5, H4, K5), sub_cons rfl (sub_cons rfl (sub_cons rfl (sub_cons rfl (sub_cons rfl (subR rfl))))), hMc.trans (hM4.trans hM5), by rw [hq]; exact hn4.mono hM5, by rw [hq]; exact kn5, hS.keep⟩
        | exact ⟨(M5, H4, (q, rnO jp kp cp m) :: (Kj ++ (Kk ++ Kc5))), sub_cons rfl (sub_cons rfl (sub_cons rfl (sub_cons rfl (sub_cons rfl (subR rfl))))), hMc.trans (hM4.trans hM5), by rw [hq]; exact hn4.mono hM5, by rw [hq]; exact ⟨jp, kp, cp, Kj, Kk, Kc5, k1.mono (hM4.trans hM5), k2.mono (hM4.trans hM5), k5, rfl⟩, (by have h := hS.keep (T := H4 :: ((q, rnO jp kp cp m) :: (Kj ++ (Kk ++ Kc5))) :: Ls); exact h)⟩
        | exact ⟨(M3, H, K), sub_cons rfl (sub_cons rfl (sub_cons rfl (sub_cons rfl (sub_cons rfl (subR rfl))))), hMc, by rw [hq]; exact hn, by rw [hq]; exact kn, hS.keep⟩
      refine zQ ?_
      refine zR (wl (y_eql rfl rfl) rfl (zA rfl (zE (zIf rfl (fun hc132 => ?_) fun hc132 => ?_))))
      · have hq : m.act a = m.tick := by unfold Nod.act; rw [if_neg hc73, if_neg hc87, if_neg hc107, if_neg hc114, if_neg hc121, if_pos hc132]
        refine zR (zM rfl (wl_call (.cons rfl .nil) (ntick_c (hG.mono hMc) hinv.k hsm hinv.frames hn (hS.pull H)) rfl ?_))
        rintro v w ⟨M4, H4, Hp4, hM4, hp4, hn4, hS⟩
        refine zM rfl (wl_call (.cons rfl .nil) (r18tick_c hrok (kn.mono hM4) (hS.pull K)) rfl ?_)
        rintro v w ⟨M5, K5, Kp5, hM5, kp5, kn5, hS⟩
        have htl := pkts_length (origin := m.origin) (to_ := 0) (mtu := m.c.mtu) (l := m.tick.k.frames)
        have hfl := frames_length m.tick.k (Nod.tick_inv hinv).k
        refine wl_call (.cons rfl (.cons rfl .nil)) (psame_c (by unfold Nod.tickP; omega) hp4 kp5 ((hS.pull Kp5).pull Hp4)) rfl ?_
        rintro _ w ⟨rfl, hS⟩
        rw [decide_eq_true rfl]
        refine zA rfl (zE ?_)
        first
        | exact ⟨(M5, H4, K5), sub_cons rfl (sub_cons rfl (sub_cons rfl (sub_cons rfl (sub_cons rfl (subR rfl))))), hMc.trans (hM4.trans hM5), by rw [hq]; exact hn4.mono hM5, by rw [hq]; exact kn5, hS.keep⟩
        | exact ⟨(M5, H4, (q, rnO jp kp cp m) :: (Kj ++ (Kk ++ Kc5))), sub_cons rfl (sub_cons rfl (sub_cons rfl (sub_cons rfl (sub_cons rfl (subR rfl))))), hMc.trans (hM4.trans hM5), by rw [hq]; exact hn4.mono hM5, by rw [hq]; exact ⟨jp, kp, cp, Kj, Kk, Kc5, k1.mono (hM4.trans hM5), k2.mono (hM4.trans hM5), k5, rfl⟩, (by have h := hS.keep (T := H4 :: ((q, rnO jp kp cp m) :: (Kj ++ (Kk ++ Kc5))) :: Ls); exact h)⟩
        | exact ⟨(M3, H, K), sub_cons rfl (sub_cons rfl (sub_cons rfl (sub_cons rfl (sub_cons rfl (subR rfl))))), hMc, by rw [hq]; exact hn, by rw [hq]; exact kn, hS.keep⟩
      have hq : m.act a = m := by unfold Nod.act; rw [if_neg hc73, if_neg hc87, if_neg hc107, if_neg hc114, if_neg hc121, if_neg hc132]
      refine zK ?_
      first
      | exact ⟨(M5, H4, K5), sub_cons rfl (sub_cons rfl (sub_cons rfl (sub_cons rfl (sub_cons rfl (subR rfl))))), hMc.trans (hM4.trans hM5), by rw [hq]; exact hn4.mono hM5, by rw [hq]; exact kn5, hS.keep⟩
      | exact ⟨(M5, H4, (q, rnO jp kp cp m) :: (Kj ++ (Kk ++ Kc5))), sub_cons rfl (sub_cons rfl (sub_cons rfl (sub_cons rfl (sub_cons rfl (subR rfl))))), hMc.trans (hM4.trans hM5), by rw [hq]; exact hn4.mono hM5, by rw [hq]; exact ⟨jp, kp, cp, Kj, Kk, Kc5, k1.mono (hM4.trans hM5), k2.mono (hM4.trans hM5), k5, rfl⟩, (by have h := hS.keep (T := H4 :: ((q, rnO jp kp cp m) :: (Kj ++ (Kk ++ Kc5))) :: Ls); exact h)⟩
      | exact ⟨(M3, H, K), sub_cons rfl (sub_cons rfl (sub_cons rfl (sub_cons rfl (sub_cons rfl (subR rfl))))), hMc, by rw [hq]; exact hn, by rw [hq]; exact kn, hS.keep⟩
    clear hS hn kn hMc
    rintro ⟨M4, H4, K4⟩ w ⟨hMc, hn, kn, hS⟩
    refine zQ (zR (zM rfl (wl ((y_not rfl).val (u := .bool false) rfl) rfl (zM rfl (zI rfl (zM rfl (zI rfl (wl_call (.cons rfl .nil) (nlook_c hsm2 hn (hS.pull H4)) rfl ?_))))))))
    rintro _ w ⟨M6, hM6, rfl, hn, hS⟩
    replace kn := kn.mono hM6
    replace hMc := hMc.trans hM6
    refine zI rfl (zM rfl (zI rfl (wl_call (.cons rfl .nil) (r18look_c hrok2 kn (hS.pull K4)) rfl ?_)))
    rintro _ w ⟨rfl, hS⟩
    refine zI rfl (wl ((y_neS Tryz.eqGuardType30 rfl rfl (eq_30 _ _ _ _ _ _ _ _ _ _ _ _)).val (u := .bool false) (congrArg (fun b => Value.bool (!b)) ((look_eq (m.act a).look (m.act a).look).trans (decide_eq_true rfl)))) rfl (wl (y_pickF rfl rfl) rfl (zE (wc_ifF rfl rfl (zK (zR (wl (y_add rfl rfl (w64 (by omega) (by omega))) rfl (zM rfl (zE ?_)))))))))
    exact ⟨(i + 1, M6, H4, K4), by simp only; omega, sub_cons rfl (sub_cons rfl (sub_cons rfl (sub_cons rfl (subR rfl)))), by omega, hMc, by rw [htk]; exact hn, by rw [htk]; exact kn, by rw [htk]; exact hmo2, hS.keep⟩
  obtain rfl : i = l.length := by omega
  rw [List.take_length] at hn kn hmo
  have hinv := Nod.acts_inv (Nod.new_inv hm0 origin) l hab
  have hfit := Nod.acts_fit (Nod.new_inv hm0 origin) (Nod.new_fit c origin) l hab
  generalize (Nod.new c origin).acts l = m at hn kn hinv hfit hmo
  have hsm := hinv.small (by omega)
  have hsm' := hsm
  obtain ⟨s1, s2, s3, s4⟩ := hsm'
  have hkn := hinv.known
  have hpe := hinv.pend
  have hop := hinv.opn
  have hku : ∀ r ∈ m.own.known ++ m.own.pending, r.ups.length ≤ 1000 := fun r hr => by
    rcases List.mem_append.1 hr with h | h
    · have := hmo.ku r h; omega
    have := hmo.pu r h; omega
  have hbJ : behind 0 m.j.l = m.j.l := behind_all fun i r hr => (hfit.jn i r hr).1
  obtain ⟨jp, kp, cp, Kj, Kk, Kc, k1, k2, k3, rfl⟩ := kn
  have k1' := k1
  have k3' := k3
  obtain ⟨xs, sk, ys, sp, so, f1, f2, f3, f4, f5, rfl⟩ := k3'
  obtain ⟨js, sj, fj, fr, rfl⟩ := k1'
  obtain ⟨f1, ka, kc, rfl, _⟩ := f1
  obtain ⟨f3, pa, pc, rfl, _⟩ := f3
  obtain ⟨f5, oa, oc, rfl, _⟩ := f5
  obtain ⟨fj, ja, jc, rfl, _⟩ := fj
  replace hS := (hS.pull ((q, rnO jp kp cp m) :: ([(jp, rjO m.j (.slice ja js.length jc))] ++ (Kk ++ [(cp, rcO jp m.own (.slice ka xs.length kc) (.slice pa ys.length pc) (.slice oa m.own.opn.length oc))])))).un3
  refine wc_exit (zQ (zQ (zR (a_bslice encS [⟨#[97]⟩, ⟨#[98]⟩, ⟨#[107, 101, 121]⟩, ⟨#[]⟩] Tryz.underlying83 sz_9 z_9 rfl (.cons rfl (.cons rfl (.cons rfl (.cons rfl .nil)))) rfl rfl rfl (by decide) hS rfl fun ka4 Hq w hqo hS => ?_))))
  generalize hks : ([⟨#[97]⟩, ⟨#[98]⟩, ⟨#[107, 101, 121]⟩, ⟨#[]⟩] : List ByteArray) = ks at hqo
  have hkl : ks.length = 4 := by rw [← hks] <;> rfl
  clear hks
  obtain ⟨qa, qc, rfl⟩ := hqo.slice
  have hM0 := hMc
  clear hMc
  refine wl (y_len_sl Tryz.underlying83 rfl) rfl (zM rfl (zE (zB (wc_loop (α := Nat × Mem) (fun ⟨i, _⟩ => [(7, .pointer (some ⟨p, 0, none⟩)), (9, .pointer (some ⟨q, 0, none⟩)), (149, .slice qa ks.length qc), (150, .int .i64 ks.length), (151, .int .i64 i)]) (fun ⟨i, M4⟩ w => i ≤ ks.length ∧ Mle M3 M4 ∧ St M4 w (Hq :: [(q, rnO jp kp cp m)] :: [(jp, rjO m.j (.slice ja js.length jc))] :: Kk :: [(cp, rcO jp m.own (.slice ka xs.length kc) (.slice pa ys.length pc) (.slice oa m.own.opn.length oc))] :: H :: Ls)) (fun ⟨i, _⟩ => ks.length - i) (0, M3) (sub_cons rfl (sub_cons rfl (sub_cons rfl (sub_cons rfl (subR rfl))))) ⟨by omega, Mle.refl _, hS.keep⟩ ?_))))
  clear hS
  rintro ⟨i, M4⟩ w ⟨hi, hM4, hS⟩
  refine zQ (zR (wl (y_lss rfl rfl) rfl (zE (zQ (zIf rfl (fun hc152 => ?_) fun hc152 => ?_)))))
  · refine zK ?_
    refine zQ (zB (zQ ?_))
    have hi' : i < ks.length := by omega
    obtain ⟨key, hki⟩ : ∃ key, ks[i]? = some key := ⟨_, List.getElem?_eq_getElem hi'⟩
    obtain ⟨bb, off, c', hse, hce⟩ := (hqo.holds (hS.pull Hq)).at hki
    simp only [Value.slice.injEq] at hse
    have hSk := hS
    obtain ⟨rfl, _, rfl⟩ := hse
    replace hS := hSk
    refine zR (wl (y_ixa_sl Tryz.underlying83 sz_9 rfl rfl (by omega) (by omega)) rfl (wl (y_load pl_9 rfl hce.one) rfl (zA rfl (zE (zQ (zW hS (fun w => w.cell? ⟨q, 9, none⟩ = some (.pointer (some ⟨cp, 0, none⟩))) [] wide_ rfl fun w hS => zPm 0 1 rfl (zPm 1 3 rfl (zPm 3 11 rfl (zPn 4 27 rfl (zPf 5 59 fl_76_4 rfl (zPm 7 187 rfl (zD 6 251 rfl (hS.cell rfl) (fun w hS => y_load pl_74 rfl hS) (zU 2 255 rfl (wl_call (.cons rfl (.cons rfl .nil)) (nread_c key hsm (hn.mono hM4) (hS.pull H)) rfl ?_))))))))))))))
    rintro _ w ⟨rfl, hS⟩
    refine zE ⟨fun _ _ => (hS.cell rfl), zU 8 511 rfl (wl_call (.cons rfl (.cons rfl .nil)) (r17read_c key (by omega) (by omega) hku (k3.mono hM4) (hS.pull [(cp, rcO jp m.own (.slice ka xs.length kc) (.slice pa ys.length pc) (.slice oa m.own.opn.length oc))])) rfl ?_)⟩
    rintro _ w ⟨M5, hM5, rfl, hS⟩
    refine zE ⟨fun _ _ => (hS.cell rfl), zP 9 1023 rfl (fun w => (y_neS Tryz.eqGuardType65 rfl rfl (eq_65 _ _ _ _ _ _)).val (u := .bool false) (congrArg (fun b => Value.bool (!b)) ((val_eq (m.own.read key) (m.own.read key)).trans (decide_eq_true rfl)))) (zH (wc_ifF rfl (rfl) (zK (zR (wl (y_add rfl rfl (w64 (by omega) (by omega))) rfl (zM rfl (zE ?_)))))))⟩
    exact ⟨(i + 1, M5), by simp only; omega, sub_cons rfl (sub_cons rfl (sub_cons rfl (sub_cons rfl (subR rfl)))), by omega, hM4.trans hM5, hS.keep⟩
  refine wc_exit ?_
  refine zQ ?_
  have hMc := hM0.trans hM4
  replace hn := hn.mono hM4
  refine zW hS (fun w => w.cell? ⟨q, 9, none⟩ = some (.pointer (some ⟨cp, 0, none⟩)) ∧ w.cell? ⟨cp, 4, none⟩ = some (.slice ka xs.length kc) ∧ w.cell? ⟨q, 7, none⟩ = some (.pointer (some ⟨jp, 0, none⟩)) ∧ w.cell? ⟨jp, 2, none⟩ = some (.slice ja js.length jc) ∧ w.cell? ⟨cp, 5, none⟩ = some (.slice pa ys.length pc) ∧ w.cell? ⟨cp, 6, none⟩ = some (.slice oa m.own.opn.length oc)) [] wide_ rfl fun w hS => zPm 0 1 rfl (zPm 2 5 rfl (zPn 3 13 rfl (zPf 4 29 fl_76_4 rfl (zD 5 61 rfl ⟨hS.c, hS.c, hS.c, hS.c, hS.c, hS.c⟩ (fun w hS => y_load pl_74 rfl hS.1) (zU 1 63 rfl (wl_call (.cons rfl .nil) (nlen_c hsm hn (hS.pull H)) rfl ?_))))))
  rintro _ w ⟨rfl, hS⟩
  refine zE ⟨fun _ _ => ⟨hS.c, hS.c, hS.c, hS.c, hS.c, hS.c⟩, zU 6 127 rfl (wl_call (.cons rfl .nil) (r17len_c (by omega) (by omega) hku (k3.mono hM4) (hS.pull [(cp, rcO jp m.own (.slice ka xs.length kc) (.slice pa ys.length pc) (.slice oa m.own.opn.length oc))])) rfl ?_)⟩
  rintro _ w ⟨M6, hM6, rfl, hS⟩
  replace hn := hn.mono hM6
  replace hMc := hMc.trans hM6
  have hM36 := hM4.trans hM6
  refine zE ⟨fun _ _ => ⟨hS.c, hS.c, hS.c, hS.c, hS.c, hS.c⟩, zP 7 255 rfl (fun w => (y_eql rfl rfl).val (u := .bool true) (congrArg Value.bool (decide_eq_true rfl))) (zPm 8 511 rfl (zPG 9 1023 rfl (fun w => y_move rfl) (zPG 11 3071 rfl (fun w => y_move rfl) (zPG 12 7167 rfl (fun w => y_nil rfl) (zPG 13 15359 rfl (fun w => y_fld fl_76_4 rfl) (zDG 14 31743 rfl ⟨hS.c, hS.c, hS.c, hS.c, hS.c, hS.c⟩ (fun w hS => y_load pl_74 rfl hS.1) (zPG 15 64511 rfl (fun w => y_nil rfl) (zPG 16 130047 rfl (fun w => y_fld fl_85_4 rfl) (zDG 17 261119 rfl ⟨hS.c, hS.c, hS.c, hS.c, hS.c, hS.c⟩ (fun w hS => y_load pl_32 rfl hS.2.1) (zU 10 262143 rfl (zI rfl (wl_call (.cons rfl .nil) (nknown_c (by omega) hn (hS.pull H)) rfl ?_))))))))))))⟩
  rintro v w ⟨M7, zs, Hz, hM7, hoz, hrz, hn, hS⟩
  replace hMc := hMc.trans hM7
  have hM37 := hM36.trans hM7
  refine zE ⟨fun _ _ => ⟨hS.c, hS.c, hS.c, hS.c, hS.c, hS.c⟩, zU 18 524287 rfl (zI rfl (wl_call (.cons rfl (.cons rfl .nil)) (rsameall_r (by omega) hoz hrz (f1.mono hM37) (f2.mono hM37) (hS.pull Hz)) rfl ?_))⟩
  rintro _ w ⟨rfl, hS⟩
  rw [decide_eq_true rfl]
  refine zE ⟨fun _ _ => ⟨hS.c, hS.c, hS.c, hS.c, hS.c, hS.c⟩, zP 19 1048575 rfl (fun w => y_pickT rfl rfl) (zPm 20 2097151 rfl (zPG 21 4194303 rfl (fun w => y_move rfl) (zPG 23 12582911 rfl (fun w => y_move rfl) (zPG 24 29360127 rfl (fun w => y_nil rfl) (zPG 25 62914559 rfl (fun w => y_fld fl_76_2 rfl) (zDG 26 130023423 rfl ⟨hS.c, hS.c, hS.c, hS.c, hS.c, hS.c⟩ (fun w hS => y_load pl_72 rfl hS.2.2.1) (zPG 27 264241151 rfl (fun w => y_nil rfl) (zPG 28 532676607 rfl (fun w => y_fld fl_87_2 rfl) (zDG 29 1069547519 rfl ⟨hS.c, hS.c, hS.c, hS.c, hS.c, hS.c⟩ (fun w hS => y_load pl_32 rfl hS.2.2.2.1) (zU 22 1073741823 rfl (zI rfl (wl_call (.cons rfl .nil) (njournal_c (by omega) hn (hS.pull H)) rfl ?_))))))))))))⟩
  rintro v w ⟨M8, zs2, Hz2, hM8, hoz2, hrz2, hn, hS⟩
  rw [hbJ] at hrz2
  replace hMc := hMc.trans hM8
  have hM38 := hM37.trans hM8
  refine zE ⟨fun _ _ => ⟨hS.c, hS.c, hS.c, hS.c, hS.c, hS.c⟩, zU 30 2147483647 rfl (zI rfl (wl_call (.cons rfl (.cons rfl .nil)) (rsameall_r (by omega) hoz2 hrz2 (fj.mono hM38) (fr.mono hM38) (hS.pull Hz2)) rfl ?_))⟩
  rintro _ w ⟨rfl, hS⟩
  rw [decide_eq_true rfl]
  refine zE ⟨fun _ _ => ⟨hS.c, hS.c, hS.c, hS.c, hS.c, hS.c⟩, zP 31 4294967295 rfl (fun w => y_pickT rfl rfl) (zPm 32 8589934591 rfl (zPG 33 17179869183 rfl (fun w => y_move rfl) (zPG 35 51539607551 rfl (fun w => y_move rfl) (zPG 36 120259084287 rfl (fun w => y_nil rfl) (zPG 37 257698037759 rfl (fun w => y_fld fl_76_4 rfl) (zDG 38 532575944703 rfl ⟨hS.c, hS.c, hS.c, hS.c, hS.c, hS.c⟩ (fun w hS => y_load pl_74 rfl hS.1) (zPG 39 1082331758591 rfl (fun w => y_nil rfl) (zPG 40 2181843386367 rfl (fun w => y_fld fl_85_5 rfl) (zDG 41 4380866641919 rfl ⟨hS.c, hS.c, hS.c, hS.c, hS.c, hS.c⟩ (fun w hS => y_load pl_32 rfl hS.2.2.2.2.1) (zPG 42 8778913153023 rfl (fun w => y_len_sl Tryz.underlying32 rfl) (zPG 43 17575006175231 rfl (fun w => y_eql rfl rfl) (zU 34 17592186044415 rfl (zI rfl (wl_call (.cons rfl .nil) (nconf_c hn (hS.pull H)) rfl ?_))))))))))))))⟩
  rintro _ w ⟨rfl, hS⟩
  have f4l := f4.len
  refine zE ⟨fun _ _ => ⟨hS.c, hS.c, hS.c, hS.c, hS.c, hS.c⟩, zPG 44 35184372088831 rfl (fun w => y_move rfl) (zDc (s := 210) rfl (fun hg210 => ?_) fun hg210 => ?_)⟩
  · refine zPG 45 70368744177663 rfl (fun w => y_move rfl) ?_
    refine zPG 46 140737488355327 rfl (fun w => y_nil rfl) (zPG 47 281474976710655 rfl (fun w => y_fld fl_76_4 rfl) (zDG 48 562949953421311 rfl ⟨hS.c, hS.c, hS.c, hS.c, hS.c, hS.c⟩ (fun w hS => y_load pl_74 rfl hS.1) (zPG 49 1125899906842623 rfl (fun w => y_nil rfl) (zPG 50 2251799813685247 rfl (fun w => y_fld fl_85_6 rfl) (zDG 51 4503599627370495 rfl ⟨hS.c, hS.c, hS.c, hS.c, hS.c, hS.c⟩ (fun w hS => y_load pl_46 rfl hS.2.2.2.2.2) (zPG 52 9007199254740991 rfl (fun w => y_len_sl Tryz.underlying46 rfl) (zPG 53 18014398509481983 rfl (fun w => y_eql rfl rfl) (zPG 54 36028797018963967 rfl (fun w => y_pickT rfl rfl) (zPG 55 72057594037927935 rfl (fun w => y_beq Tryz.underlying4 rfl rfl) (zP 56 144115188075855871 rfl (fun w => y_pickT rfl rfl) (zPa 57 288230376151711743 rfl (zH (zV (z1 rfl ?_))))))))))))))
    first
    | exact ⟨_, hMc, rfl, hS.keep⟩
    | exact ⟨M2, hM1.trans hM2, rfl, hS.keep⟩
    | exact ⟨_, hMc, congrArg Value.bool (by first | exact conf_eq f4l (by assumption) rfl | exact conf_ne f4l (by assumption)), hS.keep⟩
  refine zDO 45 70368744177663 rfl ?_
  refine zDO 46 140737488355327 rfl (zDO 47 281474976710655 rfl (zDO 48 562949953421311 rfl (zDO 49 1125899906842623 rfl (zDO 50 2251799813685247 rfl (zDO 51 4503599627370495 rfl (zDO 52 9007199254740991 rfl (zDO 53 18014398509481983 rfl (zPG 54 36028797018963967 rfl (fun w => y_pickF rfl rfl) (zPG 55 72057594037927935 rfl (fun w => y_beq Tryz.underlying4 rfl rfl) (zP 56 144115188075855871 rfl (fun w => y_pickT rfl rfl) (zPa 57 288230376151711743 rfl (zH (zV (z1 rfl ?_))))))))))))))
  first
  | exact ⟨_, hMc, rfl, hS.keep⟩
  | exact ⟨M2, hM1.trans hM2, rfl, hS.keep⟩
  | exact ⟨_, hMc, congrArg Value.bool (by first | exact conf_eq f4l (by assumption) rfl | exact conf_ne f4l (by assumption)), hS.keep⟩
end
end Go.Proofs.YtndahppmjdbifaaGreatDoor.Ref
namespace Go.Proofs.YtndahppmjdbifaaGreatDoor.nodePlays
open Go Go.Proofs Go.ChangeShapes Go.WideShapes Go.ChangeAt Go.RowKit Eng Pre Nod Ref
open Go.ChangeMaps (open_string shut_string)
set_option linter.unusedVariables false
theorem own : ownKnob Tryz.prog.godebug = none := by kernel_rfl
theorem laid_ : laidOutB Tryz.prog = true := by kernel_rfl
theorem walk (w : World) (hG : Bits (mem0 w)) (a0 : Cfg) (a1 : Int) (w1 : (Lit.int .i64 a1).wf = true) (a2 : List Nod.Act) (v2 : Value) (g2 : Rd (mem0 w) encA v2 a2) :
    Calls Tryz.prog 8 #[cfgV a0, .int .i64 a1, v2] w fun e w' => e = .returned (.bool true) ∧ Below w.heap.size w w' := by
  obtain ⟨b2, c2, rfl⟩ := (g2.holds (st0 w)).slice
  exact (NodePlays_c hG a0 a1 a2 _ g2 (st0 w)).2.mono fun e w' ⟨v, he, M, hM, hv, hS⟩ => ⟨by rw [he, hv], below_of hS hM⟩
set_option maxRecDepth 100000 in
theorem lifted (os : Os) (started : os.Started) (H : Type) (enc : TypeId × Value → H) :
    ReturnsInHanded {} Tryz.checked os 8 .any (fun w args => (Rows.nodePlaysSpec.pre enc Tryz.prog Tryz.f8 [] false w args ∧ laidMetH Tryz.prog laidBits w) ∧ sizedMet enc Tryz.prog Tryz.f8 (OpenSpec.ofChange Rows.nodePlaysSpec) false w args)
      (Rows.nodePlaysSpec.post enc Tryz.prog Tryz.f8 false true false false) := by
  refine returnsInHanded_of_change_and (C := Tryz.checked) (X := fun w _ => laidMetH Tryz.prog laidBits w) (fun _ _ _ hh h => h.of_heap hh) own started (by kernel_rfl) Tryz.func8
    (ChangeSpec.witness_shaped (enc := enc) (C := Tryz.checked) (os := os) (X := fun w _ => laidMetH Tryz.prog laidBits w) false (World.doorLaid Tryz.prog 400 os) #[.agg #[.int .i64 0, .int .i64 0, .int .i64 0, .int .i64 0, .int .i64 0, .int .i64 0], .int .i64 0, .slice none 0 0] 8 rfl (World.shaped_of_RefB (by kernel_rfl) (by kernel_rfl)) (by kernel_rfl) (by kernel_rfl) (by kernel_rfl) (bits_met os _)) ?_
  intro W base args ds gs before hval0 hW _ _ hL _
  have hval : ∀ (j : Nat) t v, Tryz.f8.params[j]? = some t → args[j]? = some v → Value.okWide Tryz.prog W .any base t v := hval0
  have hW' := hW
  obtain ⟨p, q, hA0, hV, rfl, hfz, hnd⟩ := hW
  have hA : DataW.TrodAll enc Tryz.prog W 0 (fun _ => true) true Tryz.f8.params.toList args.toList ds p := hA0
  rw [Tryz.params8] at hA hval
  obtain ⟨v0, vs0, d0, ds0, p0, q0, hargs, rfl, rfl, h0, r0⟩ := trodAll_cons hA
  obtain ⟨v1, vs1, d1, ds1, p1, q1, rfl, rfl, rfl, h1, r1⟩ := trodAll_cons r0
  obtain ⟨v2, vs2, d2, ds2, p2, q2, rfl, rfl, rfl, h2, r2⟩ := trodAll_cons r1
  obtain ⟨rfl, rfl, rfl⟩ := trodAll_nil r2
  obtain rfl : args = #[v0, v1, v2] := by cases args; simp_all
  obtain ⟨rfl, rfl⟩ := trodVars_none hV
  obtain ⟨a0, rfl⟩ := open_cfg (hval 0 23 v0 rfl rfl) h0
  obtain ⟨a1, rfl, rfl, rfl, w1⟩ := open_int Tryz.underlying3 (hval 1 3 v1 rfl rfl) h1
  obtain ⟨a2, g2⟩ := open_acts (hval 2 24 v2 rfl rfl) h2
  refine (walk W (bits_of hL) a0 a1 w1 a2 v2 g2).mono fun e W' ⟨he, hg⟩ => ?_
  subst he
  exact ⟨_, rfl, law_post laid_ (by kernel_rfl) (by kernel_rfl) rfl Tryz.underlying4 hW' rfl hg⟩
theorem over : Rows.nodePlaysRow.holds Tryz.pinned (OpenSpec.ofChange Rows.nodePlaysSpec) :=
  OpenClaim.holds_of_wide 8 Tryz.f8 rfl rfl rfl rfl rfl rfl rfl ⟨rfl, rfl, rfl, rfl, rfl⟩ rfl rfl rfl rfl rfl (by kernel_rfl) Tryz.func8 (by kernel_rfl)
    (of_decide_eq_true (by kernel_rfl)) (by unfold Func.isWrapper; first | (rw [if_pos (by decide +kernel)]; kernel_rfl) | (rw [if_neg (by decide +kernel)]; exact ⟨rfl, rfl⟩))
    (fun os started H enc _ => lifted os started H enc)
set_option maxRecDepth 100000 in
theorem proved : Rows.NodePlaysCardSaid :=
  Claim7.holds_tied_plain_at .later [] [.data] true (true, "67b0996c903ca52b6a14ede8c9960722141bb73d263f4f25cb690ebd8fa2589f") false
    over (fun _ h => by cases h) (by kernel_rfl) (fun _ h => by cases h) nodePlays_row_tie rfl ⟨rfl, rfl⟩ (by kernel_rfl) rfl
    (fun f fn hf hfn => by
      obtain rfl : f = 8 := Option.some.inj ((show Tryz.prog.funcNamed "chapbook/chapbooklaw18.NodePlays" = some 8 by kernel_rfl).symm.trans hf) |>.symm
      obtain rfl : fn = Tryz.f8 := (Option.some.inj (Tryz.func8.symm.trans hfn)).symm
      exact ⟨by kernel_rfl, fun j t ht => by
        rw [Tryz.params8] at ht
        have hm : t ∈ [23, 3, 24] := by
          have hm0 := Array.mem_of_getElem? ht
          simp only [List.mem_toArray, List.mem_cons, List.not_mem_nil, or_false] at hm0 ⊢
          omega
        have hall : ([23, 3, 24].all fun u => !Tryz.prog.wantsStandIn u) = true := by kernel_rfl
        have hx : Tryz.prog.wantsStandIn t = false := by simpa using List.all_eq_true.1 hall t hm
        exact hx⟩)
    (by kernel_rfl)
#print axioms proved
end Go.Proofs.YtndahppmjdbifaaGreatDoor.nodePlays
