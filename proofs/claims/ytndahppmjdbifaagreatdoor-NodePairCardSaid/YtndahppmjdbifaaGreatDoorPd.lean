/-
  NodePair holds: a node and a sequencer that send each other all, for some rounds: the common order is the node's journal, the node knows it, and nothing is pending. No condition beyond the row's own: prefix.bits holds what the program's text lays.
-/
import Derived.Test.YtndahppmjdbifaaGreatDoorPc
import Derived.Deep.Slices
import Derived.LaidMore
import Derived.Lib.SmallJoins
import Derived.Test.YtndahppmjdbifaaGreatDoorRows
import Derived.KernelRfl
import Derived.MakeChecks
import Derived.Test.YtndahppmjdbifaaGreatDoorCards
import Derived.Test.YtndahppmjdbifaaGreatDoorTie
import Derived.ProofKit
import Derived.OpenShut
import Derived.ShutString
import Derived.Stop.Joined
import Derived.SevenTiedAt
set_option linter.unusedVariables false
set_option linter.unusedSimpArgs false
namespace Go.Proofs.YtndahppmjdbifaaGreatDoor.Eng
open Go Go.RowKit Go.WideShapes
inductive Lf
  | int (k : IntKind)
  | str
  | boo
def LfOk : Lf → Value → Prop
  | .int k, v => ∃ n, v = .int k n ∧ (Lit.int k n).wf = true
  | .str, v => ∃ s : ByteArray, v = .string s ∧ s.size ≤ maxLen
  | .boo, v => ∃ b, v = .bool b
inductive Lvs (P : Program) : List (TypeId × Nat) → List (Nat × Lf) → Prop
  | nil : Lvs P [] []
  | int {t o : Nat} {k : IntKind} {rest : List (TypeId × Nat)} {ls : List (Nat × Lf)} : P.underlying t = some (.int k) → Lvs P rest ls → Lvs P ((t, o) :: rest) ((o, .int k) :: ls)
  | str {t o : Nat} {rest : List (TypeId × Nat)} {ls : List (Nat × Lf)} : P.underlying t = some .string → Lvs P rest ls → Lvs P ((t, o) :: rest) ((o, .str) :: ls)
  | boo {t o : Nat} {rest : List (TypeId × Nat)} {ls : List (Nat × Lf)} : P.underlying t = some .bool → Lvs P rest ls → Lvs P ((t, o) :: rest) ((o, .boo) :: ls)
  | st {t o : Nat} {fs : List Field} {rest : List (TypeId × Nat)} {ls : List (Nat × Lf)} : P.underlying t = some (.struct fs.toArray) → fs.all (fun f => Nat.ble (f.offset + P.cellsOf f.type) (P.cellsOf t)) = true → Lvs P (fs.map (fun f => (f.type, o + f.offset)) ++ rest) ls → Lvs P ((t, o) :: rest) ls
theorem cut_one {cs : List Value} {o c : Nat} {v : Value} (h : (cs.drop o).take c = [v]) : cs[o]? = some v := by
  have h1 : ((cs.drop o).take c)[0]? = some v := by rw [h]; rfl
  rw [List.getElem?_take] at h1
  split at h1
  · simpa using h1
  · cases h1
section
variable {H : Type} {enc : TypeId × Value → H} {P : Program} {w : World} {base : Nat} {spare : Nat → Bool} {held : Bool}
theorem Lvs.of {L : List (TypeId × Nat)} {ls : List (Nat × Lf)} (hl : Lvs P L ls) {cs : List Value} (h : ∀ p ∈ L, ∃ fuel x, DataW.trod enc P w base spare held fuel p.1 ((cs.drop p.2).take (P.cellsOf p.1)) = some x) : ∀ q ∈ ls, ∃ v, cs[q.1]? = some v ∧ LfOk q.2 v := by
  induction hl with
  | nil => intro q hq; cases hq
  | int ht _ ih =>
    intro q hq
    rcases List.mem_cons.1 hq with rfl | hq
    · obtain ⟨fuel, x, hx⟩ := h _ List.mem_cons_self
      obtain ⟨n, h1, _, h3⟩ := DataW.trod_int ht hx
      exact ⟨_, cut_one h1, n, rfl, h3⟩
    · exact ih (fun p hp => h p (List.mem_cons_of_mem _ hp)) q hq
  | str ht _ ih =>
    intro q hq
    rcases List.mem_cons.1 hq with rfl | hq
    · obtain ⟨fuel, x, hx⟩ := h _ List.mem_cons_self
      obtain ⟨s, h1, _, h3⟩ := DataW.trod_string ht hx
      exact ⟨_, cut_one h1, s, rfl, h3⟩
    · exact ih (fun p hp => h p (List.mem_cons_of_mem _ hp)) q hq
  | boo ht _ ih =>
    intro q hq
    rcases List.mem_cons.1 hq with rfl | hq
    · obtain ⟨fuel, x, hx⟩ := h _ List.mem_cons_self
      obtain ⟨b, h1, _⟩ := DataW.trod_bool ht hx
      exact ⟨_, cut_one h1, b, rfl⟩
    · exact ih (fun p hp => h p (List.mem_cons_of_mem _ hp)) q hq
  | @st t o fs rest ls ht hf _ ih =>
    refine ih fun p hp => ?_
    rcases List.mem_append.1 hp with hp | hp
    · obtain ⟨fuel, x, hx⟩ := h _ List.mem_cons_self
      obtain ⟨xs, n, _, _, _, hlen, hall⟩ := DataW.trod_struct ht hx
      obtain ⟨f, hfm, rfl⟩ := List.mem_map.1 hp
      obtain ⟨i, hi⟩ := List.getElem?_of_mem hfm
      have hle : f.offset + P.cellsOf f.type ≤ P.cellsOf t := Nat.le_of_ble_eq_true (List.all_eq_true.1 hf f hfm)
      have h1 := hall i f (by simpa using hi)
      have hil : i < xs.length := by rw [hlen]; simpa using (List.getElem?_eq_some_iff.1 hi).1
      rw [List.getElem?_eq_getElem hil] at h1
      refine ⟨n, xs[i], ?_⟩
      rw [← h1]
      congr 1
      simp only []
      rw [List.drop_take, List.take_take, List.drop_drop, Nat.min_eq_left (by omega)]
    · exact h p (List.mem_cons_of_mem _ hp)
theorem open_st {r : Reach} {b0 t : Nat} {fs : Array Field} {v : Value} {d : DataW H} {p : List MemPlace} {ls : List (Nat × Lf)} (ht : P.underlying t = some (.struct fs)) (hL : Lvs P [(t, 0)] ls) (hv : Value.okWide P w r b0 t v) (h : DataW.Trod enc P w base spare held t v d p) :
    ∃ cs : List Value, v = .agg cs.toArray ∧ cs.length = P.cellsOf t ∧ ∀ q ∈ ls, ∃ u, cs[q.1]? = some u ∧ LfOk q.2 u := by
  obtain ⟨cs, rfl, hsz⟩ := okWide_struct ht hv
  obtain ⟨fuel, hf⟩ := h
  have hf' : DataW.trod enc P w base spare held fuel t cs.toList = some (d, p) := hf
  refine ⟨cs.toList, by simp, by simpa using hsz, hL.of (enc := enc) (w := w) (base := base) (spare := spare) (held := held) ?_⟩
  intro q hq
  simp only [List.mem_singleton] at hq
  subst hq
  refine ⟨fuel, (d, p), ?_⟩
  simp only [List.drop_zero]
  rw [List.take_of_length_le (by simpa using Nat.le_of_eq hsz)]
  exact hf'
theorem spot_none {a : Addr} {v : Value} (h : w.cell? a = some v) : a = ⟨a.block, a.off, none⟩ ∧ ∃ cs e fz, w.heap[a.block]? = some (.cells cs e fz) ∧ cs[a.off]? = some v := by
  unfold World.cell? at h
  split at h
  · rename_i cs e fz hh
    split at h
    · cases h
    · rename_i hs
      refine ⟨?_, cs, e, fz, hh, h⟩
      cases a; simp at hs; simp [hs]
  · cases h
theorem Enc.flat_inv {α : Type} {A : Enc α} : ∀ {xs : List α} {j : Nat} {v : Value}, (xs.flatMap A.f)[j]? = some v → ∃ i x r, xs[i]? = some x ∧ (A.f x)[r]? = some v ∧ j = i * A.k + r
  | [], j, v, h => by simp at h
  | x :: xs, j, v, h => by
    simp only [List.flatMap_cons] at h
    by_cases hj : j < (A.f x).length
    · rw [List.getElem?_append_left hj] at h
      exact ⟨0, x, j, rfl, h, by simp⟩
    · rw [List.getElem?_append_right (by omega)] at h
      obtain ⟨i, y, r, h1, h2, h3⟩ := Enc.flat_inv h
      refine ⟨i + 1, y, r, by simpa using h1, h2, ?_⟩
      rw [A.len] at h3 hj
      rw [Nat.add_mul, Nat.one_mul]
      omega
theorem open_sl' {α : Type} (A : Enc α) {t e fuel : Nat} {v : Value} {x : DataW H × List MemPlace} {ls : List (Nat × Lf)} (ht : P.underlying t = some (.slice e)) (hk : P.cellsOf e = A.k) (hk0 : 0 < A.k) (hL : Lvs P [(e, 0)] ls)
    (hA : ∀ cs : List Value, cs.length = A.k → (∀ q ∈ ls, ∃ u, cs[q.1]? = some u ∧ LfOk q.2 u) → ∃ x, A.f x = cs)
    (h : DataW.trod enc P w base (fun _ => true) held fuel t [v] = some x) :
    ∃ xs : List α, Rd (mem0 w) A v xs ∧ xs.length ≤ maxLen := by
  obtain ⟨a, len, cap, hvs⟩ := Joins.slice_form ht h
  simp only [List.cons.injEq, and_true] at hvs
  subst hvs
  have hf' := h
  rcases Deep.open_slice ht hf' with ⟨hcs, _⟩ | ⟨a', len', cap', m, n, D, Pl, hcs, hb, hlc, hcm, hm, _, hel⟩
  · simp only [List.cons.injEq, Value.slice.injEq, and_true] at hcs
    obtain ⟨rfl, rfl, rfl⟩ := hcs
    exact ⟨[], ⟨_, _, rfl, .inl rfl⟩, Nat.zero_le _⟩
  · simp only [List.cons.injEq, Value.slice.injEq, and_true] at hcs
    obtain ⟨rfl, rfl, rfl⟩ := hcs
    simp only [if_true] at hm
    subst hm
    have one : ∀ i, i < len → ∃ x, w.cells? base (a'.add (i * A.k)) A.k = some (A.f x) := by
      intro i hi
      obtain ⟨cs', h1, h2⟩ := hel i (by omega)
      rw [hk] at h1
      obtain ⟨_, hlen, _⟩ := World.cells?_some h1
      obtain ⟨x, rfl⟩ := hA cs' hlen (hL.of (enc := enc) (w := w) (base := base) (spare := fun _ => true) (held := held) fun q hq => by
        simp only [List.mem_singleton] at hq
        subst hq
        refine ⟨n, (D i, Pl i), ?_⟩
        simp only [List.drop_zero]
        rw [List.take_of_length_le (by rw [hk]; exact Nat.le_of_eq hlen)]
        exact h2)
      exact ⟨x, h1⟩
    have build : ∀ n, n ≤ len → ∃ xs : List α, xs.length = n ∧ ∀ i x, xs[i]? = some x → w.cells? base (a'.add (i * A.k)) A.k = some (A.f x) := by
      intro n
      induction n with
      | zero => exact fun _ => ⟨[], rfl, fun i x hx => by simp at hx⟩
      | succ n ih =>
        intro hn
        obtain ⟨xs, h1, h2⟩ := ih (by omega)
        obtain ⟨x, hx⟩ := one n (by omega)
        refine ⟨xs ++ [x], by simp [h1], fun i y hy => ?_⟩
        rcases Nat.lt_or_ge i n with hi | hi
        · rw [List.getElem?_append_left (by omega)] at hy; exact h2 i y hy
        · rw [List.getElem?_append_right (by omega)] at hy
          have : i - xs.length = 0 := by
            rcases Nat.eq_zero_or_pos (i - xs.length) with h | h
            · exact h
            · rw [List.getElem?_eq_none (by simp; omega)] at hy; cases hy
          rw [this] at hy
          simp only [List.getElem?_cons_zero, Option.some.injEq] at hy
          subst hy
          rw [show i = n by omega]; exact hx
    obtain ⟨xs, hxl, hx⟩ := build len (Nat.le_refl _)
    refine ⟨xs, ⟨some a', _, by rw [hxl], ?_⟩, by omega⟩
    cases xs with
    | nil => exact .inl rfl
    | cons x0 xs0 =>
      right
      have h0 := hx 0 x0 rfl
      rw [Nat.zero_mul] at h0
      obtain ⟨_, _, hc0⟩ := World.cells?_some h0
      have hv0 : ∃ v0, (A.f x0)[0]? = some v0 := ⟨_, List.getElem?_eq_getElem (by rw [A.len]; exact hk0)⟩
      obtain ⟨v0, hv0⟩ := hv0
      have hcell := (hc0 0 hk0).trans hv0
      have hadd0 : (a'.add 0).add 0 = a' := by simp [Addr.add]
      rw [hadd0] at hcell
      obtain ⟨hsp, cs, e', fz, hh, _⟩ := spot_none hcell
      refine ⟨a'.block, a'.off, cs, e', fz, by rw [← hsp], hh, fun j v hj => ?_⟩
      obtain ⟨i, x, r, h1, h2, rfl⟩ := Enc.flat_inv hj
      have hi := hx i x h1
      obtain ⟨_, _, hci⟩ := World.cells?_some hi
      have hr : r < A.k := by rw [← A.len x]; exact (List.getElem?_eq_some_iff.1 h2).1
      have hc := (hci r hr).trans h2
      rw [hsp, Addr.add_mk, Addr.add_mk] at hc
      unfold World.cell? at hc
      rw [hh] at hc
      simp only [Option.isSome_none, Bool.false_eq_true, if_false] at hc
      rw [← hc]
      congr 1
      omega
theorem open_sl {α : Type} (A : Enc α) {r : Reach} {b0 t e : Nat} {v : Value} {d : DataW H} {p : List MemPlace} {ls : List (Nat × Lf)} (ht : P.underlying t = some (.slice e)) (hk : P.cellsOf e = A.k) (hk0 : 0 < A.k) (hL : Lvs P [(e, 0)] ls)
    (hA : ∀ cs : List Value, cs.length = A.k → (∀ q ∈ ls, ∃ u, cs[q.1]? = some u ∧ LfOk q.2 u) → ∃ x, A.f x = cs)
    (hv : Value.okWide P w r b0 t v) (h : DataW.Trod enc P w base (fun _ => true) held t v d p) :
    ∃ xs : List α, Rd (mem0 w) A v xs ∧ xs.length ≤ maxLen := by
  obtain ⟨a, len, cap, rfl⟩ := okWide_slice ht hv
  obtain ⟨fuel, hf⟩ := h
  exact open_sl' A ht hk hk0 hL hA (show DataW.trod enc P w base (fun _ => true) held fuel t [.slice a len cap] = some (d, p) from hf)
end
end Go.Proofs.YtndahppmjdbifaaGreatDoor.Eng
set_option linter.unusedVariables false
set_option linter.unusedSimpArgs false
set_option maxRecDepth 100000
namespace Go.Proofs.YtndahppmjdbifaaGreatDoor.Nod
open Go Go.Proofs Go.RowKit Go.Proofs.YtndahppmjdbifaaGreatDoor.Eng Go.Proofs.YtndahppmjdbifaaGreatDoor.Pre Go.Proofs.YtndahppmjdbifaaGreatDoor.Val
def laidBits : List (String × DataW Unit) := [("chapbook/prefix.bits", Rows.laid_chapbook_prefix_bits)]
theorem gBits : Tryz.prog.globalNamed "chapbook/prefix.bits" = some 0 := by kernel_rfl
theorem tBits : (Tryz.prog.globals[0]?).map (·.type) = some 263 := by kernel_rfl
theorem cellsBits : Tryz.prog.cellsOf 263 = 4 := by kernel_rfl
theorem cellsU64 : Tryz.prog.cellsOf 252 = 1 := by kernel_rfl
theorem bits_of {W : World} (h : laidMetH Tryz.prog laidBits W) : Bits (mem0 W) := by
  rw [MakeChecks.laidMetH_plain _ _ _ (by kernel_rfl)] at h
  obtain ⟨ps, ⟨g0, t0, cs0, f0, p0, q0, hg0, ht0, hv0, hd0, _, _⟩, _, _⟩ := h
  obtain rfl := Option.some.inj (gBits.symm.trans hg0)
  obtain rfl := Option.some.inj (tBits.symm.trans ht0)
  obtain ⟨xs, m1, rfl, hx1, hlen, hn, hel⟩ := DataW.trod_array Tryz.underlying263 hd0
  rw [cellsBits] at hlen
  have hcells : ∃ T fz, W.heap[0]? = some (.cells cs0 T fz) := by
    simp only [World.var?, hg0, Option.bind_some] at hv0
    split at hv0
    · rename_i c e fz hh; cases hv0; exact ⟨e, fz, hh⟩
    · cases hv0
  obtain ⟨T, fz, hh⟩ := hcells
  refine ⟨T, fz, ?_⟩
  have hone : ∀ i, i < 4 → ∃ n x, cs0.toList[i]? = some (.int .u64 n) ∧ xs[i]? = some x ∧ x.1 = .lit (.int .u64 n) := by
    intro i hi
    have h1 := hel i hi
    rw [List.getElem?_eq_getElem (by omega)] at h1
    obtain ⟨n, e1, e2, _⟩ := DataW.trod_int Tryz.underlying252 h1
    rw [cellsU64, Nat.mul_one] at e1
    exact ⟨n, _, cut_one e1, List.getElem?_eq_getElem (by omega), by rw [e2]⟩
  simp only [Prod.mk.injEq, Rows.laid_chapbook_prefix_bits, DataW.agg.injEq] at hx1
  obtain ⟨n0, x0, a0, b0, c0⟩ := hone 0 (by decide)
  obtain ⟨n1, x1, a1, b1, c1⟩ := hone 1 (by decide)
  obtain ⟨n2, x2, a2, b2, c2⟩ := hone 2 (by decide)
  obtain ⟨n3, x3, a3, b3, c3⟩ := hone 3 (by decide)
  have hm := hx1.1
  have k0 := congrArg (fun l => l[0]?) hm
  have k1 := congrArg (fun l => l[1]?) hm
  have k2 := congrArg (fun l => l[2]?) hm
  have k3 := congrArg (fun l => l[3]?) hm
  simp only [List.getElem?_map, b0, b1, b2, b3, Option.map_some, c0, c1, c2, c3, List.getElem?_cons_zero, List.getElem?_cons_succ, Option.some.injEq, DataW.lit.injEq, Lit.int.injEq, true_and] at k0 k1 k2 k3
  subst k0 k1 k2 k3
  show W.heap[0]? = _
  rw [hh]
  congr 2
  obtain ⟨l⟩ := cs0
  simp only at hlen a0 a1 a2 a3
  match l, hlen with
  | [y0, y1, y2, y3], _ =>
    simp only [List.getElem?_cons_zero, List.getElem?_cons_succ, Option.some.injEq] at a0 a1 a2 a3
    subst a0 a1 a2 a3
    rfl
theorem bits_met (os : Os) (args : Array Value) : laidMetH Tryz.prog laidBits ((World.doorLaid Tryz.prog 400 os).forCall (fun _ _ => 0) ⟨#[], args, []⟩).memory :=
  laidMetH_of_parts3 (fuel := 8) (laidMet_of_run' 8 (by kernel_rfl) (by kernel_rfl)) (by kernel_rfl) (by kernel_rfl)
section
variable {H : Type} {enc : TypeId × Value → H} {w : World} {base : Nat} {held : Bool}
theorem lvs_cfg : Lvs Tryz.prog [(23, 0)] [(0, .int .i64), (1, .int .i64), (2, .int .i64), (3, .int .i64), (4, .int .i64), (5, .int .i64)] :=
  .st Tryz.underlying23 (by kernel_rfl) (.int Tryz.underlying3 (.int Tryz.underlying3 (.int Tryz.underlying3 (.int Tryz.underlying3 (.int Tryz.underlying3 (.int Tryz.underlying3 .nil))))))
theorem open_cfg {r : Reach} {b0 : Nat} {v : Value} {d : DataW H} {p : List MemPlace} {spare : Nat → Bool} (hv : Value.okWide Tryz.prog w r b0 23 v) (h : DataW.Trod enc Tryz.prog w base spare held 23 v d p) : ∃ c, v = cfgV c := by
  obtain ⟨cs, rfl, hl, hq⟩ := open_st Tryz.underlying23 lvs_cfg hv h
  rw [show Tryz.prog.cellsOf 23 = 6 by kernel_rfl] at hl
  match cs, hl with
  | [y0, y1, y2, y3, y4, y5], _ =>
    simp only [List.mem_cons, List.not_mem_nil, or_false, forall_eq_or_imp, forall_eq, List.getElem?_cons_zero, List.getElem?_cons_succ, Option.some.injEq, exists_eq_left', LfOk] at hq
    obtain ⟨⟨n0, rfl, _⟩, ⟨n1, rfl, _⟩, ⟨n2, rfl, _⟩, ⟨n3, rfl, _⟩, ⟨n4, rfl, _⟩, ⟨n5, rfl, _⟩⟩ := hq
    exact ⟨⟨n0, n1, n2, n3, n4, n5⟩, rfl⟩
theorem lvs_act : Lvs Tryz.prog [(61, 0)] [(0, .int .i64), (1, .str), (2, .int .i64), (3, .int .i64), (4, .str), (5, .str)] :=
  .st Tryz.underlying61 (by kernel_rfl) (.int Tryz.underlying3 (.st Tryz.underlying59 (by kernel_rfl) (.str Tryz.underlying9 (.int Tryz.underlying3 (.int Tryz.underlying2 (.str Tryz.underlying9 (.str Tryz.underlying9 .nil)))))))
theorem act_of (cs : List Value) (hl : cs.length = encA.k) (hq : ∀ q ∈ [(0, Lf.int .i64), (1, .str), (2, .int .i64), (3, .int .i64), (4, .str), (5, .str)], ∃ u, cs[q.1]? = some u ∧ LfOk q.2 u) : ∃ x, encA.f x = cs := by
  replace hl : cs.length = 6 := hl
  match cs, hl with
  | [y0, y1, y2, y3, y4, y5], _ =>
    simp only [List.mem_cons, List.not_mem_nil, or_false, forall_eq_or_imp, forall_eq, List.getElem?_cons_zero, List.getElem?_cons_succ, Option.some.injEq, exists_eq_left', LfOk] at hq
    obtain ⟨⟨n0, rfl, _⟩, ⟨n1, rfl, _⟩, ⟨n2, rfl, _⟩, ⟨n3, rfl, _⟩, ⟨n4, rfl, _⟩, ⟨n5, rfl, _⟩⟩ := hq
    exact ⟨⟨n0, ⟨n1, n2, n3, n4⟩, n5⟩, rfl⟩
theorem cellsAct : Tryz.prog.cellsOf 61 = 6 := by kernel_rfl
theorem open_acts {r : Reach} {b0 : Nat} {v : Value} {d : DataW H} {p : List MemPlace} (hv : Value.okWide Tryz.prog w r b0 24 v) (h : DataW.Trod enc Tryz.prog w base (fun _ => true) held 24 v d p) : ∃ l, Rd (mem0 w) encA v l := by
  obtain ⟨xs, hx, _⟩ := open_sl encA Tryz.underlying24 cellsAct (by decide) lvs_act act_of hv h
  exact ⟨xs, hx⟩
end
end Go.Proofs.YtndahppmjdbifaaGreatDoor.Nod
set_option linter.unusedVariables false
set_option linter.unusedSimpArgs false
namespace Go.Proofs.YtndahppmjdbifaaGreatDoor.Seq
open Go Go.Proofs Go.Proofs.YtndahppmjdbifaaGreatDoor.Eng Go.Proofs.YtndahppmjdbifaaGreatDoor.Pre Go.Proofs.YtndahppmjdbifaaGreatDoor.Val Go.Proofs.YtndahppmjdbifaaGreatDoor.Rou Go.Proofs.YtndahppmjdbifaaGreatDoor.Fra Go.Proofs.YtndahppmjdbifaaGreatDoor.Snd Go.Proofs.YtndahppmjdbifaaGreatDoor.Lnk Go.Proofs.YtndahppmjdbifaaGreatDoor.Jnl Go.Proofs.YtndahppmjdbifaaGreatDoor.Nod
structure Log where
  clients : Nat
  l : List Rnd
def cnt (l : List Rnd) (i : Nat) : Nat := (l.filter fun r => decide (r.o = (i : Int))).length
def cnts (l : List Rnd) : List Value := (List.range 65).map fun i => .int .i64 (cnt l i)
def lc (c : Int) (s : Value) (l : List Rnd) : List Value := .int .i64 c :: s :: cnts l
theorem cnts_len (l : List Rnd) : (cnts l).length = 65 := by simp [cnts]
theorem cnts_at (l : List Rnd) {i : Nat} (h : i < 65) : (cnts l)[i]? = some (.int .i64 (cnt l i)) := by
  unfold cnts
  rw [List.getElem?_map, List.getElem?_range h]; rfl
theorem cnt_app (l : List Rnd) (r : Rnd) (i : Nat) : cnt (l ++ [r]) i = cnt l i + if r.o = (i : Int) then 1 else 0 := by
  unfold cnt
  rw [List.filter_append, List.length_append]
  congr 1
  by_cases h : r.o = (i : Int) <;> simp [h]
theorem cnts_set (l : List Rnd) {r : Rnd} {i : Nat} (h : i < 65) (hr : r.o = (i : Int)) : (cnts l).set i (.int .i64 ((cnt l i + 1 : Nat) : Int)) = cnts (l ++ [r]) := by
  apply List.ext_getElem?
  intro j
  by_cases hj : j < 65
  · rw [cnts_at _ hj, cnt_app]
    by_cases hij : i = j
    · subst hij
      rw [List.getElem?_set_self (by rw [cnts_len]; exact h), if_pos hr]
    · rw [List.getElem?_set_ne hij, cnts_at _ hj, if_neg (by omega)]; rfl
  · rw [List.getElem?_eq_none (by rw [List.length_set, cnts_len]; omega), List.getElem?_eq_none (by rw [cnts_len]; omega)]
theorem cnt_le (l : List Rnd) (i : Nat) : cnt l i ≤ l.length := List.length_filter_le _ _
section
variable {c : Int} {s s' : Value} {l : List Rnd}
theorem lc0 : (lc c s l).toArray[0]? = some (.int .i64 c) := rfl
theorem lc1 : (lc c s l).toArray[1]? = some s := rfl
theorem lc2 {i : Nat} (h : i < 65) : (lc c s l).toArray[2 + i]? = some (.int .i64 (cnt l i)) := by
  simp only [lc, List.getElem?_toArray]
  rw [show 2 + i = i + 1 + 1 by omega, List.getElem?_cons_succ, List.getElem?_cons_succ, cnts_at _ h]
theorem lc_size : (lc c s l).toArray.size = 67 := by simp [lc, cnts_len]
theorem ls1 : (lc c s l).toArray.setIfInBounds 1 s' = (lc c s' l).toArray := by simp [lc]
theorem ls2 {i : Nat} {r : Rnd} (h : i < 65) (hr : r.o = (i : Int)) : (lc c s l).toArray.setIfInBounds (2 + i) (.int .i64 ((cnt l i + 1 : Nat) : Int)) = (lc c s (l ++ [r])).toArray := by
  simp only [lc, List.setIfInBounds_toArray]
  rw [show 2 + i = i + 1 + 1 by omega, List.set_cons_succ, List.set_cons_succ, cnts_set _ h hr]
end
theorem mayR_rng {r : Rnd} (h : mayR r = 0) : (1 ≤ r.o ∧ r.o ≤ 64) ∧ 1 ≤ r.n ∧ r.n ≤ 1099511627776 := by
  unfold mayR at h
  split at h
  · omega
  · split at h
    · omega
    · omega
def Log.new (c : Int) : Log := ⟨(min (max c 1) 64).toNat, []⟩
@[irreducible] def Log.addE (m : Log) (r : Rnd) : Nat := if mayR r ≠ 0 then mayR r else if r.o > m.clients then 11 else if r.n < (cnt m.l r.o.toNat + 1 : Nat) then 12 else if r.n > (cnt m.l r.o.toNat + 1 : Nat) then 10 else 0
def Log.add (m : Log) (r : Rnd) : Log := if m.addE r = 0 then ⟨m.clients, m.l ++ [r]⟩ else m
def IsLg (M : Mem) (p : Nat) (m : Log) (H : Chunk) : Prop := ∃ xs s Hs, Own 48 encRV s xs Hs ∧ Rvs M xs m.l ∧ H = (p, .cells (lc m.clients s m.l).toArray 214) :: Hs
theorem IsLg.mono {M M' : Mem} {p : Nat} {m : Log} {H : Chunk} (h : IsLg M p m H) (hm : Mle M M') : IsLg M' p m H := by
  obtain ⟨xs, s, Hs, h1, h2, h3⟩ := h
  exact ⟨xs, s, Hs, h1, h2.mono hm, h3⟩
theorem _root_.Go.Proofs.YtndahppmjdbifaaGreatDoor.Eng.St.un1 {M : Mem} {w : World} {Ls : List Chunk} {A : Chunk} {x : Nat × Obj} (h : St M w ((x :: A) :: Ls)) : St M w ([x] :: A :: Ls) := h.perm (by simp)
section
variable {M : Mem} {w : World} {Ls : List Chunk}
theorem lgnew_c (c : Int) (hS : St M w Ls) : CallsR Tryz.prog 108 [.int .i64 c].toArray w fun v w' => ∃ p H, v = .pointer (some ⟨p, 0, none⟩) ∧ IsLg M p (Log.new c) H ∧ St M w' (H :: Ls) := by
  refine calls_of (c := _) (rs := _) (n := 8) Tryz.func108 rfl rfl rfl rfl rfl (zQ (zR (zA rfl rfl (zE (zQ (zR (zM rfl rfl (wl (y_max rfl rfl) rfl (wl ((y_min rfl rfl).val (u := .int .i64 ((min (max c 1) 64).toNat : Nat)) (congrArg (Value.int .i64) (by omega))) rfl (wl (y_build (is := [0]) (xs := [_]) (out := [_, _, _, _, _, _, _, _, _, _, _, _, _, _, _, _, _, _, _, _, _, _, _, _, _, _, _, _, _, _, _, _, _, _, _, _, _, _, _, _, _, _, _, _, _, _, _, _, _, _, _, _, _, _, _, _, _, _, _, _, _, _, _, _, _, _, _]) plc_214 z_214 (.cons rfl .nil) rfl) rfl (a_box rfl hS rfl fun b7 w hS => zA rfl rfl (zE (wc_ret (wret (vs := [_]) (.tmp rfl .nil) ?_))))))))))))))
  exact ⟨_, _, rfl, ⟨[], .slice none 0 0, [], .nil, .nil, rfl⟩, hS⟩
theorem lgadd_c {p : Nat} {m : Log} {H : Chunk} (r : Rnd) (s0 : Value) (hu : Rd M encU s0 r.ups) (hul : r.ups.length ≤ 137438953472) (hl : m.l.length ≤ 137438953472) (hb : IsLg M p m H) (hS : St M w (H :: Ls)) :
    CallsR Tryz.prog 114 [.pointer (some ⟨p, 0, none⟩), rvS r s0].toArray w fun v w' => ∃ M' H', Mle M M' ∧ v = .int .i64 (m.addE r) ∧ IsLg M' p (m.add r) H' ∧ St M' w' (H' :: Ls) := by
  have hb0 := hb
  have hu0 := hu
  obtain ⟨xs, s, Hs, ho, hr, rfl⟩ := hb
  have hlen := hr.len
  obtain ⟨sa, sc, rfl⟩ := ho.slice
  obtain ⟨ua, uc, rfl⟩ := (hu.holds hS).slice
  have hS0 := hS
  replace hS := hS.un1
  refine calls_of (c := _) (rs := _) (n := 60) Tryz.func114 rfl rfl rfl rfl rfl (zQ (zR (a_box rfl hS rfl fun b3 w hS => zA rfl rfl (zE (zQ (zQ (zR (wl ((y_loadS st_48 sz_48 rfl (vs := [.int .i64 r.o, .int .i64 r.n, .slice ua r.ups.length uc]) (hS.cells rfl) rfl).val (show _ = rvS r (.slice ua r.ups.length uc) from rfl)) rfl (wl_call (.cons rfl .nil) (rmay_c r _ hu0 hS) rfl ?_)))))))))
  rintro _ w ⟨rfl, hS⟩
  refine zA rfl rfl (zE (zQ (zR (zM rfl rfl (wl (y_neq rfl rfl) rfl (zE (wc_if rfl (fun hc10 => ?_) (fun hc10 => ?_))))))))
  · try simp only [zZ] at hc10
    have he : m.addE r = mayR r := by unfold Log.addE; rw [if_pos (by omega)]
    have hq : m.add r = m := by unfold Log.add; rw [if_neg (by omega)]
    rw [he, hq]
    refine zQ (zR (zM rfl rfl (zA rfl rfl (zE (wc_ret (wret (vs := [_]) (.tmp rfl .nil) ?_))))))
    first
    | exact ⟨M, _, Mle.refl _, rfl, hb0, hS.keep⟩
    | exact ⟨M1, _, hM1, rfl, ⟨_, _, _, ho2, (hr.mono hM1).append (.cons (x := ⟨r.o, r.n, sa1, r.ups.length, sc1⟩) (r := r) ⟨rfl, rfl, hs1, hul⟩ .nil), rfl⟩, hS.keep⟩
  · try simp only [zZ] at hc10
    have hz : mayR r = 0 := by omega
    obtain ⟨⟨r1, r2⟩, r3, r4⟩ := mayR_rng hz
    obtain ⟨o, hro⟩ : ∃ o : Nat, r.o = (o : Int) := ⟨r.o.toNat, by omega⟩
    have hon : r.o.toNat = o := by omega
    have hcl := cnt_le m.l o
    have he : m.addE r = if r.o > m.clients then 11 else if r.n < (cnt m.l o + 1 : Nat) then 12 else if r.n > (cnt m.l o + 1 : Nat) then 10 else 0 := by unfold Log.addE; rw [if_neg (by omega), hon]
    refine zK (zQ (zQ (zW hS (fun w => w.cell? ⟨b3, 0, none⟩ = some (.int .i64 r.o) ∧ w.cell? ⟨p, 2 + o, none⟩ = some (.int .i64 (cnt m.l o))) [] wide_ rfl rfl fun w hS => zP (i := 0) 1 rfl rfl (by kernel_rfl) (fun _ => y_move rfl) (zP (i := 1) 3 rfl rfl (by kernel_rfl) (fun w => y_fld fl_48_0 rfl) (zP (i := 3) 11 rfl rfl (by kernel_rfl) (fun w => y_nil rfl) (zP (i := 4) 27 rfl rfl (by kernel_rfl) (fun w => y_fld fl_214_2 rfl) (zD (i := 2) 31 rfl rfl (by kernel_rfl) ⟨hS.cell rfl, hS.cell (lc2 (by omega))⟩ (fun w hS => y_load pl_3 rfl hS.1) (zP (i := 5) 63 rfl rfl (by kernel_rfl) (fun w => (y_ixa_ar Tryz.underlying212 sz_3 rfl rfl (by omega) (by omega)).val (u := .pointer (some ⟨p, 2 + o, none⟩)) (congrArg (fun k => Value.pointer (some ⟨p, k, none⟩)) (by omega))) (zD (i := 6) 127 rfl rfl (by kernel_rfl) ⟨hS.cell rfl, hS.cell (lc2 (by omega))⟩ (fun w hS => y_load pl_3 rfl hS.2) (zP (i := 7) 255 rfl rfl (by kernel_rfl) (fun w => (y_add rfl rfl (w64 (by omega) (by omega))).val (u := .int .i64 ((cnt m.l o + 1 : Nat) : Int)) (congrArg (Value.int .i64) (by omega))) (zP (i := 8) 511 rfl rfl (by kernel_rfl) (fun w => y_assign rfl) (zH (by kernel_rfl) (zB (zQ (zW hS (fun w => w.cell? ⟨b3, 0, none⟩ = some (.int .i64 r.o) ∧ w.cell? ⟨p, 0, none⟩ = some (.int .i64 m.clients)) [] wide_ rfl rfl fun w hS => zP (i := 0) 1 rfl rfl (by kernel_rfl) (fun w => y_fld fl_48_0 rfl) (zP (i := 2) 5 rfl rfl (by kernel_rfl) (fun _ => y_move rfl) (zP (i := 3) 13 rfl rfl (by kernel_rfl) (fun w => y_nil rfl) (zP (i := 4) 29 rfl rfl (by kernel_rfl) (fun w => y_fld fl_214_0 rfl) (zD (i := 1) 31 rfl rfl (by kernel_rfl) ⟨hS.cell rfl, hS.cell lc0⟩ (fun w hS => y_load pl_3 rfl hS.1) (zD (i := 5) 63 rfl rfl (by kernel_rfl) ⟨hS.cell rfl, hS.cell lc0⟩ (fun w hS => y_load pl_3 rfl hS.2) (zP (i := 6) 127 rfl rfl (by kernel_rfl) (fun w => y_gtr rfl rfl) (zP (i := 7) 255 rfl rfl (by kernel_rfl) (fun w => y_assign rfl) (zH (by kernel_rfl) (wc_if rfl (fun hc20 => ?_) (fun hc20 => ?_)))))))))))))))))))))))))
    · try simp only [zZ] at hc20
      rw [if_pos (by omega)] at he
      have hq : m.add r = m := by unfold Log.add; rw [if_neg (by omega)]
      rw [he, hq]
      refine zQ (zR (zA rfl rfl (zE (wc_ret (wret (vs := [_]) (.tmp rfl .nil) ?_)))))
      first
      | exact ⟨M, _, Mle.refl _, rfl, hb0, hS.keep⟩
      | exact ⟨M1, _, hM1, rfl, ⟨_, _, _, ho2, (hr.mono hM1).append (.cons (x := ⟨r.o, r.n, sa1, r.ups.length, sc1⟩) (r := r) ⟨rfl, rfl, hs1, hul⟩ .nil), rfl⟩, hS.keep⟩
    · try simp only [zZ] at hc20
      rw [if_neg (by omega)] at he
      refine zQ (zR (zF fl_48_1 rfl rfl (wl (y_load pl_3 rfl (hS.cell rfl)) rfl (zM rfl rfl (wl (y_lss rfl rfl) rfl (zA rfl rfl (zE (wc_if rfl (fun hc28 => ?_) (fun hc28 => ?_)))))))))
      · try simp only [zZ] at hc28
        rw [if_pos (by omega)] at he
        have hq : m.add r = m := by unfold Log.add; rw [if_neg (by omega)]
        rw [he, hq]
        refine zQ (zR (zA rfl rfl (zE (wc_ret (wret (vs := [_]) (.tmp rfl .nil) ?_)))))
        first
        | exact ⟨M, _, Mle.refl _, rfl, hb0, hS.keep⟩
        | exact ⟨M1, _, hM1, rfl, ⟨_, _, _, ho2, (hr.mono hM1).append (.cons (x := ⟨r.o, r.n, sa1, r.ups.length, sc1⟩) (r := r) ⟨rfl, rfl, hs1, hul⟩ .nil), rfl⟩, hS.keep⟩
      · try simp only [zZ] at hc28
        rw [if_neg (by omega)] at he
        refine zQ (zR (zF fl_48_1 rfl rfl (wl (y_load pl_3 rfl (hS.cell rfl)) rfl (zM rfl rfl (wl (y_gtr rfl rfl) rfl (zA rfl rfl (zE (wc_if rfl (fun hc33 => ?_) (fun hc33 => ?_)))))))))
        · try simp only [zZ] at hc33
          rw [if_pos (by omega)] at he
          have hq : m.add r = m := by unfold Log.add; rw [if_neg (by omega)]
          rw [he, hq]
          refine zQ (zR (zA rfl rfl (zE (wc_ret (wret (vs := [_]) (.tmp rfl .nil) ?_)))))
          first
          | exact ⟨M, _, Mle.refl _, rfl, hb0, hS.keep⟩
          | exact ⟨M1, _, hM1, rfl, ⟨_, _, _, ho2, (hr.mono hM1).append (.cons (x := ⟨r.o, r.n, sa1, r.ups.length, sc1⟩) (r := r) ⟨rfl, rfl, hs1, hul⟩ .nil), rfl⟩, hS.keep⟩
        · try simp only [zZ] at hc33
          rw [if_neg (by omega)] at he
          have hq : m.add r = ⟨m.clients, m.l ++ [r]⟩ := by unfold Log.add; rw [if_pos he]
          rw [he, hq]
          refine zK (zQ (zW hS (fun w => w.cell? ⟨b3, 0, none⟩ = some (.int .i64 r.o) ∧ w.cell? ⟨p, 2 + o, none⟩ = some (.int .i64 (cnt m.l o))) [11] wide_ rfl rfl fun w hS => zP (i := 0) 1 rfl rfl (by kernel_rfl) (fun _ => y_move rfl) (zP (i := 1) 3 rfl rfl (by kernel_rfl) (fun w => y_fld fl_48_0 rfl) (zP (i := 3) 11 rfl rfl (by kernel_rfl) (fun w => y_nil rfl) (zP (i := 4) 27 rfl rfl (by kernel_rfl) (fun w => y_fld fl_214_2 rfl) (zP (i := 8) 283 rfl rfl (by kernel_rfl) (fun w => y_nil rfl) (zP (i := 9) 795 rfl rfl (by kernel_rfl) (fun w => y_fld fl_214_2 rfl) (zD (i := 2) 799 rfl rfl (by kernel_rfl) ⟨hS.cell rfl, hS.cell (lc2 (by omega))⟩ (fun w hS => y_load pl_3 rfl hS.1) (zP (i := 5) 831 rfl rfl (by kernel_rfl) (fun w => (y_ixa_ar Tryz.underlying212 sz_3 rfl rfl (by omega) (by omega)).val (u := .pointer (some ⟨p, 2 + o, none⟩)) (congrArg (fun k => Value.pointer (some ⟨p, k, none⟩)) (by omega))) (zD (i := 6) 895 rfl rfl (by kernel_rfl) ⟨hS.cell rfl, hS.cell (lc2 (by omega))⟩ (fun w hS => y_load pl_3 rfl hS.2) (zP (i := 7) 1023 rfl rfl (by kernel_rfl) (fun w => (y_add rfl rfl (w64 (by omega) (by omega))).val (u := .int .i64 ((cnt m.l o + 1 : Nat) : Int)) (congrArg (Value.int .i64) (by omega))) (zP (i := 10) 2047 rfl rfl (by kernel_rfl) (fun w => (y_ixa_ar Tryz.underlying212 sz_3 rfl rfl (by omega) (by omega)).val (u := .pointer (some ⟨p, 2 + o, none⟩)) (congrArg (fun k => Value.pointer (some ⟨p, k, none⟩)) (by omega))) (zU (i := 11) 4095 rfl (by kernel_rfl) (a_store (j := 2 + o) sz_3 rfl rfl rfl (hS.pull [(p, .cells (lc m.clients (.slice sa xs.length sc) m.l).toArray 214)]) (by rw [lc_size]; omega) fun w hS => ?_))))))))))))))
          rw [ls2 (by omega) hro] at hS
          refine zE ⟨fun h => absurd (by decide) h, zH (by kernel_rfl) (zQ (zW hS (fun w => w.cell? ⟨p, 1, none⟩ = some (.slice sa xs.length sc) ∧ CellsAt w b3 0 [.int .i64 r.o, .int .i64 r.n, .slice ua r.ups.length uc]) [8, 11] wide_ rfl rfl fun w hS => zP (i := 0) 1 rfl rfl (by kernel_rfl) (fun _ => y_move rfl) (zP (i := 1) 3 rfl rfl (by kernel_rfl) (fun _ => y_move rfl) (zP (i := 2) 7 rfl rfl (by kernel_rfl) (fun w => y_nil rfl) (zP (i := 3) 15 rfl rfl (by kernel_rfl) (fun w => y_fld fl_214_1 rfl) (zD (i := 4) 31 rfl rfl (by kernel_rfl) ⟨hS.cell lc1, hS.cells rfl⟩ (fun w hS => y_load pl_32 rfl hS.1) (zD (i := 5) 63 rfl rfl (by kernel_rfl) ⟨hS.cell lc1, hS.cells rfl⟩ (fun w hS => (y_loadS st_48 sz_48 rfl hS.2 rfl).val (show _ = rvS r (.slice ua r.ups.length uc) from rfl)) (zU (i := 6) 127 rfl (by kernel_rfl) (wl_call (.cons rfl .nil) (rcopy_c r _ hul hu0 hS) rfl ?_)))))))))⟩
          rintro _ w ⟨M1, s1, rfl, hM1, hs1, hS⟩
          obtain ⟨sa1, sc1, rfl⟩ := (hs1.holds hS).slice
          refine zE ⟨fun _ _ => ⟨hS.cell lc1, hS.cells rfl⟩, zU (i := 7) 255 rfl (by kernel_rfl) (a_bslice encRV [⟨r.o, r.n, sa1, r.ups.length, sc1⟩] Tryz.underlying32 sz_48 z_48 rfl (.cons rfl .nil) rfl rfl rfl (by decide) hS rfl fun u Hu w hou hS => zE ⟨fun _ _ => ⟨hS.cell lc1, hS.cells rfl⟩, zU (i := 8) 511 rfl (by kernel_rfl) (a_append Tryz.underlying32 Tryz.underlying32 sz_48 z_48 rfl by_48 (by decide) rfl rfl ho (hou.holds hS) (hS.keep (T := Hs :: Hu :: [(p, .cells (lc m.clients (.slice sa xs.length sc) (m.l ++ [r])).toArray 214)] :: Ls)) (by simp; omega) rfl fun s2 H2 w ho2 hS => ?_)⟩)⟩
          obtain ⟨sa2, sc2, rfl⟩ := ho2.slice
          refine zE ⟨fun h => absurd (by decide) h, zP (i := 9) 1023 rfl rfl (by kernel_rfl) (fun w => y_nil rfl) (zP (i := 10) 2047 rfl rfl (by kernel_rfl) (fun w => y_fld fl_214_1 rfl) (zU (i := 11) 4095 rfl (by kernel_rfl) (a_store (j := 1) sz_32 rfl rfl rfl (hS.pull [(p, .cells (lc m.clients (.slice sa xs.length sc) (m.l ++ [r])).toArray 214)]) (by rw [lc_size]; omega) fun w hS => ?_)))⟩
          rw [ls1] at hS
          refine zE ⟨fun h => absurd (by decide) h, zH (by kernel_rfl) (zQ (zR (zA rfl rfl (zE (wc_ret (wret (vs := [_]) (.tmp rfl .nil) ?_))))))⟩
          first
          | exact ⟨M, _, Mle.refl _, rfl, hb0, hS.keep⟩
          | exact ⟨M1, _, hM1, rfl, ⟨_, _, _, ho2, (hr.mono hM1).append (.cons (x := ⟨r.o, r.n, sa1, r.ups.length, sc1⟩) (r := r) ⟨rfl, rfl, hs1, hul⟩ .nil), rfl⟩, hS.keep⟩
end
end Go.Proofs.YtndahppmjdbifaaGreatDoor.Seq
set_option linter.unusedVariables false
set_option linter.unusedSimpArgs false
namespace Go.Proofs.YtndahppmjdbifaaGreatDoor.Seq
open Go Go.Proofs Go.Proofs.YtndahppmjdbifaaGreatDoor.Eng Go.Proofs.YtndahppmjdbifaaGreatDoor.Pre Go.Proofs.YtndahppmjdbifaaGreatDoor.Val Go.Proofs.YtndahppmjdbifaaGreatDoor.Rou Go.Proofs.YtndahppmjdbifaaGreatDoor.Fra Go.Proofs.YtndahppmjdbifaaGreatDoor.Snd Go.Proofs.YtndahppmjdbifaaGreatDoor.Lnk Go.Proofs.YtndahppmjdbifaaGreatDoor.Jnl Go.Proofs.YtndahppmjdbifaaGreatDoor.Nod
section
variable {M : Mem} {w : World} {Ls : List Chunk}
theorem lgat_c {p : Nat} {m : Log} {H : Chunk} (i : Nat) (hb : IsLg M p m H) (hS : St M w (H :: Ls)) :
    CallsR Tryz.prog 159 [.pointer (some ⟨p, 0, none⟩), .int .i64 i].toArray w fun v w' => ∃ M' s', Mle M M' ∧ Rd M' encU s' ((m.l[i]?).getD ⟨0, 0, []⟩).ups ∧ v = .tuple [rvS ((m.l[i]?).getD ⟨0, 0, []⟩) s', .bool (decide (i < m.l.length))].toArray ∧ IsLg M' p m H ∧ St M' w' (H :: Ls) := by
  have hb0 := hb
  obtain ⟨xs, s, Hs, ho, hr, rfl⟩ := hb
  have hlen := hr.len
  obtain ⟨sa, sc, rfl⟩ := ho.slice
  replace hS := hS.un1
  refine calls_of (c := _) (rs := _) (n := 26) Tryz.func159 rfl rfl rfl rfl rfl (zQ (zR (a_alloc z_48 hS rfl fun b4 w hS => zA rfl rfl (zE (zQ (zQ (zR (zM rfl rfl (wl ((y_lss rfl rfl).val (u := .bool false) (congrArg Value.bool (decide_eq_false (by omega)))) rfl (zM rfl rfl (zI rfl rfl (zM rfl rfl (zI rfl rfl (zM rfl rfl (zI rfl rfl (zN rfl rfl (zI rfl rfl (zF fl_214_1 rfl rfl (zI rfl rfl (wl (y_load pl_32 rfl (hS.cell (v := .slice sa xs.length sc) lc1)) rfl (zI rfl rfl (wl (y_len_sl Tryz.underlying32 rfl) rfl (zI rfl rfl (wl (y_geq rfl rfl) rfl (wl (y_pickF rfl rfl) rfl (zE (wc_if rfl (fun hc16 => ?_) (fun hc16 => ?_))))))))))))))))))))))))))))
  · try simp only [zZ] at hc16
    have hn : m.l[i]? = none := List.getElem?_eq_none (by omega)
    rw [hn, decide_eq_false (by omega)]
    refine zQ (zR (wl (y_build (is := []) (xs := []) (out := [_, _, _]) plc_48 z_48 .nil rfl) rfl (a_storeS (vs := [_, _, _]) sz_48 rfl rfl rfl rfl hS (Nat.le_of_ble_eq_true rfl) fun w hS => zA rfl rfl (zE (wc_ret (wret (vs := [_, _]) (.cell rfl (loadVar_struct st_48 sz_48 (vs := [_, _, _]) rfl (hS.cells rfl)) (.tmp rfl .nil)) ?_))))))
    first
    | exact ⟨M, _, Mle.refl _, Rd.nil, rfl, hb0, hS.keep⟩
    | exact ⟨M', _, hM, hs', rfl, hb0.mono hM, hS.keep⟩
  · try simp only [zZ] at hc16
    obtain ⟨r, hri⟩ : ∃ r, m.l[i]? = some r := ⟨_, List.getElem?_eq_getElem (by omega)⟩
    rw [hri, decide_eq_true (by omega)]
    obtain ⟨x, hx, hxr⟩ := hr.at hri
    obtain ⟨bb, off, c', hse, hce⟩ := (ho.holds (hS.pull Hs)).at hx
    simp only [Value.slice.injEq] at hse
    have hSk := hS
    obtain ⟨rfl, _, rfl⟩ := hse
    replace hS := hSk
    refine zK (zQ (zR (zM rfl rfl (zN rfl rfl (zF fl_214_1 rfl rfl (wl (y_load pl_32 rfl (hS.cell (v := .slice _ xs.length _) lc1)) rfl (zM rfl rfl (wl (y_ixa_sl Tryz.underlying32 sz_48 rfl rfl (by omega) (by omega)) rfl (wl ((y_loadS st_48 sz_48 rfl (vs := encRV.f x) hce rfl).val hxr.val) rfl (wl_call (.cons rfl .nil) (rcopy_c r x.s hxr.2.2.2 hxr.2.2.1 hS) rfl ?_))))))))))
    rintro _ w ⟨M', s', rfl, hM, hs', hS⟩
    obtain ⟨sa', sc', rfl⟩ := (hs'.holds hS).slice
    refine a_storeS (vs := [_, _, _]) sz_48 rfl rfl rfl rfl hS (Nat.le_of_ble_eq_true rfl) fun w hS => zA rfl rfl (zE (wc_ret (wret (vs := [_, _]) (.cell rfl (loadVar_struct st_48 sz_48 (vs := [_, _, _]) rfl (hS.cells rfl)) (.tmp rfl .nil)) ?_)))
    first
    | exact ⟨M, _, Mle.refl _, Rd.nil, rfl, hb0, hS.keep⟩
    | exact ⟨M', _, hM, hs', rfl, hb0.mono hM, hS.keep⟩
theorem lgall_c {p : Nat} {m : Log} {H : Chunk} (hl : m.l.length ≤ 137438953472) (hb : IsLg M p m H) (hS : St M w (H :: Ls)) :
    CallsR Tryz.prog 116 [.pointer (some ⟨p, 0, none⟩)].toArray w fun v w' => ∃ M' ys H', Mle M M' ∧ Own 48 encRV v ys H' ∧ Rvs M' ys m.l ∧ IsLg M' p m H ∧ St M' w' (H' :: H :: Ls) := by
  have hb0 := hb
  obtain ⟨xs, s, Hs, ho, hr, rfl⟩ := hb
  have hlen := hr.len
  obtain ⟨sa, sc, rfl⟩ := ho.slice
  replace hS := hS.un1
  refine calls_of (c := _) (rs := _) (n := 22) Tryz.func116 rfl rfl rfl rfl rfl (zQ (zR (zA rfl rfl (zE (zQ (zR (zA rfl rfl (zE (zQ (zQ (zR (zM rfl rfl (zN rfl rfl (zF fl_214_1 rfl rfl (wl (y_load pl_32 rfl (hS.cell (v := .slice sa xs.length sc) lc1)) rfl (wl (y_len_sl Tryz.underlying32 rfl) rfl (zM rfl rfl (zE (zB (wc_loop (α := Nat × Value × Chunk × Mem × List RV) (fun ⟨i, s, H1, M1, ys⟩ => [(3, s), (9, .slice sa xs.length sc), (10, .int .i64 xs.length), (11, .int .i64 i)]) (fun ⟨i, s, H1, M1, ys⟩ w => i ≤ xs.length ∧ Mle M M1 ∧ Own 48 encRV s ys H1 ∧ ys.length ≤ i ∧ Rvs M1 ys (m.l.take i) ∧ St M1 w (H1 :: [(p, .cells (lc m.clients (.slice sa xs.length sc) m.l).toArray 214)] :: Hs :: Ls)) (fun ⟨i, _, _, _, _⟩ => xs.length - i) (0, .slice none 0 0, [], M, []) (sub_cons rfl (sub_cons rfl (sub_cons rfl (sub_cons rfl sub_nil)))) ⟨by omega, Mle.refl _, .nil, by simp, .nil, St.nil hS⟩ ?_))))))))))))))))))))
  clear hS
  rintro ⟨i, s, H1, M1, ys⟩ w ⟨hi, hM, hoy, hyl, hry, hS⟩
  refine zQ (zR (wl (y_lss rfl rfl) rfl (zE (zQ (wc_if rfl (fun hc12 => ?_) (fun hc12 => ?_))))))
  · try simp only [zZ] at hc12
    refine zK (zQ (zB (zQ ?_)))
    have hi' : i < xs.length := by omega
    obtain ⟨r, hri⟩ : ∃ r, m.l[i]? = some r := ⟨_, List.getElem?_eq_getElem (by omega)⟩
    obtain ⟨x, hx, hxr⟩ := (hr.mono hM).at hri
    obtain ⟨bb, off, c', hse, hce⟩ := (ho.holds (hS.pull Hs)).at hx
    simp only [Value.slice.injEq] at hse
    have hSk := hS
    obtain ⟨rfl, _, rfl⟩ := hse
    replace hS := hSk
    obtain ⟨ya, yc, rfl⟩ := hoy.slice
    have htk : m.l.take (i + 1) = m.l.take i ++ [r] := by rw [List.take_add_one, hri]; rfl
    refine zR (wl (y_ixa_sl Tryz.underlying32 sz_48 rfl rfl (by omega) (by omega)) rfl (wl ((y_loadS st_48 sz_48 rfl (vs := encRV.f x) hce rfl).val hxr.val) rfl (a_alloc z_48 hS rfl fun b5 w hS => a_storeS (vs := [_, _, _]) sz_48 rfl rfl rfl rfl hS (Nat.le_of_ble_eq_true rfl) fun w hS => zE (zR (zM rfl rfl (wl (y_loadS st_48 sz_48 rfl (hS.cells (vs := [_, _, _]) rfl) rfl) rfl (wl_call (.cons rfl .nil) (rcopy_c r x.s hxr.2.2.2 hxr.2.2.1 hS) rfl ?_)))))))
    rintro _ w ⟨M', s', rfl, hM', hs', hS⟩
    obtain ⟨sa', sc', rfl⟩ := (hs'.holds hS).slice
    refine a_bslice encRV [⟨r.o, r.n, sa', r.ups.length, sc'⟩] Tryz.underlying32 sz_48 z_48 rfl (.cons rfl .nil) rfl rfl rfl (by decide) hS rfl fun u Hu w hou hS => a_append Tryz.underlying32 Tryz.underlying32 sz_48 z_48 rfl by_48 (by decide) rfl rfl hoy (hou.holds hS) hS (by simp; omega) rfl fun s1 H2 w ho1 hS => ?_
    have hry2 : Rvs M' (ys ++ [⟨r.o, r.n, sa', r.ups.length, sc'⟩]) (m.l.take i ++ [r]) := (hry.mono hM').append (.cons ⟨rfl, rfl, hs', hxr.2.2.2⟩ .nil)
    rw [← htk] at hry2
    refine zA rfl rfl (zE (zR (wl (y_add rfl rfl (w64 (by omega) (by omega))) rfl (zM rfl rfl (zE ?_)))))
    exact ⟨(i + 1, _, H2, M', _), by simp only; omega, sub_cons rfl (sub_cons rfl (sub_cons rfl (sub_cons rfl sub_nil))), by omega, hM.trans hM', ho1, by simp; omega, hry2, hS.keep⟩
  · try simp only [zZ] at hc12
    obtain rfl : i = xs.length := by omega
    rw [hlen, List.take_length] at hry
    refine wc_exit (zQ (zR (zM rfl rfl (zA rfl rfl (zE (wc_ret (wret (vs := [_]) (.tmp rfl .nil) ?_)))))))
    exact ⟨M1, ys, H1, hM, hoy, hry, hb0.mono hM, hS.keep⟩
abbrev fdO (n : Nat) : Obj := .cells #[.int .i64 n] 216
theorem fdnew_c (hS : St M w Ls) : CallsR Tryz.prog 110 #[] w fun v w' => ∃ p, v = .pointer (some ⟨p, 0, none⟩) ∧ St M w' ([(p, fdO 0)] :: Ls) := by
  refine calls_of (c := _) (rs := _) (n := 3) Tryz.func110 rfl rfl rfl rfl rfl (zQ (zR (zA rfl rfl (zE (zQ (zR (wl (y_build (is := []) (xs := []) (out := [_]) plc_216 z_216 .nil rfl) rfl (a_box rfl hS rfl fun b2 w hS => zA rfl rfl (zE (wc_ret (wret (vs := [_]) (.tmp rfl .nil) ?_)))))))))))
  exact ⟨_, rfl, hS⟩
theorem fdreset_c {p n : Nat} (hS : St M w ([(p, fdO n)] :: Ls)) : CallsR Tryz.prog 112 [.pointer (some ⟨p, 0, none⟩)].toArray w fun v w' => v = .tuple #[] ∧ St M w' ([(p, fdO 0)] :: Ls) := by
  refine calls_of (c := _) (rs := _) (n := 5) Tryz.func112 rfl rfl rfl rfl rfl (zR (zM rfl rfl (zN rfl rfl (zF fl_216_0 rfl rfl (a_store sz_3 rfl rfl rfl hS (Nat.le_of_ble_eq_true rfl) fun w hS => zE (wretN (vs := []) .nil ?_))))))
  simp only [zL, cells_agg, setCells] at hS
  exact ⟨rfl, hS.keep⟩
theorem fdpump_c (hG : Bits M) {f p kp a : Nat} {m : Log} {k0 : Lnk} {Hl Hk : Chunk} (hk : k0.ok) (hl : m.l.length ≤ 137438953472) (hb : IsLg M p m Hl) (h2 : IsL kp k0 Hk) (hS : St M w ([(f, fdO a)] :: Hl :: Hk :: Ls)) :
    CallsR Tryz.prog 115 [.pointer (some ⟨f, 0, none⟩), .pointer (some ⟨p, 0, none⟩), .pointer (some ⟨kp, 0, none⟩)].toArray w fun v w' => ∃ M' H', Mle M M' ∧ v = .int .i64 ((offl (m.l.drop a) k0 a).2 - a : Nat) ∧ IsLg M' p m Hl ∧ IsL kp (offl (m.l.drop a) k0 a).1 H' ∧ St M' w' ([(f, fdO (offl (m.l.drop a) k0 a).2)] :: Hl :: H' :: Ls) := by
  refine calls_of (c := _) (rs := _) (n := 51) Tryz.func115 rfl rfl rfl rfl rfl (zQ (zR (zA rfl rfl (zE (zQ (zR (zA rfl rfl (zE (wc_cut (α := Mem × Chunk) (fun _ => [(7, .int .i64 ((offl (m.l.drop a) k0 a).2 - a : Nat))]) (fun ⟨M1, H1⟩ w => Mle M M1 ∧ IsLg M1 p m Hl ∧ IsL kp (offl (m.l.drop a) k0 a).1 H1 ∧ St M1 w ([(f, fdO (offl (m.l.drop a) k0 a).2)] :: Hl :: H1 :: Ls)) ?_ ?_)))))))))
  · skip
    refine wc_cut (α := Mem × Value × Nat) (fun ⟨_, _, b8⟩ => [(0, .pointer (some ⟨f, 0, none⟩)), (1, .pointer (some ⟨p, 0, none⟩)), (2, .pointer (some ⟨kp, 0, none⟩)), (7, .int .i64 0), (8, .pointer (some ⟨b8, 0, none⟩)), (9, .bool (decide (a < m.l.length)))]) (fun ⟨M1, s, b8⟩ w => Mle M M1 ∧ IsLg M1 p m Hl ∧ Rd M1 encU s (rn m.l a).ups ∧ St M1 w ([(b8, rndO (rn m.l a) s)] :: [(f, fdO a)] :: Hl :: Hk :: Ls)) ?_ ?_
    · skip
      refine zR (zM rfl rfl (zM rfl rfl (zN rfl rfl (zF fl_216_0 rfl rfl (wl (y_load pl_3 rfl (hS.cell (v := .int .i64 a) rfl)) rfl (wl_call (.cons rfl (.cons rfl .nil)) (lgat_c a hb (hS.pull Hl)) rfl ?_))))))
      rintro _ w ⟨M1, s1', hM1, hs1, rfl, h1', hS⟩
      obtain ⟨sa1, sc1, rfl⟩ := (hs1.holds hS).slice
      refine zM rfl rfl (zX (vs := [_, _]) rfl rfl rfl (zX (vs := [_, _]) rfl rfl rfl (a_alloc z_48 hS rfl fun b8 w hS => a_storeS (vs := [_, _, _]) sz_48 rfl rfl rfl rfl hS (Nat.le_of_ble_eq_true rfl) fun w hS => zA rfl rfl (zE ?_))))
      simp only [zL, cells_agg, setCells] at hS
      exact ⟨(M1, .slice sa1 _ sc1, b8), sub_cons rfl (sub_cons rfl (sub_cons rfl (sub_cons rfl (sub_cons rfl (sub_cons rfl sub_nil))))), hM1, h1', hs1, hS.keep⟩
    · skip
      clear hS
      rintro ⟨M1, s, b8⟩ w ⟨hM1, h1', hs1, hS⟩
      refine zB (wc_loop (α := Nat × Lnk × Mem × Value × Nat × Chunk) (fun ⟨n, _, _, _, b8, _⟩ => [(0, .pointer (some ⟨f, 0, none⟩)), (1, .pointer (some ⟨p, 0, none⟩)), (2, .pointer (some ⟨kp, 0, none⟩)), (7, .int .i64 (n - a : Nat)), (8, .pointer (some ⟨b8, 0, none⟩)), (9, .bool (decide (n < m.l.length)))]) (fun ⟨n, k, M1, s, b8, H1⟩ w => a ≤ n ∧ offl (m.l.drop a) k0 a = offl (m.l.drop n) k n ∧ k.ok ∧ Mle M M1 ∧ IsLg M1 p m Hl ∧ IsL kp k H1 ∧ Rd M1 encU s (rn m.l n).ups ∧ St M1 w ([(b8, rndO (rn m.l n) s)] :: [(f, fdO n)] :: Hl :: H1 :: Ls)) (fun ⟨n, _⟩ => m.l.length - n) (a, k0, M1, s, b8, Hk) (sub_cons rfl (sub_cons rfl (sub_cons rfl (sub_cons (congrArg (fun n : Nat => some (Value.int .i64 (n : Int))) (Nat.sub_self a).symm) (sub_cons rfl (sub_cons rfl sub_nil)))))) ⟨Nat.le_refl _, rfl, hk, hM1, h1', h2, hs1, hS⟩ ?_)
      clear hS h1' hs1 hM1 b8 s M1
      rintro ⟨n, k, M1, s, b8, H1⟩ w ⟨han, hq, hk1, hM1, h1', h2', hs1, hS⟩
      refine zQ (zQ (zR (zM rfl rfl (zE (wc_if rfl (fun hc21 => ?_) (fun hc21 => ?_))))))
      · try simp only [zZ] at hc21
        obtain ⟨r, hr⟩ : ∃ r, m.l[n]? = some r := ⟨_, List.getElem?_eq_getElem (by omega)⟩
        have hrn : rn m.l n = r := by unfold rn; rw [hr]; rfl
        rw [hrn] at hs1 hS
        obtain ⟨sa, sc, rfl⟩ := (hs1.holds hS).slice
        refine zK (zQ (zB (zQ (zR (wl ((y_loadS st_48 sz_48 rfl (vs := [.int .i64 r.o, .int .i64 r.n, .slice sa r.ups.length sc]) (hS.cells rfl) rfl).val (show _ = rvS r (.slice sa r.ups.length sc) from rfl)) rfl (wl_call (.cons rfl .nil) (rput_c (hG.mono hM1) r _ hs1 hS) rfl ?_))))))
        rintro _ w ⟨rfl, hS⟩
        rw [rputV_eq]
        refine zM rfl rfl (zX (vs := [_, _]) rfl rfl rfl (zX (vs := [_, _]) rfl rfl rfl (zA rfl rfl (zA rfl rfl (zE (zQ (zQ (zR (zM rfl rfl (zM rfl rfl (wl_call (.cons rfl (.cons rfl .nil)) (loffer_c (putB r) hk1 h2' (hS.pull H1)) rfl ?_)))))))))))
        rintro _ w ⟨H2, rfl, h3', hS⟩
        refine wl (y_neq rfl rfl) rfl (zE (wc_if rfl (fun hc39 => ?_) (fun hc39 => ?_)))
        · try simp only [zZ] at hc39
          replace hq := hq.trans (offl_stop (.inr (by omega)))
          have hkk : k.offer (putB r) = k := by unfold Lnk.offer Snd.offer; rw [if_neg (by omega)]
          rw [hkk] at h3'
          refine wc_exit ?_
          first
          | exact ⟨(M1, H2), by rw [hq]; exact sub_cons rfl sub_nil, hM1, h1', by rw [hq]; exact h3', by rw [hq]; exact hS.keep⟩
          | exact ⟨(M1, H1), by rw [hq]; exact sub_cons rfl sub_nil, hM1, h1', by rw [hq]; exact h2', by rw [hq]; exact hS.keep⟩
        · try simp only [zZ] at hc39
          replace hq := hq.trans (offl_step hr (by omega))
          refine zK (zQ (zR (zM rfl rfl (zN rfl rfl (zF fl_216_0 rfl rfl (wl (y_load pl_3 rfl (hS.cell (v := .int .i64 n) rfl)) rfl (wl ((y_add rfl rfl (w64 (by omega) (by omega))).val (u := .int .i64 ((n + 1 : Nat) : Int)) (congrArg (Value.int .i64) (by omega))) rfl (zN rfl rfl (zF fl_216_0 rfl rfl (a_store sz_3 rfl rfl rfl hS (Nat.le_of_ble_eq_true rfl) fun w hS => zE (zR (zM rfl rfl (wl ((y_add rfl rfl (w64 (by omega) (by omega))).val (u := .int .i64 ((n + 1 - a : Nat) : Int)) (congrArg (Value.int .i64) (by omega))) rfl (zA rfl rfl (zE (zQ (zQ (zR (wl ((y_loadS st_48 sz_48 rfl (vs := [.int .i64 r.o, .int .i64 r.n, .slice sa r.ups.length sc]) (hS.cells rfl) rfl).val (show _ = rvS r (.slice sa r.ups.length sc) from rfl)) rfl (zE (zR (a_alloc z_48 hS rfl fun b8 w hS => a_storeS (vs := [_, _, _]) sz_48 rfl rfl rfl rfl hS (Nat.le_of_ble_eq_true rfl) fun w hS => zE (zR (zM rfl rfl (zM rfl rfl (zN rfl rfl (zF fl_216_0 rfl rfl (wl (y_load pl_3 rfl (hS.cell (v := .int .i64 ((n + 1 : Nat) : Int)) rfl)) rfl (wl_call (.cons rfl (.cons rfl .nil)) (lgat_c (n + 1) h1' (hS.pull Hl)) rfl ?_)))))))))))))))))))))))))))))
          rintro _ w ⟨M2, s2', hM2, hs2, rfl, h1'', hS⟩
          obtain ⟨sa2, sc2, rfl⟩ := (hs2.holds hS).slice
          refine zM rfl rfl (zX (vs := [_, _]) rfl rfl rfl (zX (vs := [_, _]) rfl rfl rfl (a_storeS (vs := [_, _, _]) sz_48 rfl rfl rfl rfl hS (Nat.le_of_ble_eq_true rfl) fun w hS => zA rfl rfl (zE ?_))))
          simp only [zL, cells_agg, setCells] at hS
          exact ⟨(n + 1, k.offer (putB r), M2, .slice sa2 _ sc2, b8, H2), by simp only; omega, sub_cons rfl (sub_cons rfl (sub_cons rfl (sub_cons rfl (sub_cons rfl (sub_cons rfl sub_nil))))), by omega, hq, Lnk.offer_ok hk1 _, hM1.trans hM2, h1'', h3', hs2, hS.keep⟩
      · try simp only [zZ] at hc21
        replace hq := hq.trans (offl_stop (.inl (by omega)))
        refine wc_exit ?_
        first
        | exact ⟨(M1, H2), by rw [hq]; exact sub_cons rfl sub_nil, hM1, h1', by rw [hq]; exact h3', by rw [hq]; exact hS.keep⟩
        | exact ⟨(M1, H1), by rw [hq]; exact sub_cons rfl sub_nil, hM1, h1', by rw [hq]; exact h2', by rw [hq]; exact hS.keep⟩
  · skip
    clear hS
    rintro ⟨M1, H1⟩ w ⟨hM1, h1', h2', hS⟩
    refine zQ (zR (zM rfl rfl (zA rfl rfl (zE (wc_ret (wret (vs := [_]) (.tmp rfl .nil) ?_))))))
    exact ⟨M1, H1, hM1, rfl, h1', h2', hS⟩
end
end Go.Proofs.YtndahppmjdbifaaGreatDoor.Seq
set_option linter.unusedVariables false
set_option linter.unusedSimpArgs false
namespace Go.Proofs.YtndahppmjdbifaaGreatDoor.Seq
open Go Go.Proofs Go.Proofs.YtndahppmjdbifaaGreatDoor.Eng Go.Proofs.YtndahppmjdbifaaGreatDoor.Pre Go.Proofs.YtndahppmjdbifaaGreatDoor.Val Go.Proofs.YtndahppmjdbifaaGreatDoor.Rou Go.Proofs.YtndahppmjdbifaaGreatDoor.Fra Go.Proofs.YtndahppmjdbifaaGreatDoor.Snd Go.Proofs.YtndahppmjdbifaaGreatDoor.Lnk Go.Proofs.YtndahppmjdbifaaGreatDoor.Jnl Go.Proofs.YtndahppmjdbifaaGreatDoor.Nod
structure Peer where
  k : Lnk
  a : Nat
structure Sqr where
  c : Cfg
  lg : Log
  ps : List Peer
def Peer.fresh (c : Cfg) : Peer := ⟨Lnk.new 0 c.window c.window true, 0⟩
def Sqr.new (c : Cfg) : Sqr := ⟨c, Log.new c.clients, List.replicate c.clients.toNat (Peer.fresh c)⟩
def encPe : Enc (Nat × Nat) := ⟨2, fun x => [.pointer (some ⟨x.1, 0, none⟩), .pointer (some ⟨x.2, 0, none⟩)], fun _ => rfl, by simp [oneC]⟩
inductive IsPs : List (Nat × Nat) → List Peer → Chunk → Prop
  | nil : IsPs [] [] []
  | cons {kp fp : Nat} {q : Peer} {Hk H : Chunk} {xs : List (Nat × Nat)} {ps : List Peer} : IsL kp q.k Hk → IsPs xs ps H → IsPs ((kp, fp) :: xs) (q :: ps) ((fp, fdO q.a) :: (Hk ++ H))
theorem IsPs.len {xs : List (Nat × Nat)} {ps : List Peer} {H : Chunk} (h : IsPs xs ps H) : xs.length = ps.length := by
  induction h with
  | nil => rfl
  | cons _ _ ih => simp [ih]
theorem IsPs.focus {xs : List (Nat × Nat)} {ps : List Peer} {H : Chunk} (h : IsPs xs ps H) {i : Nat} {q : Peer} (hq : ps[i]? = some q) :
    ∃ kp fp Hk Hr, xs[i]? = some (kp, fp) ∧ IsL kp q.k Hk ∧ H.Perm ((fp, fdO q.a) :: (Hk ++ Hr)) ∧ ∀ (q' : Peer) (Hk' : Chunk), IsL kp q'.k Hk' → ∃ H', IsPs xs (ps.set i q') H' ∧ ((fp, fdO q'.a) :: (Hk' ++ Hr)).Perm H' := by
  induction h generalizing i with
  | nil => simp at hq
  | @cons kp fp q0 Hk H xs ps h1 h2 ih =>
    cases i with
    | zero =>
      simp only [List.getElem?_cons_zero, Option.some.injEq] at hq
      subst hq
      exact ⟨kp, fp, Hk, H, rfl, h1, .refl _, fun q' Hk' hk' => ⟨_, .cons hk' h2, .refl _⟩⟩
    | succ i =>
      obtain ⟨kp', fp', Hk', Hr, g1, g2, g3, g4⟩ := ih (i := i) (by simpa using hq)
      have key : ∀ (a b : Nat × Obj) (A B C : Chunk), (a :: (A ++ (b :: (B ++ C)))).Perm (b :: (B ++ (a :: (A ++ C)))) := by
        intro a b A B C
        have h1 : (a :: (A ++ (b :: (B ++ C)))) = (a :: A) ++ ((b :: B) ++ C) := by simp
        have h2 : (b :: (B ++ (a :: (A ++ C)))) = (b :: B) ++ ((a :: A) ++ C) := by simp
        rw [h1, h2, ← List.append_assoc, ← List.append_assoc]
        exact List.perm_append_comm.append_right C
      refine ⟨kp', fp', Hk', (fp, fdO q0.a) :: (Hk ++ Hr), by simpa using g1, g2, ?_, fun q' Hk2 hk' => ?_⟩
      · exact ((g3.append_left Hk).cons _).trans (key _ _ _ _ _)
      · obtain ⟨H', g5, g6⟩ := g4 q' Hk2 hk'
        exact ⟨_, .cons h1 g5, (key _ _ _ _ _).trans ((g6.append_left Hk).cons _)⟩
theorem IsPs.snoc {xs : List (Nat × Nat)} {ps : List Peer} {H : Chunk} (h : IsPs xs ps H) {kp fp : Nat} {q : Peer} {Hk : Chunk} (hk : IsL kp q.k Hk) :
    ∃ H', IsPs (xs ++ [(kp, fp)]) (ps ++ [q]) H' ∧ ((fp, fdO q.a) :: (Hk ++ H)).Perm H' := by
  induction h with
  | nil => exact ⟨_, .cons hk .nil, .refl _⟩
  | @cons kp0 fp0 q0 Hk0 H0 xs0 ps0 h1 h2 ih =>
    obtain ⟨H', g1, g2⟩ := ih
    refine ⟨_, .cons h1 g1, ?_⟩
    have h1 : ((fp, fdO q.a) :: (Hk ++ ((fp0, fdO q0.a) :: (Hk0 ++ H0)))) = ((fp, fdO q.a) :: Hk) ++ (((fp0, fdO q0.a) :: Hk0) ++ H0) := by simp
    have h2 : ((fp0, fdO q0.a) :: (Hk0 ++ ((fp, fdO q.a) :: (Hk ++ H0)))) = ((fp0, fdO q0.a) :: Hk0) ++ (((fp, fdO q.a) :: Hk) ++ H0) := by simp
    rw [h1]
    refine List.Perm.trans ?_ ((g2.append_left Hk0).cons _)
    rw [h2, ← List.append_assoc, ← List.append_assoc]
    exact List.perm_append_comm.append_right H0
theorem _root_.Go.Proofs.YtndahppmjdbifaaGreatDoor.Eng.St.swap {M : Mem} {w : World} {Ls : List Chunk} {A B : Chunk} (h : St M w (A :: Ls)) (hp : A.Perm B) : St M w (B :: Ls) := h.perm (by simpa using hp.append_right _)
theorem _root_.Go.Proofs.YtndahppmjdbifaaGreatDoor.Eng.St.mk2 {M : Mem} {w : World} {Ls : List Chunk} {A B : Chunk} {x : Nat × Obj} (h : St M w ([x] :: A :: B :: Ls)) : St M w ((x :: (A ++ B)) :: Ls) := h.perm (by simp)
abbrev cfgO (c : Cfg) : Obj := .cells #[.int .i64 c.clients, .int .i64 c.window, .int .i64 c.push, .int .i64 c.pull, .int .i64 c.mtu, .int .i64 c.last] 23
abbrev sqQ (c : Cfg) (lp : Nat) (s : Value) : Obj := .cells #[.int .i64 c.clients, .int .i64 c.window, .int .i64 c.push, .int .i64 c.pull, .int .i64 c.mtu, .int .i64 c.last, .pointer (some ⟨lp, 0, none⟩), s] 152
def IsQ (M : Mem) (p : Nat) (m : Sqr) (H : Chunk) : Prop :=
  ∃ lp xs s Hs Hp Hl, IsLg M lp m.lg Hl ∧ Own 157 encPe s xs Hs ∧ IsPs xs m.ps Hp ∧ H = (p, sqQ m.c lp s) :: (Hl ++ (Hs ++ Hp))
theorem IsQ.mono {M M' : Mem} {p : Nat} {m : Sqr} {H : Chunk} (h : IsQ M p m H) (hm : Mle M M') : IsQ M' p m H := by
  obtain ⟨lp, xs, s, Hs, Hp, Hl, h1, h2, h3, h4⟩ := h
  exact ⟨lp, xs, s, Hs, Hp, Hl, h1.mono hm, h2, h3, h4⟩
abbrev peO (kp fp : Nat) : Obj := .cells #[.pointer (some ⟨kp, 0, none⟩), .pointer (some ⟨fp, 0, none⟩)] 157
section
variable {M : Mem} {w : World} {Ls : List Chunk}
theorem qnew_c (c : Cfg) (hS : St M w Ls) :
    CallsR Tryz.prog 44 [cfgV c].toArray w fun v w' => (mayC c ≠ 0 ∧ v = .tuple [.pointer none, .int .i64 (mayC c)].toArray ∧ St M w' Ls) ∨ (mayC c = 0 ∧ ∃ p H, v = .tuple [.pointer (some ⟨p, 0, none⟩), .int .i64 0].toArray ∧ IsQ M p (Sqr.new c) H ∧ St M w' (H :: Ls)) := by
  refine calls_of (c := _) (rs := _) (n := 39) Tryz.func44 rfl rfl rfl rfl rfl (zQ (zR (a_box rfl hS rfl fun b1 w hS => zA rfl rfl (zA rfl rfl (zE (zQ (zQ (zR (wl ((y_loadS st_23 sz_23 rfl (vs := [.int .i64 c.clients, .int .i64 c.window, .int .i64 c.push, .int .i64 c.pull, .int .i64 c.mtu, .int .i64 c.last]) (hS.cells rfl) rfl).val (show _ = cfgV c from rfl)) rfl (wl_call (.cons rfl .nil) (smay_c c hS) rfl ?_))))))))))
  rintro _ w ⟨rfl, hS⟩
  refine zA rfl rfl (zE (zQ (zR (zM rfl rfl (wl (y_neq rfl rfl) rfl (zE (wc_if rfl (fun hc9 => ?_) (fun hc9 => ?_))))))))
  · try simp only [zZ] at hc9
    have hz : mayC c ≠ 0 := by omega
    refine zQ (zR (zM rfl rfl (zA rfl rfl (zA rfl rfl (zE (wc_ret (wret (vs := [_, _]) (.tmp rfl (.tmp rfl .nil)) ?_)))))))
    first
    | exact .inl ⟨hz, rfl, hS.keep⟩
    | exact .inr ⟨hz, _, _, rfl, ⟨lp, xs, s, Hs, Hp, Hl, hlg, ho, hps, rfl⟩, (by have h := hS.keep (T := ((b16, sqQ c lp s) :: (Hl ++ (Hs ++ Hp))) :: Ls); exact h)⟩
  · try simp only [zZ] at hc9
    have hz : mayC c = 0 := by omega
    have hcl : 1 ≤ c.clients ∧ c.clients ≤ 64 := by
      unfold mayC at hz
      split at hz
      · rename_i h; exact ⟨h.1, h.2.1⟩
      · omega
    refine zK (zQ (zW hS (fun w => CellsAt w b1 0 [.int .i64 c.clients, .int .i64 c.window, .int .i64 c.push, .int .i64 c.pull, .int .i64 c.mtu, .int .i64 c.last] ∧ w.cell? ⟨b1, 0, none⟩ = some (.int .i64 c.clients)) [4, 5] wide_ rfl rfl fun w hS => zP (i := 1) 2 rfl rfl (by kernel_rfl) (fun w => y_fld fl_23_0 rfl) (zD (i := 0) 3 rfl rfl (by kernel_rfl) ⟨hS.cells rfl, hS.cell rfl⟩ (fun w hS => y_loadS st_23 sz_23 rfl hS.1 rfl) (zD (i := 2) 7 rfl rfl (by kernel_rfl) ⟨hS.cells rfl, hS.cell rfl⟩ (fun w hS => y_load pl_3 rfl hS.2) (zU (i := 3) 15 rfl (by kernel_rfl) (wl_call (.cons rfl .nil) (lgnew_c c.clients hS) rfl ?_))))))
    rintro _ w ⟨lp, Hl, rfl, hlg, hS⟩
    refine zE ⟨fun _ _ => ⟨hS.cells rfl, hS.cell rfl⟩, zP (i := 4) 31 rfl rfl (by kernel_rfl) (fun w => y_build (is := [0, 1]) (xs := [_, _]) (out := [_, _, _, _, _, _, _, _]) plc_152 z_152 (.cons rfl (.cons rfl .nil)) rfl) (zU (i := 5) 63 rfl (by kernel_rfl) (a_box rfl hS rfl fun b16 w hS => zE ⟨fun _ _ => ⟨hS.cells rfl, hS.cell rfl⟩, zP (i := 6) 127 rfl rfl (by kernel_rfl) (fun w => y_assign rfl) (zH (by kernel_rfl) (zQ (zQ ?_)))⟩))⟩
    replace hS := (show St M w ([(b16, sqQ c lp (.slice none 0 0))] :: Hl :: [(b1, cfgO c)] :: Ls) from hS)
    refine zR (zF fl_23_0 rfl rfl (wl (y_load pl_3 rfl (hS.cell (v := .int .i64 c.clients) rfl)) rfl (zM rfl rfl (zE (zB (wc_loop (α := Nat × List (Nat × Nat) × Value × Chunk × Chunk) (fun ⟨i, _, _, _, _⟩ => [(1, .pointer (some ⟨b1, 0, none⟩)), (5, .pointer (some ⟨b16, 0, none⟩)), (18, .int .i64 c.clients), (19, .int .i64 i)]) (fun ⟨i, xs, s, Hs, Hp⟩ w => (i : Int) ≤ c.clients ∧ Own 157 encPe s xs Hs ∧ IsPs xs (List.replicate i (Peer.fresh c)) Hp ∧ St M w ([(b16, sqQ c lp s)] :: Hs :: Hp :: Hl :: [(b1, cfgO c)] :: Ls)) (fun ⟨i, _, _, _, _⟩ => c.clients.toNat - i) (0, [], .slice none 0 0, [], []) (sub_cons rfl (sub_cons rfl (sub_cons rfl (sub_cons rfl sub_nil)))) ⟨by omega, .nil, .nil, (St.nil (St.nil hS)).keep⟩ ?_))))))
    clear hS
    rintro ⟨i, xs, s, Hs, Hp⟩ w ⟨hi, ho, hps, hS⟩
    have hxl := hps.len
    rw [List.length_replicate] at hxl
    refine zQ (zR (wl (y_lss rfl rfl) rfl (zE (zQ (wc_if rfl (fun hc20 => ?_) (fun hc20 => ?_))))))
    · try simp only [zZ] at hc20
      refine zK (zQ (zB ?_))
      obtain ⟨sa, sc, rfl⟩ := ho.slice
      refine zW hS (fun w => w.cell? ⟨b16, 7, none⟩ = some (.slice sa xs.length sc) ∧ w.cell? ⟨b1, 1, none⟩ = some (.int .i64 c.window)) [13, 16] wide_ rfl rfl fun w hS => zP (i := 0) 1 rfl rfl (by kernel_rfl) (fun _ => y_move rfl) (zP (i := 1) 3 rfl rfl (by kernel_rfl) (fun _ => y_move rfl) (zP (i := 2) 7 rfl rfl (by kernel_rfl) (fun w => y_nil rfl) (zP (i := 3) 15 rfl rfl (by kernel_rfl) (fun w => y_fld fl_152_2 rfl) (zP (i := 5) 47 rfl rfl (by kernel_rfl) (fun w => y_fld fl_23_1 rfl) (zP (i := 7) 175 rfl rfl (by kernel_rfl) (fun w => y_fld fl_23_1 rfl) (zD (i := 4) 191 rfl rfl (by kernel_rfl) ⟨hS.cell rfl, hS.cell rfl⟩ (fun w hS => y_load pl_150 rfl hS.1) (zD (i := 6) 255 rfl rfl (by kernel_rfl) ⟨hS.cell rfl, hS.cell rfl⟩ (fun w hS => y_load pl_3 rfl hS.2) (zD (i := 8) 511 rfl rfl (by kernel_rfl) ⟨hS.cell rfl, hS.cell rfl⟩ (fun w hS => y_load pl_3 rfl hS.2) (zU (i := 9) 1023 rfl (by kernel_rfl) (wl_call (.cons rfl (.cons rfl (.cons rfl (.cons rfl .nil)))) (lnew_c 0 c.window c.window true hS) rfl ?_))))))))))
      rintro _ w ⟨kp, Hk, rfl, hk, hS⟩
      refine zE ⟨fun _ _ => ⟨hS.cell rfl, hS.cell rfl⟩, zU (i := 10) 2047 rfl (by kernel_rfl) (wl_call .nil (fdnew_c hS) rfl ?_)⟩
      rintro _ w ⟨fp, rfl, hS⟩
      refine zE ⟨fun _ _ => ⟨hS.cell rfl, hS.cell rfl⟩, zP (i := 11) 4095 rfl rfl (by kernel_rfl) (fun w => y_build (is := [0, 1]) (xs := [_, _]) (out := [_, _]) plc_157 z_157 (.cons rfl (.cons rfl .nil)) rfl) (zU (i := 12) 8191 rfl (by kernel_rfl) (a_bslice encPe [(kp, fp)] Tryz.underlying150 sz_157 z_157 rfl (.cons rfl .nil) rfl rfl rfl (by decide) hS rfl fun u Hu w hou hS => zE ⟨fun _ _ => ⟨hS.cell rfl, hS.cell rfl⟩, zU (i := 13) 16383 rfl (by kernel_rfl) (a_append Tryz.underlying150 Tryz.underlying150 sz_157 z_157 rfl by_157 (by decide) rfl rfl ho (hou.holds hS) (hS.keep (T := Hs :: Hu :: [(b16, sqQ c lp (.slice sa xs.length sc))] :: [(fp, fdO 0)] :: Hk :: Hp :: Hl :: [(b1, cfgO c)] :: Ls)) (by simp; omega) rfl fun s2 H2 w ho2 hS => ?_)⟩))⟩
      obtain ⟨sa2, sc2, rfl⟩ := ho2.slice
      obtain ⟨Hp2, hps2, hpm⟩ := hps.snoc (fp := fp) (q := Peer.fresh c) hk
      refine zE ⟨fun h => absurd (by decide) h, zP (i := 14) 32767 rfl rfl (by kernel_rfl) (fun w => y_nil rfl) (zP (i := 15) 65535 rfl rfl (by kernel_rfl) (fun w => y_fld fl_152_2 rfl) (zU (i := 16) 131071 rfl (by kernel_rfl) (a_store sz_150 rfl rfl rfl hS (Nat.le_of_ble_eq_true rfl) fun w hS => zE ⟨fun h => absurd (by decide) h, zH (by kernel_rfl) (zR (wl (y_add rfl rfl (w64 (by omega) (by omega))) rfl (zM rfl rfl (zE ?_))))⟩)))⟩
      simp only [zL, cells_agg, setCells] at hS
      have hS2 := ((hS.keep (T := [(fp, fdO 0)] :: Hk :: Hp :: H2 :: [(b16, sqQ c lp (.slice sa2 (xs ++ [(kp, fp)]).length sc2))] :: Hl :: [(b1, cfgO c)] :: Ls)).mk2).swap hpm
      exact ⟨(i + 1, _, .slice sa2 (xs ++ [(kp, fp)]).length sc2, H2, Hp2), by simp only; omega, sub_cons rfl (sub_cons rfl (sub_cons rfl (sub_cons rfl sub_nil))), by omega, ho2, by rw [List.replicate_succ']; exact hps2, hS2.keep⟩
    · try simp only [zZ] at hc20
      obtain rfl : i = c.clients.toNat := by omega
      refine wc_exit (zQ (zR (zM rfl rfl (zA rfl rfl (zA rfl rfl (zE (wc_ret (wret (vs := [_, _]) (.tmp rfl (.tmp rfl .nil)) ?_))))))))
      first
      | exact .inl ⟨hz, rfl, hS.keep⟩
      | exact .inr ⟨hz, _, _, rfl, ⟨lp, xs, s, Hs, Hp, Hl, hlg, ho, hps, rfl⟩, (by have h := hS.keep (T := ((b16, sqQ c lp s) :: (Hl ++ (Hs ++ Hp))) :: Ls); exact h)⟩
end
end Go.Proofs.YtndahppmjdbifaaGreatDoor.Seq
set_option linter.unusedVariables false
set_option linter.unusedSimpArgs false
namespace Go.Proofs.YtndahppmjdbifaaGreatDoor.Seq
open Go Go.Proofs Go.Proofs.YtndahppmjdbifaaGreatDoor.Eng Go.Proofs.YtndahppmjdbifaaGreatDoor.Pre Go.Proofs.YtndahppmjdbifaaGreatDoor.Val Go.Proofs.YtndahppmjdbifaaGreatDoor.Rou Go.Proofs.YtndahppmjdbifaaGreatDoor.Fra Go.Proofs.YtndahppmjdbifaaGreatDoor.Snd Go.Proofs.YtndahppmjdbifaaGreatDoor.Lnk Go.Proofs.YtndahppmjdbifaaGreatDoor.Jnl Go.Proofs.YtndahppmjdbifaaGreatDoor.Nod
def Log.hear1 (m : Log) (frm mtu : Int) (d : ByteArray) : Log := if gre d = 0 ∧ (grr d).o = frm ∧ fits (grr d).ups mtu = true then m.add (grr d) else m
def Log.hearL (m : Log) (frm mtu : Int) : List ByteArray → Log
  | [] => m
  | d :: l => (m.hear1 frm mtu d).hearL frm mtu l
theorem Log.hearL_app (m : Log) (frm mtu : Int) (l k : List ByteArray) : m.hearL frm mtu (l ++ k) = (m.hearL frm mtu l).hearL frm mtu k := by
  induction l generalizing m with
  | nil => rfl
  | cons d l ih => exact ih _
theorem Log.hear1_len (m : Log) (frm mtu : Int) (d : ByteArray) : (m.hear1 frm mtu d).l.length ≤ m.l.length + 1 := by
  unfold Log.hear1 Log.add
  split
  · split <;> simp
  · omega
theorem Log.hearL_len (m : Log) (frm mtu : Int) (l : List ByteArray) : (m.hearL frm mtu l).l.length ≤ m.l.length + l.length := by
  induction l generalizing m with
  | nil => simp [Log.hearL]
  | cons d l ih => simp only [Log.hearL, List.length_cons]; have := ih (m.hear1 frm mtu d); have := Log.hear1_len m frm mtu d; omega
def Sqr.peer (m : Sqr) (frm : Int) : Peer := (m.ps[(frm - 1).toNat]?).getD ⟨Lnk.new 0 1 1 true, 0⟩
@[irreducible] def Sqr.hearE (m : Sqr) (frm : Int) (b : ByteArray) : Nat := if ¬ (1 ≤ frm ∧ frm ≤ m.c.clients) then 11 else if fgetE b ≠ 0 then fgetE b else if (fget b).ep < (m.peer frm).k.ep then 9 else 0
def Peer.hear (q : Peer) (f : Frm) : Peer := ⟨(q.k.hear f).pops (q.k.hear f).r.wait, if q.k.anew f then 0 else q.a⟩
def Sqr.hear (m : Sqr) (frm : Int) (b : ByteArray) : Sqr := if m.hearE frm b = 0 then ⟨m.c, m.lg.hearL frm m.c.mtu ((m.peer frm).k.hear (fget b)).r.came, m.ps.set (frm - 1).toNat ((m.peer frm).hear (fget b))⟩ else m
section
variable {M : Mem} {w : World} {Ls : List Chunk}
theorem qhear_c (hG : Bits M) (frm : Int) (b : ByteArray) {p : Nat} {m : Sqr} {H : Chunk} (hps : m.ps.length = m.c.clients.toNat) (hcl : m.c.clients ≤ 64) (hmt : -9223372036854775000 ≤ m.c.mtu ∧ m.c.mtu ≤ 9223372036854775807) (hll : m.lg.l.length ≤ 137438953000) (hok : ∀ q ∈ m.ps, q.k.ok) (hbz : b.size ≤ 140737488351232) (hk1 : ∀ q ∈ m.ps, (q.k.hear (fget b)).ok) (hd : ∀ q ∈ m.ps, ∀ d ∈ (q.k.hear (fget b)).r.all, d.size ≤ 140737488351232) (hb : IsQ M p m H) (hS : St M w (H :: Ls)) :
    CallsR Tryz.prog 45 [.pointer (some ⟨p, 0, none⟩), .int .i64 frm, .string b].toArray w fun v w' => ∃ M' H', Mle M M' ∧ v = .int .i64 (m.hearE frm b) ∧ IsQ M' p (m.hear frm b) H' ∧ St M' w' (H' :: Ls) := by
  have hb0 := hb
  obtain ⟨lp, xs, s, Hs, Hp, Hl, h1, h2, h3, rfl⟩ := hb
  have hS0 := hS
  replace hS := hS.un3
  obtain ⟨sa, sc, rfl⟩ := h2.slice
  have hxl := h3.len
  have hq0 : m.hearE frm b ≠ 0 → m.hear frm b = m := fun h => by unfold Sqr.hear; rw [if_neg h]
  refine calls_of (c := _) (rs := _) (n := 93) Tryz.func45 rfl rfl rfl rfl rfl (zQ (zR (zA rfl rfl (zE (zQ (zQ (zR (zM rfl rfl (zM rfl rfl (zN rfl rfl (zF fl_152_0 rfl rfl (zF fl_23_0 rfl rfl (wl (y_load pl_3 rfl (hS.cell rfl)) rfl (wl_call (.cons rfl (.cons rfl (.cons rfl .nil))) (sin_c frm 1 m.c.clients hS) rfl ?_))))))))))))))
  rintro _ w ⟨rfl, hS⟩
  refine wl (y_not rfl) rfl (zE (wc_if rfl (fun hc21 => ?_) (fun hc21 => ?_)))
  · try simp only [zZ] at hc21
    have he : m.hearE frm b = 11 := by unfold Sqr.hearE; rw [if_pos (by omega)]
    rw [hq0 (by omega), he]
    refine zQ (zR (zA rfl rfl (zE (wc_ret (wret (vs := [_]) (.tmp rfl .nil) ?_)))))
    first
    | exact ⟨M, _, Mle.refl _, rfl, hb0, (by have h := hS.keep (T := ((p, sqQ m.c lp (.slice sa xs.length sc)) :: (Hl ++ (Hs ++ Hp))) :: Ls); exact h)⟩
    | (have hS2 := (hS.keep (T := [(fp, fdO q.a)] :: Hk :: Hr :: [(p, sqQ m.c lp (.slice (some ⟨bb, off, none⟩) xs.length sc))] :: Hl :: Hs :: Ls)).mk2.swap hpm.symm
       exact ⟨M, _, Mle.refl _, rfl, hb0, (by have h := hS2.keep (T := ((p, sqQ m.c lp (.slice (some ⟨bb, off, none⟩) xs.length sc)) :: (Hl ++ (Hs ++ Hp))) :: Ls); exact h)⟩)
    | (obtain ⟨Hp2, hps2, hpm2⟩ := hback (q.hear (fget b)) H1 (by rw [hqk]; exact hk1)
       have hS2 := (hS.keep (T := [(fp, fdO (q.hear (fget b)).a)] :: H1 :: Hr :: [(p, sqQ m.c lp (.slice (some ⟨bb, off, none⟩) xs.length sc))] :: H2 :: Hs :: Ls)).mk2.swap hpm2
       exact ⟨M1, _, hM, rfl, ⟨lp, xs, _, Hs, Hp2, H2, h1, h2, hps2, rfl⟩, (by have h := hS2.keep (T := ((p, sqQ m.c lp (.slice (some ⟨bb, off, none⟩) xs.length sc)) :: (H2 ++ (Hs ++ Hp2))) :: Ls); exact h)⟩)
  · try simp only [zZ] at hc21
    have hr : 1 ≤ frm ∧ frm ≤ m.c.clients := by omega
    obtain ⟨i, hi⟩ : ∃ i : Nat, frm = (i : Int) + 1 := ⟨(frm - 1).toNat, by omega⟩
    have hit : (frm - 1).toNat = i := by omega
    obtain ⟨q, hqi⟩ : ∃ q, m.ps[i]? = some q := ⟨_, List.getElem?_eq_getElem (by omega)⟩
    have hpe : m.peer frm = q := by unfold Sqr.peer; rw [hit, hqi]; rfl
    have hqm := List.mem_of_getElem? hqi
    obtain ⟨kp, fp, Hk, Hr, hxi, hkq, hpm, hback⟩ := h3.focus hqi
    have hek := hok q hqm
    have hek1 := hk1 q hqm
    have hda := hd q hqm
    have he : m.hearE frm b = if fgetE b ≠ 0 then fgetE b else if (fget b).ep < q.k.ep then 9 else 0 := by unfold Sqr.hearE; rw [if_neg (by omega), hpe]
    clear hok hk1 hd
    refine zK (zQ (zR (zM rfl rfl (wl_call (.cons rfl .nil) (fget_c hG b hbz hS) rfl ?_))))
    rintro _ w ⟨rfl, hS⟩
    refine zM rfl rfl (zX (vs := [_, _]) rfl rfl rfl (zX (vs := [_, _]) rfl rfl rfl (a_alloc z_42 hS rfl fun b7 w hS => a_storeS (vs := [_, _, _, _]) sz_42 rfl rfl rfl rfl hS (Nat.le_of_ble_eq_true rfl) fun w hS => zA rfl rfl (zE (zQ (zQ (zR (zM rfl rfl (wl (y_neq rfl rfl) rfl (zE (wc_if rfl (fun hc28 => ?_) (fun hc28 => ?_))))))))))))
    · try simp only [zZ] at hc28
      rw [if_pos (by omega)] at he
      rw [hq0 (by omega), he]
      refine zQ (zR (zM rfl rfl (zA rfl rfl (zE (wc_ret (wret (vs := [_]) (.tmp rfl .nil) ?_))))))
      first
      | exact ⟨M, _, Mle.refl _, rfl, hb0, (by have h := hS.keep (T := ((p, sqQ m.c lp (.slice sa xs.length sc)) :: (Hl ++ (Hs ++ Hp))) :: Ls); exact h)⟩
      | (have hS2 := (hS.keep (T := [(fp, fdO q.a)] :: Hk :: Hr :: [(p, sqQ m.c lp (.slice (some ⟨bb, off, none⟩) xs.length sc))] :: Hl :: Hs :: Ls)).mk2.swap hpm.symm
         exact ⟨M, _, Mle.refl _, rfl, hb0, (by have h := hS2.keep (T := ((p, sqQ m.c lp (.slice (some ⟨bb, off, none⟩) xs.length sc)) :: (Hl ++ (Hs ++ Hp))) :: Ls); exact h)⟩)
      | (obtain ⟨Hp2, hps2, hpm2⟩ := hback (q.hear (fget b)) H1 (by rw [hqk]; exact hk1)
         have hS2 := (hS.keep (T := [(fp, fdO (q.hear (fget b)).a)] :: H1 :: Hr :: [(p, sqQ m.c lp (.slice (some ⟨bb, off, none⟩) xs.length sc))] :: H2 :: Hs :: Ls)).mk2.swap hpm2
         exact ⟨M1, _, hM, rfl, ⟨lp, xs, _, Hs, Hp2, H2, h1, h2, hps2, rfl⟩, (by have h := hS2.keep (T := ((p, sqQ m.c lp (.slice (some ⟨bb, off, none⟩) xs.length sc)) :: (H2 ++ (Hs ++ Hp2))) :: Ls); exact h)⟩)
    · try simp only [zZ] at hc28
      rw [if_neg (by omega)] at he
      refine zK (zQ ?_)
      obtain ⟨bb, off, c', hse, hce⟩ := (h2.holds (hS.pull Hs)).at hxi
      simp only [Value.slice.injEq] at hse
      have hSk := hS
      obtain ⟨rfl, _, rfl⟩ := hse
      replace hS := hSk
      refine zR (zM rfl rfl (zN rfl rfl (zF fl_152_2 rfl rfl (wl (y_load pl_150 rfl (hS.cell (v := .slice _ xs.length _) rfl)) rfl (zM rfl rfl (wl ((y_sub rfl rfl (w64 (by omega) (by omega))).val (u := .int .i64 i) (congrArg (Value.int .i64) (by omega))) rfl (wl (y_ixa_sl Tryz.underlying150 sz_157 rfl rfl (by omega) (by omega)) rfl (wl (y_loadS st_157 sz_157 rfl (vs := encPe.f (kp, fp)) hce rfl) rfl (a_alloc z_157 hS rfl fun b9 w hS => a_storeS (vs := [_, _]) sz_157 rfl rfl rfl rfl hS (Nat.le_of_ble_eq_true rfl) fun w hS => zE (zQ (zQ ?_)))))))))))
      replace hS := ((hS.pull Hp).swap hpm).un2
      replace hS := (show St M w ([(fp, fdO q.a)] :: Hk :: Hr :: [(b9, peO kp fp)] :: [(b7, .cells #[.int .i64 (fget b).ep, .int .i64 (fget b).seq, .int .i64 (fget b).ack, .string (fget b).data] 42)] :: [(p, sqQ m.c lp (.slice (some ⟨bb, off, none⟩) xs.length sc))] :: Hl :: Hs :: Ls) from hS)
      refine zW hS (fun w => w.cell? ⟨b7, 0, none⟩ = some (.int .i64 (fget b).ep) ∧ w.cell? ⟨b9, 0, none⟩ = some (.pointer (some ⟨kp, 0, none⟩))) [] wide_ rfl rfl fun w hS => zP (i := 0) 1 rfl rfl (by kernel_rfl) (fun w => y_fld fl_42_0 rfl) (zP (i := 2) 5 rfl rfl (by kernel_rfl) (fun w => y_fld fl_157_0 rfl) (zD (i := 1) 7 rfl rfl (by kernel_rfl) ⟨hS.cell rfl, hS.cell rfl⟩ (fun w hS => y_load pl_3 rfl hS.1) (zD (i := 3) 15 rfl rfl (by kernel_rfl) ⟨hS.cell rfl, hS.cell rfl⟩ (fun w hS => y_load pl_94 rfl hS.2) (zU (i := 4) 31 rfl (by kernel_rfl) (wl_call (.cons rfl .nil) (lepoch_c hkq (hS.pull Hk)) rfl ?_)))))
      rintro _ w ⟨rfl, hS⟩
      refine zE ⟨fun _ _ => ⟨hS.cell rfl, hS.cell rfl⟩, zP (i := 5) 63 rfl rfl (by kernel_rfl) (fun w => y_lss rfl rfl) (zH (by kernel_rfl) (wc_if rfl (fun hc43 => ?_) (fun hc43 => ?_)))⟩
      · try simp only [zZ] at hc43
        rw [if_pos (by omega)] at he
        rw [hq0 (by omega), he]
        refine zQ (zR (zA rfl rfl (zE (wc_ret (wret (vs := [_]) (.tmp rfl .nil) ?_)))))
        first
        | exact ⟨M, _, Mle.refl _, rfl, hb0, (by have h := hS.keep (T := ((p, sqQ m.c lp (.slice sa xs.length sc)) :: (Hl ++ (Hs ++ Hp))) :: Ls); exact h)⟩
        | (have hS2 := (hS.keep (T := [(fp, fdO q.a)] :: Hk :: Hr :: [(p, sqQ m.c lp (.slice (some ⟨bb, off, none⟩) xs.length sc))] :: Hl :: Hs :: Ls)).mk2.swap hpm.symm
           exact ⟨M, _, Mle.refl _, rfl, hb0, (by have h := hS2.keep (T := ((p, sqQ m.c lp (.slice (some ⟨bb, off, none⟩) xs.length sc)) :: (Hl ++ (Hs ++ Hp))) :: Ls); exact h)⟩)
        | (obtain ⟨Hp2, hps2, hpm2⟩ := hback (q.hear (fget b)) H1 (by rw [hqk]; exact hk1)
           have hS2 := (hS.keep (T := [(fp, fdO (q.hear (fget b)).a)] :: H1 :: Hr :: [(p, sqQ m.c lp (.slice (some ⟨bb, off, none⟩) xs.length sc))] :: H2 :: Hs :: Ls)).mk2.swap hpm2
           exact ⟨M1, _, hM, rfl, ⟨lp, xs, _, Hs, Hp2, H2, h1, h2, hps2, rfl⟩, (by have h := hS2.keep (T := ((p, sqQ m.c lp (.slice (some ⟨bb, off, none⟩) xs.length sc)) :: (H2 ++ (Hs ++ Hp2))) :: Ls); exact h)⟩)
      · try simp only [zZ] at hc43
        rw [if_neg (by omega)] at he
        have hq : m.hear frm b = ⟨m.c, m.lg.hearL frm m.c.mtu (q.k.hear (fget b)).r.came, m.ps.set i (q.hear (fget b))⟩ := by unfold Sqr.hear; rw [if_pos he, hpe, hit]
        rw [hq, he]
        refine zK (wc_cut (α := Chunk) (fun _ => [(0, .pointer (some ⟨p, 0, none⟩)), (1, .int .i64 frm), (9, .pointer (some ⟨b9, 0, none⟩))]) (fun Hk1 w => IsL kp (q.k.hear (fget b)) Hk1 ∧ St M w ([(b9, peO kp fp)] :: [(p, sqQ m.c lp (.slice (some ⟨bb, off, none⟩) xs.length sc))] :: Hl :: Hs :: [(fp, fdO (q.hear (fget b)).a)] :: Hk1 :: Hr :: Ls)) ?_ ?_)
        · skip
          refine zQ (zR (zF fl_157_0 rfl rfl (wl (y_load pl_94 rfl (hS.cell (v := .pointer (some ⟨kp, 0, none⟩)) rfl)) rfl (wl ((y_loadS st_42 sz_42 rfl (vs := encF.f (fget b)) (hS.cells rfl) rfl).val (show _ = fv (fget b) from rfl)) rfl (wl_call (.cons rfl (.cons rfl .nil)) (lhear_c (fget b) hek hkq (hS.pull Hk)) rfl ?_)))))
          rintro _ w ⟨Hk1, rfl, hk1, hS⟩
          refine zE (wc_if rfl (fun hc47 => ?_) (fun hc47 => ?_))
          · try simp only [zZ] at hc47
            have hqa : (q.hear (fget b)).a = 0 := by unfold Peer.hear; simp only; rw [if_pos hc47]
            rw [hqa]
            refine zR (zF fl_157_1 rfl rfl (wl (y_load pl_154 rfl (hS.cell (v := .pointer (some ⟨fp, 0, none⟩)) rfl)) rfl (wl_call (.cons rfl .nil) (fdreset_c (hS.pull [(fp, fdO q.a)])) rfl ?_)))
            rintro _ w ⟨rfl, hS⟩
            refine zE ?_
            exact ⟨Hk1, sub_cons rfl (sub_cons rfl (sub_cons rfl sub_nil)), hk1, hS.keep⟩
          · try simp only [zZ] at hc47
            have hqa : (q.hear (fget b)).a = q.a := by unfold Peer.hear; simp only; rw [if_neg (by simp [hc47])]
            rw [hqa]
            refine zK ?_
            exact ⟨Hk1, sub_cons rfl (sub_cons rfl (sub_cons rfl sub_nil)), hk1, hS.keep⟩
        · skip
          clear hS
          rintro Hk1 w ⟨hk1, hS⟩
          generalize hkh : q.k.hear (fget b) = k1 at hk1 hek1 hda hq
          have hcl1 := Rcv.came_length k1.r
          have hw16 : k1.r.wait ≤ 16 := by have := hek1.2.2; unfold Rcv.ok at this; omega
          have hdc : ∀ d ∈ k1.r.came, d.size ≤ 140737488351232 := fun d hd' => hda d (List.mem_of_mem_drop hd')
          have hpv := fun i => Lnk.pops_popV k1 i hek1
          have hqk : (q.hear (fget b)).k = k1.pops k1.r.wait := by unfold Peer.hear; simp only [hkh]
          refine zQ (zQ (zR (zF fl_157_0 rfl rfl (wl (y_load pl_94 rfl (hS.cell (v := .pointer (some ⟨kp, 0, none⟩)) rfl)) rfl (wl_call (.cons rfl .nil) (lpop_c hek1 hk1 (hS.pull Hk1)) rfl ?_)))))
          rintro _ w ⟨Hk2, rfl, hk2, hS⟩
          rw [← Lnk.pops_0 k1, Lnk.pops_pop] at hk2
          rw [show k1.r.popV = (k1.pops 0).r.popV by rw [Lnk.pops_0], hpv 0]
          refine zM rfl rfl (zX (vs := [_, _]) rfl rfl rfl (zX (vs := [_, _]) rfl rfl rfl (zA rfl rfl (zA rfl rfl (zE (zB (wc_loop (α := Nat × Mem × Chunk × Chunk) (fun ⟨i, _, _, _⟩ => [(0, .pointer (some ⟨p, 0, none⟩)), (1, .int .i64 frm), (9, .pointer (some ⟨b9, 0, none⟩)), (10, .string (Rcv.pd k1.r i)), (11, .bool (decide (i < k1.r.wait)))]) (fun ⟨i, M1, H1, H2⟩ w => i ≤ k1.r.wait ∧ Mle M M1 ∧ IsL kp (k1.pops (i + 1)) H1 ∧ IsLg M1 lp (m.lg.hearL frm m.c.mtu (k1.r.came.take i)) H2 ∧ St M1 w ([(b9, peO kp fp)] :: [(p, sqQ m.c lp (.slice (some ⟨bb, off, none⟩) xs.length sc))] :: H2 :: H1 :: Hs :: [(fp, fdO (q.hear (fget b)).a)] :: Hr :: Ls)) (fun ⟨i, _, _, _⟩ => k1.r.wait - i) (0, M, Hk2, Hl) (sub_cons rfl (sub_cons rfl (sub_cons rfl (sub_cons rfl (sub_cons rfl sub_nil))))) ⟨by omega, Mle.refl _, hk2, h1, hS.keep⟩ ?_)))))))
          clear hS hk1 h1 hk2
          rintro ⟨i, M1, H1, H2⟩ w ⟨hi, hM, hk1, h1, hS⟩
          refine zQ (zQ (zR (zM rfl rfl (zE (wc_if rfl (fun hc57 => ?_) (fun hc57 => ?_))))))
          · try simp only [zZ] at hc57
            obtain ⟨d, hdi⟩ : ∃ d, k1.r.came[i]? = some d := ⟨_, List.getElem?_eq_getElem (by omega)⟩
            have hpd : Rcv.pd k1.r i = d := by unfold Rcv.pd; rw [hdi]; rfl
            have hdz := hdc d (List.mem_of_getElem? hdi)
            have htk : k1.r.came.take (i + 1) = k1.r.came.take i ++ [d] := by rw [List.take_add_one, hdi]; rfl
            have hT : m.lg.hearL frm m.c.mtu (k1.r.came.take (i + 1)) = (m.lg.hearL frm m.c.mtu (k1.r.came.take i)).hear1 frm m.c.mtu d := by rw [htk, Log.hearL_app]; rfl
            have hKl := Log.hearL_len m.lg frm m.c.mtu (k1.r.came.take i)
            have hul := grr_ups d (by omega)
            simp only [List.length_take] at hKl
            refine zK (zQ (zB (zQ (zR (wl ((y_move rfl).val (congrArg Value.string hpd)) rfl (wl_call (.cons rfl .nil) (rget_c (hG.mono hM) d (by omega) hS) rfl ?_))))))
            rintro _ w ⟨M2, s2, rfl, hM2, hs2, hS⟩
            obtain ⟨sa2, sc2, rfl⟩ := (hs2.holds hS).slice
            refine zM rfl rfl (zX (vs := [_, _]) rfl rfl rfl (zX (vs := [_, _]) rfl rfl rfl (a_alloc z_48 hS rfl fun b12 w hS => a_storeS (vs := [_, _, _]) sz_48 rfl rfl rfl rfl hS (Nat.le_of_ble_eq_true rfl) fun w hS => zA rfl rfl (zE (zQ (zW hS (fun w => w.cell? ⟨b12, 0, none⟩ = some (.int .i64 (grr d).o) ∧ w.cell? ⟨b12, 2, none⟩ = some (.slice sa2 (grr d).ups.length sc2) ∧ w.cell? ⟨p, 4, none⟩ = some (.int .i64 m.c.mtu)) [] wide_ rfl rfl fun w hS => zP (i := 0) 1 rfl rfl (by kernel_rfl) (fun _ => y_move rfl) (zP (i := 1) 3 rfl rfl (by kernel_rfl) (fun w => y_eql rfl rfl) (zP (i := 2) 7 rfl rfl (by kernel_rfl) (fun _ => y_move rfl) (dr_cases (s := 71) rfl (fun hg71 => ?_) (fun hg71 => ?_))))))))))
            · try simp only [zZ] at hg71
              refine dr_pureG (i := 3) (lb 18 15) rfl rfl (by kernel_rfl) rfl rfl (fun w => y_fld fl_48_0 rfl) (dr_pureG (i := 5) (lb 18 47) rfl rfl (by kernel_rfl) rfl rfl (fun _ => y_move rfl) (dr_readG (i := 4) (lb 18 63) rfl rfl (by kernel_rfl) rfl rfl ⟨hS.cell rfl, hS.cell rfl, hS.cell rfl⟩ (fun w hS => y_load pl_3 rfl hS.1) (dr_pureG (i := 6) (lb 18 127) rfl rfl (by kernel_rfl) rfl rfl (fun w => y_eql rfl rfl) (zP (i := 7) 255 rfl rfl (by kernel_rfl) (fun w => y_pickT rfl rfl) (zP (i := 8) 511 rfl rfl (by kernel_rfl) (fun _ => y_move rfl) (dr_cases (s := 77) rfl (fun hg77 => ?_) (fun hg77 => ?_)))))))
              · try simp only [zZ] at hg77
                refine dr_pureG (i := 9) (lb 18 1023) rfl rfl (by kernel_rfl) rfl rfl (fun w => y_fld fl_48_2 rfl) (dr_pureG (i := 11) (lb 18 3071) rfl rfl (by kernel_rfl) rfl rfl (fun _ => y_move rfl) (dr_pureG (i := 12) (lb 18 7167) rfl rfl (by kernel_rfl) rfl rfl (fun w => y_nil rfl) (dr_pureG (i := 13) (lb 18 15359) rfl rfl (by kernel_rfl) rfl rfl (fun w => y_fld fl_152_0 rfl) (dr_pureG (i := 14) (lb 18 31743) rfl rfl (by kernel_rfl) rfl rfl (fun w => y_fld fl_23_4 rfl) (dr_readG (i := 10) (lb 18 32767) rfl rfl (by kernel_rfl) rfl rfl ⟨hS.cell rfl, hS.cell rfl, hS.cell rfl⟩ (fun w hS => y_load pl_46 rfl hS.2.1) (dr_readG (i := 15) (lb 18 65535) rfl rfl (by kernel_rfl) rfl rfl ⟨hS.cell rfl, hS.cell rfl, hS.cell rfl⟩ (fun w hS => y_load pl_3 rfl hS.2.2) (zU (i := 16) 131071 rfl (by kernel_rfl) (zI rfl rfl (wl_call (.cons rfl (.cons rfl .nil)) (fits_c ((hG.mono hM).mono hM2) (grr d).ups m.c.mtu _ hmt hs2 hS) rfl ?_)))))))))
                rintro _ w ⟨rfl, hS⟩
                refine zE ⟨fun _ _ => ⟨hS.cell rfl, hS.cell rfl, hS.cell rfl⟩, zP (i := 17) 262143 rfl rfl (by kernel_rfl) (fun w => y_pickT rfl rfl) (zH (by kernel_rfl) (wc_if rfl (fun hc86 => ?_) (fun hc86 => ?_)))⟩
                · try simp only [zZ] at hc86
                  have hT1 : (m.lg.hearL frm m.c.mtu (k1.r.came.take i)).hear1 frm m.c.mtu d = (m.lg.hearL frm m.c.mtu (k1.r.came.take i)).add (grr d) := by unfold Log.hear1; rw [if_pos ⟨by omega, by omega, by assumption⟩]
                  rw [hT1] at hT
                  refine zW hS (fun w => w.cell? ⟨p, 6, none⟩ = some (.pointer (some ⟨lp, 0, none⟩)) ∧ CellsAt w b12 0 [.int .i64 (grr d).o, .int .i64 (grr d).n, .slice sa2 (grr d).ups.length sc2]) [] wide_ rfl rfl fun w hS => zP (i := 0) 1 rfl rfl (by kernel_rfl) (fun _ => y_move rfl) (zP (i := 1) 3 rfl rfl (by kernel_rfl) (fun w => y_nil rfl) (zP (i := 2) 7 rfl rfl (by kernel_rfl) (fun w => y_fld fl_152_1 rfl) (zD (i := 3) 15 rfl rfl (by kernel_rfl) ⟨hS.cell rfl, hS.cells rfl⟩ (fun w hS => y_load pl_148 rfl hS.1) (zD (i := 4) 31 rfl rfl (by kernel_rfl) ⟨hS.cell rfl, hS.cells rfl⟩ (fun w hS => (y_loadS st_48 sz_48 rfl hS.2 rfl).val (show _ = rvS (grr d) (.slice sa2 (grr d).ups.length sc2) from rfl)) (zU (i := 5) 63 rfl (by kernel_rfl) (wl_call (.cons rfl (.cons rfl .nil)) (lgadd_c (grr d) _ hs2 (by omega) (by omega) (h1.mono hM2) (hS.pull H2)) rfl ?_))))))
                  rintro _ w ⟨M3, H3, hM3, rfl, h1', hS⟩
                  refine zE ⟨fun _ _ => ⟨hS.cell rfl, hS.cells rfl⟩, zH (by kernel_rfl) (zR (zF fl_157_0 rfl rfl (wl (y_load pl_94 rfl (hS.cell (v := .pointer (some ⟨kp, 0, none⟩)) rfl)) rfl (wl_call (.cons rfl .nil) (lpop_c (Lnk.pops_ok _ _ hek1) hk1 (hS.pull H1)) rfl ?_))))⟩
                  rintro _ w ⟨Hk3, rfl, hk3, hS⟩
                  rw [Lnk.pops_pop] at hk3
                  rw [hpv (i + 1)]
                  refine zM rfl rfl (zX (vs := [_, _]) rfl rfl rfl (zX (vs := [_, _]) rfl rfl rfl (zA rfl rfl (zA rfl rfl (zE ?_)))))
                  first
                  | exact ⟨(i + 1, M3, Hk3, H3), by simp only; omega, sub_cons rfl (sub_cons rfl (sub_cons rfl (sub_cons rfl (sub_cons rfl sub_nil)))), by omega, hM.trans (hM2.trans hM3), hk3, by rw [hT]; exact h1', hS.keep⟩
                  | (have hT1 : (m.lg.hearL frm m.c.mtu (k1.r.came.take i)).hear1 frm m.c.mtu d = m.lg.hearL frm m.c.mtu (k1.r.came.take i) := by (unfold Log.hear1; rw [if_neg (fun h => by obtain ⟨h1, h2, h3⟩ := h; first | omega | simp_all)])
                     rw [hT1] at hT
                     exact ⟨(i + 1, M2, Hk3, H2), by simp only; omega, sub_cons rfl (sub_cons rfl (sub_cons rfl (sub_cons rfl (sub_cons rfl sub_nil)))), by omega, hM.trans hM2, hk3, by rw [hT]; exact h1.mono hM2, hS.keep⟩)
                · try simp only [zZ] at hc86
                  refine zK (zR (zF fl_157_0 rfl rfl (wl (y_load pl_94 rfl (hS.cell (v := .pointer (some ⟨kp, 0, none⟩)) rfl)) rfl (wl_call (.cons rfl .nil) (lpop_c (Lnk.pops_ok _ _ hek1) hk1 (hS.pull H1)) rfl ?_))))
                  rintro _ w ⟨Hk3, rfl, hk3, hS⟩
                  rw [Lnk.pops_pop] at hk3
                  rw [hpv (i + 1)]
                  refine zM rfl rfl (zX (vs := [_, _]) rfl rfl rfl (zX (vs := [_, _]) rfl rfl rfl (zA rfl rfl (zA rfl rfl (zE ?_)))))
                  first
                  | exact ⟨(i + 1, M3, Hk3, H3), by simp only; omega, sub_cons rfl (sub_cons rfl (sub_cons rfl (sub_cons rfl (sub_cons rfl sub_nil)))), by omega, hM.trans (hM2.trans hM3), hk3, by rw [hT]; exact h1', hS.keep⟩
                  | (have hT1 : (m.lg.hearL frm m.c.mtu (k1.r.came.take i)).hear1 frm m.c.mtu d = m.lg.hearL frm m.c.mtu (k1.r.came.take i) := by (unfold Log.hear1; rw [if_neg (fun h => by obtain ⟨h1, h2, h3⟩ := h; first | omega | simp_all)])
                     rw [hT1] at hT
                     exact ⟨(i + 1, M2, Hk3, H2), by simp only; omega, sub_cons rfl (sub_cons rfl (sub_cons rfl (sub_cons rfl (sub_cons rfl sub_nil)))), by omega, hM.trans hM2, hk3, by rw [hT]; exact h1.mono hM2, hS.keep⟩)
              · try simp only [zZ] at hg77
                refine dr_off (i := 9) (lb 18 1023) rfl rfl (by kernel_rfl) rfl rfl rfl (dr_off (i := 11) (lb 18 3071) rfl rfl (by kernel_rfl) rfl rfl rfl (dr_off (i := 12) (lb 18 7167) rfl rfl (by kernel_rfl) rfl rfl rfl (dr_off (i := 13) (lb 18 15359) rfl rfl (by kernel_rfl) rfl rfl rfl (dr_off (i := 14) (lb 18 31743) rfl rfl (by kernel_rfl) rfl rfl rfl (dr_off (i := 10) (lb 18 32767) rfl rfl (by kernel_rfl) rfl rfl rfl (dr_off (i := 15) (lb 18 65535) rfl rfl (by kernel_rfl) rfl rfl rfl (dr_off (i := 16) (lb 18 131071) rfl rfl (by kernel_rfl) rfl rfl rfl (zP (i := 17) 262143 rfl rfl (by kernel_rfl) (fun w => y_pickF rfl rfl) (zH (by kernel_rfl) (wc_ifF rfl rfl (zK (zR (zF fl_157_0 rfl rfl (wl (y_load pl_94 rfl (hS.cell (v := .pointer (some ⟨kp, 0, none⟩)) rfl)) rfl (wl_call (.cons rfl .nil) (lpop_c (Lnk.pops_ok _ _ hek1) hk1 (hS.pull H1)) rfl ?_)))))))))))))))
                rintro _ w ⟨Hk3, rfl, hk3, hS⟩
                rw [Lnk.pops_pop] at hk3
                rw [hpv (i + 1)]
                refine zM rfl rfl (zX (vs := [_, _]) rfl rfl rfl (zX (vs := [_, _]) rfl rfl rfl (zA rfl rfl (zA rfl rfl (zE ?_)))))
                first
                | exact ⟨(i + 1, M3, Hk3, H3), by simp only; omega, sub_cons rfl (sub_cons rfl (sub_cons rfl (sub_cons rfl (sub_cons rfl sub_nil)))), by omega, hM.trans (hM2.trans hM3), hk3, by rw [hT]; exact h1', hS.keep⟩
                | (have hT1 : (m.lg.hearL frm m.c.mtu (k1.r.came.take i)).hear1 frm m.c.mtu d = m.lg.hearL frm m.c.mtu (k1.r.came.take i) := by (unfold Log.hear1; rw [if_neg (fun h => by obtain ⟨h1, h2, h3⟩ := h; first | omega | simp_all)])
                   rw [hT1] at hT
                   exact ⟨(i + 1, M2, Hk3, H2), by simp only; omega, sub_cons rfl (sub_cons rfl (sub_cons rfl (sub_cons rfl (sub_cons rfl sub_nil)))), by omega, hM.trans hM2, hk3, by rw [hT]; exact h1.mono hM2, hS.keep⟩)
            · try simp only [zZ] at hg71
              refine dr_off (i := 3) (lb 18 15) rfl rfl (by kernel_rfl) rfl rfl rfl (dr_off (i := 5) (lb 18 47) rfl rfl (by kernel_rfl) rfl rfl rfl (dr_off (i := 4) (lb 18 63) rfl rfl (by kernel_rfl) rfl rfl rfl (dr_off (i := 6) (lb 18 127) rfl rfl (by kernel_rfl) rfl rfl rfl (zP (i := 7) 255 rfl rfl (by kernel_rfl) (fun w => y_pickF rfl rfl) (zP (i := 8) 511 rfl rfl (by kernel_rfl) (fun _ => y_move rfl) (dr_off (i := 9) (lb 18 1023) rfl rfl (by kernel_rfl) rfl rfl rfl (dr_off (i := 11) (lb 18 3071) rfl rfl (by kernel_rfl) rfl rfl rfl (dr_off (i := 12) (lb 18 7167) rfl rfl (by kernel_rfl) rfl rfl rfl (dr_off (i := 13) (lb 18 15359) rfl rfl (by kernel_rfl) rfl rfl rfl (dr_off (i := 14) (lb 18 31743) rfl rfl (by kernel_rfl) rfl rfl rfl (dr_off (i := 10) (lb 18 32767) rfl rfl (by kernel_rfl) rfl rfl rfl (dr_off (i := 15) (lb 18 65535) rfl rfl (by kernel_rfl) rfl rfl rfl (dr_off (i := 16) (lb 18 131071) rfl rfl (by kernel_rfl) rfl rfl rfl (zP (i := 17) 262143 rfl rfl (by kernel_rfl) (fun w => y_pickF rfl rfl) (zH (by kernel_rfl) (wc_ifF rfl rfl (zK (zR (zF fl_157_0 rfl rfl (wl (y_load pl_94 rfl (hS.cell (v := .pointer (some ⟨kp, 0, none⟩)) rfl)) rfl (wl_call (.cons rfl .nil) (lpop_c (Lnk.pops_ok _ _ hek1) hk1 (hS.pull H1)) rfl ?_)))))))))))))))))))))
              rintro _ w ⟨Hk3, rfl, hk3, hS⟩
              rw [Lnk.pops_pop] at hk3
              rw [hpv (i + 1)]
              refine zM rfl rfl (zX (vs := [_, _]) rfl rfl rfl (zX (vs := [_, _]) rfl rfl rfl (zA rfl rfl (zA rfl rfl (zE ?_)))))
              first
              | exact ⟨(i + 1, M3, Hk3, H3), by simp only; omega, sub_cons rfl (sub_cons rfl (sub_cons rfl (sub_cons rfl (sub_cons rfl sub_nil)))), by omega, hM.trans (hM2.trans hM3), hk3, by rw [hT]; exact h1', hS.keep⟩
              | (have hT1 : (m.lg.hearL frm m.c.mtu (k1.r.came.take i)).hear1 frm m.c.mtu d = m.lg.hearL frm m.c.mtu (k1.r.came.take i) := by (unfold Log.hear1; rw [if_neg (fun h => by obtain ⟨h1, h2, h3⟩ := h; first | omega | simp_all)])
                 rw [hT1] at hT
                 exact ⟨(i + 1, M2, Hk3, H2), by simp only; omega, sub_cons rfl (sub_cons rfl (sub_cons rfl (sub_cons rfl (sub_cons rfl sub_nil)))), by omega, hM.trans hM2, hk3, by rw [hT]; exact h1.mono hM2, hS.keep⟩)
          · try simp only [zZ] at hc57
            obtain rfl : i = k1.r.wait := by omega
            rw [List.take_of_length_le (by omega)] at h1
            have hp : k1.pops (k1.r.wait + 1) = k1.pops k1.r.wait := by unfold Lnk.pops; congr 2; omega
            rw [hp] at hk1
            refine wc_exit (zQ (zR (zA rfl rfl (zE (wc_ret (wret (vs := [_]) (.tmp rfl .nil) ?_))))))
            first
            | exact ⟨M, _, Mle.refl _, rfl, hb0, (by have h := hS.keep (T := ((p, sqQ m.c lp (.slice sa xs.length sc)) :: (Hl ++ (Hs ++ Hp))) :: Ls); exact h)⟩
            | (have hS2 := (hS.keep (T := [(fp, fdO q.a)] :: Hk :: Hr :: [(p, sqQ m.c lp (.slice (some ⟨bb, off, none⟩) xs.length sc))] :: Hl :: Hs :: Ls)).mk2.swap hpm.symm
               exact ⟨M, _, Mle.refl _, rfl, hb0, (by have h := hS2.keep (T := ((p, sqQ m.c lp (.slice (some ⟨bb, off, none⟩) xs.length sc)) :: (Hl ++ (Hs ++ Hp))) :: Ls); exact h)⟩)
            | (obtain ⟨Hp2, hps2, hpm2⟩ := hback (q.hear (fget b)) H1 (by rw [hqk]; exact hk1)
               have hS2 := (hS.keep (T := [(fp, fdO (q.hear (fget b)).a)] :: H1 :: Hr :: [(p, sqQ m.c lp (.slice (some ⟨bb, off, none⟩) xs.length sc))] :: H2 :: Hs :: Ls)).mk2.swap hpm2
               exact ⟨M1, _, hM, rfl, ⟨lp, xs, _, Hs, Hp2, H2, h1, h2, hps2, rfl⟩, (by have h := hS2.keep (T := ((p, sqQ m.c lp (.slice (some ⟨bb, off, none⟩) xs.length sc)) :: (H2 ++ (Hs ++ Hp2))) :: Ls); exact h)⟩)
end
end Go.Proofs.YtndahppmjdbifaaGreatDoor.Seq
set_option linter.unusedVariables false
set_option linter.unusedSimpArgs false
namespace Go.Proofs.YtndahppmjdbifaaGreatDoor.Seq
open Go Go.Proofs Go.Proofs.YtndahppmjdbifaaGreatDoor.Eng Go.Proofs.YtndahppmjdbifaaGreatDoor.Pre Go.Proofs.YtndahppmjdbifaaGreatDoor.Val Go.Proofs.YtndahppmjdbifaaGreatDoor.Rou Go.Proofs.YtndahppmjdbifaaGreatDoor.Fra Go.Proofs.YtndahppmjdbifaaGreatDoor.Snd Go.Proofs.YtndahppmjdbifaaGreatDoor.Lnk Go.Proofs.YtndahppmjdbifaaGreatDoor.Jnl Go.Proofs.YtndahppmjdbifaaGreatDoor.Nod
def Peer.pump (lg : Log) (q : Peer) : Peer := ⟨(offl (lg.l.drop q.a) q.k q.a).1, (offl (lg.l.drop q.a) q.k q.a).2⟩
def Sqr.tick (m : Sqr) : Sqr := ⟨m.c, m.lg, m.ps.map (Peer.pump m.lg)⟩
def Sqr.pk (m : Sqr) (i : Nat) : List Pkt := match m.ps[i]? with
  | some q => pkts 0 ((i + 1 : Nat) : Int) m.c.mtu (q.pump m.lg).k.frames
  | none => []
def Sqr.tickN (m : Sqr) (n : Nat) : List Pkt := (List.range n).flatMap m.pk
def Sqr.tickP (m : Sqr) : List Pkt := m.tickN m.ps.length
def Sqr.tickI (m : Sqr) (i : Nat) : List Peer := (m.ps.take i).map (Peer.pump m.lg) ++ m.ps.drop i
theorem Sqr.tickN_succ (m : Sqr) (n : Nat) : m.tickN (n + 1) = m.tickN n ++ m.pk n := by
  unfold Sqr.tickN
  rw [List.range_succ, List.flatMap_append]; simp
theorem Sqr.tickI_0 (m : Sqr) : m.tickI 0 = m.ps := by simp [Sqr.tickI]
theorem Sqr.tickI_end (m : Sqr) : m.tickI m.ps.length = m.tick.ps := by simp [Sqr.tickI, Sqr.tick]
theorem Sqr.tickI_at (m : Sqr) {i : Nat} {q : Peer} (h : m.ps[i]? = some q) : (m.tickI i)[i]? = some q := by
  obtain ⟨hlt, hx⟩ := List.getElem?_eq_some_iff.1 h
  unfold Sqr.tickI
  rw [List.getElem?_append_right (by simp; omega)]
  simp only [List.length_map, List.length_take, List.getElem?_drop]
  rw [show i + (i - min i m.ps.length) = i by omega, h]
theorem Sqr.tickI_set (m : Sqr) {i : Nat} {q : Peer} (h : m.ps[i]? = some q) : (m.tickI i).set i (q.pump m.lg) = m.tickI (i + 1) := by
  obtain ⟨hlt, hx⟩ := List.getElem?_eq_some_iff.1 h
  unfold Sqr.tickI
  have hd : (m.ps.drop i).set 0 (q.pump m.lg) = q.pump m.lg :: m.ps.drop (i + 1) := by rw [List.drop_eq_getElem_cons hlt]; rfl
  rw [List.set_append_right _ _ (by simp; omega), List.take_add_one, h]
  simp only [List.length_map, List.length_take]
  rw [show i - min i m.ps.length = 0 by omega, hd]
  simp
theorem Sqr.pk_len (m : Sqr) (hok : ∀ q ∈ m.ps, q.k.ok) (i : Nat) : (m.pk i).length ≤ 16 := by
  unfold Sqr.pk
  split
  · rename_i q hq
    exact Nat.le_trans pkts_length (frames_length _ (offl_ok (hok q (List.mem_of_getElem? hq))))
  · simp
theorem Sqr.tickN_len (m : Sqr) (hok : ∀ q ∈ m.ps, q.k.ok) (n : Nat) : (m.tickN n).length ≤ 16 * n := by
  induction n with
  | zero => simp [Sqr.tickN]
  | succ n ih => rw [Sqr.tickN_succ, List.length_append]; have := m.pk_len hok n; omega
section
variable {M : Mem} {w : World} {Ls : List Chunk}
theorem qlog_c {p : Nat} {m : Sqr} {H : Chunk} (hl : m.lg.l.length ≤ 137438953472) (hb : IsQ M p m H) (hS : St M w (H :: Ls)) :
    CallsR Tryz.prog 47 [.pointer (some ⟨p, 0, none⟩)].toArray w fun v w' => ∃ M' ys H', Mle M M' ∧ Own 48 encRV v ys H' ∧ Rvs M' ys m.lg.l ∧ IsQ M' p m H ∧ St M' w' (H' :: H :: Ls) := by
  have hb0 := hb
  obtain ⟨lp, xs, s, Hs, Hp, Hl, h1, h2, h3, rfl⟩ := hb
  replace hS := hS.un3
  refine calls_of (c := _) (rs := _) (n := 8) Tryz.func47 rfl rfl rfl rfl rfl (zQ (zR (zA rfl rfl (zE (zQ (zR (zM rfl rfl (zN rfl rfl (zF fl_152_1 rfl rfl (wl (y_load pl_148 rfl (hS.cell (v := .pointer (some ⟨lp, 0, none⟩)) rfl)) rfl (wl_call (.cons rfl .nil) (lgall_c hl h1 (hS.pull Hl)) rfl ?_)))))))))))
  rintro vs w ⟨M1, ys, H1, hM, ho, hr, h1', hS⟩
  obtain ⟨ya, yc, rfl⟩ := ho.slice
  refine zA rfl rfl (zE (wc_ret (wret (vs := [_]) (.tmp rfl .nil) ?_)))
  exact ⟨M1, ys, H1, hM, ho, hr, hb0.mono hM, (by have h := hS.keep (T := H1 :: ((p, sqQ m.c lp s) :: (Hl ++ (Hs ++ Hp))) :: Ls); exact h)⟩
theorem qtick_c (hG : Bits M) {p : Nat} {m : Sqr} {H : Chunk} (hpl : m.ps.length ≤ 64) (hll : m.lg.l.length ≤ 137438953000) (hok : ∀ q ∈ m.ps, q.k.ok) (hfs : ∀ q ∈ m.ps, ∀ f ∈ (q.pump m.lg).k.frames, f.data.size ≤ 34359738368) (hb : IsQ M p m H) (hS : St M w (H :: Ls)) :
    CallsR Tryz.prog 46 [.pointer (some ⟨p, 0, none⟩)].toArray w fun v w' => ∃ M' H' Hp, Mle M M' ∧ Own 40 encP v m.tickP Hp ∧ IsQ M' p m.tick H' ∧ St M' w' (Hp :: H' :: Ls) := by
  obtain ⟨lp, xs, s, Hs, Hp, Hl, h1, h2, h3, rfl⟩ := hb
  replace hS := hS.un3
  obtain ⟨sa, sc, rfl⟩ := h2.slice
  have hxl := h3.len
  have hTl := m.tickN_len hok
  refine calls_of (c := _) (rs := _) (n := 59) Tryz.func46 rfl rfl rfl rfl rfl (zQ (zR (zA rfl rfl (zE (zQ (zR (zA rfl rfl (zE (zQ (zQ (zR (zM rfl rfl (zN rfl rfl (zF fl_152_2 rfl rfl (wl (y_load pl_150 rfl (hS.cell (v := .slice sa xs.length sc) rfl)) rfl (wl (y_len_sl Tryz.underlying150 rfl) rfl (zM rfl rfl (zE (zB (wc_loop (α := Nat × Value × Mem × Chunk × Chunk) (fun ⟨i, s, _, _, _⟩ => [(0, .pointer (some ⟨p, 0, none⟩)), (3, s), (13, .slice sa xs.length sc), (14, .int .i64 xs.length), (15, .int .i64 i)]) (fun ⟨i, s, M1, H1, Ho⟩ w => i ≤ xs.length ∧ Mle M M1 ∧ Own 40 encP s (m.tickN i) Ho ∧ IsLg M1 lp m.lg Hl ∧ IsPs xs (m.tickI i) H1 ∧ St M1 w (Ho :: [(p, sqQ m.c lp (.slice sa xs.length sc))] :: Hl :: Hs :: H1 :: Ls)) (fun ⟨i, _, _, _, _⟩ => xs.length - i) (0, .slice none 0 0, M, Hp, []) (sub_cons rfl (sub_cons rfl (sub_cons rfl (sub_cons rfl (sub_cons rfl sub_nil))))) ⟨by omega, Mle.refl _, .nil, h1, by rw [Sqr.tickI_0]; exact h3, St.nil hS⟩ ?_))))))))))))))))))))
  clear hS h1
  rintro ⟨i, s, M1, H1, Ho⟩ w ⟨hi, hM, hoo, h1, h3', hS⟩
  refine zQ (zR (wl (y_lss rfl rfl) rfl (zE (zQ (wc_if rfl (fun hc16 => ?_) (fun hc16 => ?_))))))
  · try simp only [zZ] at hc16
    refine zK (zQ (zB (zQ ?_)))
    have hi' : i < xs.length := by omega
    obtain ⟨q, hqi⟩ : ∃ q, m.ps[i]? = some q := ⟨_, List.getElem?_eq_getElem (by omega)⟩
    have hqm := List.mem_of_getElem? hqi
    have hqo := hok q hqm
    have hqf := hfs q hqm
    have hTi := hTl i
    have hTs := m.tickN_succ i
    have hpk : m.pk i = pkts 0 ((i + 1 : Nat) : Int) m.c.mtu (q.pump m.lg).k.frames := by unfold Sqr.pk; rw [hqi]
    obtain ⟨kp, fp, Hk, Hr, hxi, hkq, hpm, hback⟩ := h3'.focus (m.tickI_at hqi)
    obtain ⟨bb, off, c', hse, hce⟩ := (h2.holds (hS.pull Hs)).at hxi
    simp only [Value.slice.injEq] at hse
    have hSk := hS
    obtain ⟨rfl, _, rfl⟩ := hse
    replace hS := hSk
    obtain ⟨oa, oc, rfl⟩ := hoo.slice
    refine zR (zM rfl rfl (wl (y_ixa_sl Tryz.underlying150 sz_157 rfl rfl (by omega) (by omega)) rfl (wl (y_loadS st_157 sz_157 rfl (vs := encPe.f (kp, fp)) hce rfl) rfl (a_alloc z_157 hS rfl fun b5 w hS => zA rfl rfl (a_storeS (vs := [_, _]) sz_157 rfl rfl rfl rfl hS (Nat.le_of_ble_eq_true rfl) fun w hS => zE (zQ ?_))))))
    replace hS := ((hS.pull H1).swap hpm).un2
    replace hS := (show St M1 w ([(fp, fdO q.a)] :: Hk :: Hr :: [(b5, peO kp fp)] :: Ho :: [(p, sqQ m.c lp (.slice (some ⟨bb, off, none⟩) xs.length sc))] :: Hl :: Hs :: Ls) from hS)
    refine zW hS (fun w => w.cell? ⟨b5, 1, none⟩ = some (.pointer (some ⟨fp, 0, none⟩)) ∧ w.cell? ⟨p, 6, none⟩ = some (.pointer (some ⟨lp, 0, none⟩)) ∧ w.cell? ⟨b5, 0, none⟩ = some (.pointer (some ⟨kp, 0, none⟩))) [8] wide_ rfl rfl fun w hS => zP (i := 0) 1 rfl rfl (by kernel_rfl) (fun w => y_fld fl_157_1 rfl) (zP (i := 2) 5 rfl rfl (by kernel_rfl) (fun _ => y_move rfl) (zP (i := 3) 13 rfl rfl (by kernel_rfl) (fun w => y_nil rfl) (zP (i := 4) 29 rfl rfl (by kernel_rfl) (fun w => y_fld fl_152_1 rfl) (zP (i := 6) 93 rfl rfl (by kernel_rfl) (fun w => y_fld fl_157_0 rfl) (zD (i := 1) 95 rfl rfl (by kernel_rfl) ⟨hS.cell rfl, hS.cell rfl, hS.cell rfl⟩ (fun w hS => y_load pl_154 rfl hS.1) (zD (i := 5) 127 rfl rfl (by kernel_rfl) ⟨hS.cell rfl, hS.cell rfl, hS.cell rfl⟩ (fun w hS => y_load pl_148 rfl hS.2.1) (zD (i := 7) 255 rfl rfl (by kernel_rfl) ⟨hS.cell rfl, hS.cell rfl, hS.cell rfl⟩ (fun w hS => y_load pl_94 rfl hS.2.2) (zU (i := 8) 511 rfl (by kernel_rfl) (wl_call (.cons rfl (.cons rfl (.cons rfl .nil))) (fdpump_c (hG.mono hM) hqo (by omega) h1 hkq (hS.keep (T := [(fp, fdO q.a)] :: Hl :: Hk :: Hr :: [(b5, peO kp fp)] :: Ho :: [(p, sqQ m.c lp (.slice (some ⟨bb, off, none⟩) xs.length sc))] :: Hs :: Ls))) rfl ?_)))))))))
    rintro _ w ⟨M2, Hk2, hM2, rfl, h1', hk2, hS⟩
    have hqk : (q.pump m.lg).k.ok := offl_ok hqo
    have hfl := frames_length (q.pump m.lg).k hqk
    replace hk2 : IsL kp (q.pump m.lg).k Hk2 := hk2
    replace hS := (show St M2 w ([(fp, fdO (q.pump m.lg).a)] :: Hl :: Hk2 :: Hr :: [(b5, peO kp fp)] :: Ho :: [(p, sqQ m.c lp (.slice (some ⟨bb, off, none⟩) xs.length sc))] :: Hs :: Ls) from hS)
    refine zE ⟨fun h => absurd (by decide) h, zH (by kernel_rfl) (zQ (zR (zF fl_157_0 rfl rfl (wl (y_load pl_94 rfl (hS.cell (v := .pointer (some ⟨kp, 0, none⟩)) rfl)) rfl (wl_call (.cons rfl .nil) (lframes_c hqk hk2 (hS.pull Hk2)) rfl ?_)))))⟩
    rintro _ w ⟨Hf, hof, hS⟩
    obtain ⟨fa, fc, rfl⟩ := hof.slice
    refine wl (y_len_sl Tryz.underlying106 rfl) rfl (zM rfl rfl (zE (zB (wc_loop (α := Nat × Value × Chunk) (fun ⟨j, s, _⟩ => [(0, .pointer (some ⟨p, 0, none⟩)), (3, s), (4, .int .i64 i), (13, .slice (some ⟨bb, off, none⟩) xs.length sc), (14, .int .i64 xs.length), (15, .int .i64 i), (31, .slice fa (q.pump m.lg).k.frames.length fc), (32, .int .i64 (q.pump m.lg).k.frames.length), (33, .int .i64 j)]) (fun ⟨j, s, Ho⟩ w => j ≤ (q.pump m.lg).k.frames.length ∧ Own 40 encP s (m.tickN i ++ pkts 0 ((i + 1 : Nat) : Int) m.c.mtu ((q.pump m.lg).k.frames.take j)) Ho ∧ St M2 w (Ho :: Hf :: [(fp, fdO (q.pump m.lg).a)] :: Hl :: Hk2 :: Hr :: [(p, sqQ m.c lp (.slice (some ⟨bb, off, none⟩) xs.length sc))] :: Hs :: Ls)) (fun ⟨j, _, _⟩ => (q.pump m.lg).k.frames.length - j) (0, .slice oa (m.tickN i).length oc, Ho) (sub_cons rfl (sub_cons rfl (sub_cons rfl (sub_cons rfl (sub_cons rfl (sub_cons rfl (sub_cons rfl (sub_cons rfl (sub_cons rfl sub_nil))))))))) ⟨by omega, by rw [List.take_zero]; simpa [pkts] using hoo, hS.keep⟩ ?_))))
    clear hS hoo
    rintro ⟨j, s, Ho⟩ w ⟨hj, hoo, hS⟩
    refine zQ (zR (wl (y_lss rfl rfl) rfl (zE (zQ (wc_if rfl (fun hc34 => ?_) (fun hc34 => ?_))))))
    · try simp only [zZ] at hc34
      refine zK (zQ (zB (zQ ?_)))
      have hj' : j < (q.pump m.lg).k.frames.length := by omega
      obtain ⟨f, hfi⟩ : ∃ f, (q.pump m.lg).k.frames[j]? = some f := ⟨_, List.getElem?_eq_getElem hj'⟩
      have hpt := pkts_take (origin := 0) (to_ := ((i + 1 : Nat) : Int)) (mtu := m.c.mtu) hfi
      have hpl := pkts_length (origin := 0) (to_ := ((i + 1 : Nat) : Int)) (mtu := m.c.mtu) (l := (q.pump m.lg).k.frames.take j)
      rw [List.length_take] at hpl
      have hfz := hqf f (List.mem_of_getElem? hfi)
      obtain ⟨bf, of_, cf, hsf, hcf⟩ := (hof.holds (hS.pull Hf)).at hfi
      simp only [Value.slice.injEq] at hsf
      have hSk := hS
      obtain ⟨rfl, _, rfl⟩ := hsf
      replace hS := hSk
      obtain ⟨oa, oc, rfl⟩ := hoo.slice
      refine zR (wl (y_ixa_sl Tryz.underlying106 sz_42 rfl rfl (by omega) (by omega)) rfl (wl ((y_loadS st_42 sz_42 rfl (vs := encF.f f) hcf rfl).val (show _ = fv f from rfl)) rfl (a_alloc z_42 hS rfl fun b7 w hS => a_storeS (vs := [_, _, _, _]) sz_42 rfl rfl rfl rfl hS (Nat.le_of_ble_eq_true rfl) fun w hS => zE (zQ (zW hS (fun w => CellsAt w b7 0 (encF.f f) ∧ w.cell? ⟨p, 4, none⟩ = some (.int .i64 m.c.mtu)) [6] wide_ rfl rfl fun w hS => zP (i := 1) 2 rfl rfl (by kernel_rfl) (fun _ => y_move rfl) (zP (i := 2) 6 rfl rfl (by kernel_rfl) (fun w => y_nil rfl) (zP (i := 3) 14 rfl rfl (by kernel_rfl) (fun w => y_fld fl_152_0 rfl) (zP (i := 4) 30 rfl rfl (by kernel_rfl) (fun w => y_fld fl_23_4 rfl) (zD (i := 0) 31 rfl rfl (by kernel_rfl) ⟨hS.cells rfl, hS.cell rfl⟩ (fun w hS => (y_loadS st_42 sz_42 rfl hS.1 rfl).val (show _ = fv f from rfl)) (zD (i := 5) 63 rfl rfl (by kernel_rfl) ⟨hS.cells rfl, hS.cell rfl⟩ (fun w hS => y_load pl_3 rfl hS.2) (zU (i := 6) 127 rfl (by kernel_rfl) (wl_call (.cons rfl (.cons rfl .nil)) (fput_c ((hG.mono hM).mono hM2) f m.c.mtu hfz hS) rfl ?_))))))))))))
      rintro _ w ⟨rfl, hS⟩
      refine zE ⟨fun h => absurd (by decide) h, zP (i := 7) 255 rfl rfl (by kernel_rfl) (fun _ => y_move rfl) (zP (i := 8) 511 rfl rfl (by kernel_rfl) (fun w => y_extract (vs := [_, _]) rfl rfl) (zP (i := 9) 1023 rfl rfl (by kernel_rfl) (fun w => y_extract (vs := [_, _]) rfl rfl) (zP (i := 10) 2047 rfl rfl (by kernel_rfl) (fun w => y_assign rfl) (zP (i := 11) 4095 rfl rfl (by kernel_rfl) (fun w => y_assign rfl) (zH (by kernel_rfl) (zQ (zR (zM rfl rfl (wl (y_eql rfl rfl) rfl (zE (wc_if rfl (fun hc48 => ?_) (fun hc48 => ?_))))))))))))⟩
      · try simp only [zZ] at hc48
        rw [if_pos (by omega)] at hpt
        refine zR (zM rfl rfl (zM rfl rfl (wl ((y_add rfl rfl (w64 (by omega) (by omega))).val (u := .int .i64 ((i + 1 : Nat) : Int)) (congrArg (Value.int .i64) (by omega))) rfl (zM rfl rfl (wl (y_build (is := [1, 2]) (xs := [_, _]) (out := [_, _, _]) plc_40 z_40 (.cons rfl (.cons rfl .nil)) rfl) rfl (a_bslice encP [⟨0, ((i + 1 : Nat) : Int), fput f m.c.mtu⟩] Tryz.underlying37 sz_40 z_40 rfl (.cons rfl .nil) rfl rfl rfl (by decide) hS rfl fun u Hu w hou hS => a_append Tryz.underlying37 Tryz.underlying37 sz_40 z_40 rfl by_40 (by decide) rfl rfl hoo (hou.holds hS) (hS.keep (T := Ho :: Hu :: Hf :: [(fp, fdO (q.pump m.lg).a)] :: Hl :: Hk2 :: Hr :: [(p, sqQ m.c lp (.slice (some ⟨bb, off, none⟩) xs.length sc))] :: Hs :: Ls)) (by simp only [List.length_append, List.length_singleton]; omega) rfl fun s2 H2 w ho2 hS => ?_))))))
        rw [List.append_assoc, ← hpt] at ho2
        refine zA rfl rfl (zE (zR (wl (y_add rfl rfl (w64 (by omega) (by omega))) rfl (zM rfl rfl (zE ?_)))))
        first
        | exact ⟨(j + 1, _, H2), by simp only; omega, sub_cons rfl (sub_cons rfl (sub_cons rfl (sub_cons rfl (sub_cons rfl (sub_cons rfl (sub_cons rfl (sub_cons rfl (sub_cons rfl sub_nil)))))))), by omega, ho2, hS.keep⟩
        | exact ⟨(j + 1, _, Ho), by simp only; omega, sub_cons rfl (sub_cons rfl (sub_cons rfl (sub_cons rfl (sub_cons rfl (sub_cons rfl (sub_cons rfl (sub_cons rfl (sub_cons rfl sub_nil)))))))), by omega, by rw [hpt]; exact hoo, hS.keep⟩
      · try simp only [zZ] at hc48
        rw [if_neg (by omega), List.append_nil] at hpt
        refine zK (zR (wl (y_add rfl rfl (w64 (by omega) (by omega))) rfl (zM rfl rfl (zE ?_))))
        first
        | exact ⟨(j + 1, _, H2), by simp only; omega, sub_cons rfl (sub_cons rfl (sub_cons rfl (sub_cons rfl (sub_cons rfl (sub_cons rfl (sub_cons rfl (sub_cons rfl (sub_cons rfl sub_nil)))))))), by omega, ho2, hS.keep⟩
        | exact ⟨(j + 1, _, Ho), by simp only; omega, sub_cons rfl (sub_cons rfl (sub_cons rfl (sub_cons rfl (sub_cons rfl (sub_cons rfl (sub_cons rfl (sub_cons rfl (sub_cons rfl sub_nil)))))))), by omega, by rw [hpt]; exact hoo, hS.keep⟩
    · try simp only [zZ] at hc34
      obtain rfl : j = (q.pump m.lg).k.frames.length := by omega
      rw [List.take_length, ← hpk, ← hTs] at hoo
      obtain ⟨Hp2, hps2, hpm2⟩ := hback (q.pump m.lg) Hk2 hk2
      rw [m.tickI_set hqi] at hps2
      have hS2 := (hS.keep (T := [(fp, fdO (q.pump m.lg).a)] :: Hk2 :: Hr :: Ho :: [(p, sqQ m.c lp (.slice (some ⟨bb, off, none⟩) xs.length sc))] :: Hl :: Hs :: Ls)).mk2.swap hpm2
      refine wc_exit (zR (wl (y_add rfl rfl (w64 (by omega) (by omega))) rfl (zM rfl rfl (zE ?_))))
      exact ⟨(i + 1, _, M2, Hp2, Ho), by simp only; omega, sub_cons rfl (sub_cons rfl (sub_cons rfl (sub_cons rfl (sub_cons rfl sub_nil)))), by omega, hM.trans hM2, hoo, h1', hps2, hS2.keep⟩
  · try simp only [zZ] at hc16
    obtain rfl : i = xs.length := by omega
    rw [hxl] at hoo h3'
    rw [Sqr.tickI_end] at h3'
    refine wc_exit (zQ (zR (zM rfl rfl (zA rfl rfl (zE (wc_ret (wret (vs := [_]) (.tmp rfl .nil) ?_)))))))
    exact ⟨M1, _, Ho, hM, hoo, ⟨lp, xs, _, Hs, H1, Hl, h1, h2, h3', rfl⟩, (by have h := hS.keep (T := Ho :: ((p, sqQ m.c lp (.slice sa xs.length sc)) :: (Hl ++ (Hs ++ H1))) :: Ls); exact h)⟩
end
end Go.Proofs.YtndahppmjdbifaaGreatDoor.Seq
set_option linter.unusedVariables false
set_option linter.unusedSimpArgs false
namespace Go.Proofs.YtndahppmjdbifaaGreatDoor.Rou
open Go Go.Proofs Go.Proofs.YtndahppmjdbifaaGreatDoor.Eng Go.Proofs.YtndahppmjdbifaaGreatDoor.Pre Go.Proofs.YtndahppmjdbifaaGreatDoor.Pak Go.Proofs.YtndahppmjdbifaaGreatDoor.Val Go.Proofs.YtndahppmjdbifaaGreatDoor.Nod
theorem zag_zig {n : Int} (h1 : -2305843009213693952 ≤ n) (h2 : n < 2305843009213693952) : zag (zig n) = n ∧ zig n < 4611686018427387904 := by
  unfold zag zig
  split
  · rename_i h
    refine ⟨?_, by omega⟩
    rw [if_pos (by omega), if_pos (by omega)]; omega
  · rename_i h
    refine ⟨?_, by omega⟩
    rw [if_pos (by omega), if_neg (by omega)]; omega
theorem rsig_put {s : ByteArray} {at_ : Nat} {n : Int} {l : List UInt8} (h1 : -2305843009213693952 ≤ n) (h2 : n < 2305843009213693952) (hd : s.data.toList.drop at_ = pput (zig n) ++ l) : rsig ⟨s, at_, 0⟩ = (n, ⟨s, at_ + (pput (zig n)).length, 0⟩) ∧ s.data.toList.drop (at_ + (pput (zig n)).length) = l := by
  obtain ⟨z1, z2⟩ := zag_zig h1 h2
  obtain ⟨a, b⟩ := rraw_put z2 hd
  refine ⟨?_, b⟩
  unfold rsig
  rw [a]
  simp only
  rw [z1]
theorem mayU_clean {u : Upd} (h : mayU u = 0) : (¬ (u.kind = 1 ∨ u.kind = 3) → u.n = 0) ∧ (¬ (u.kind = 2 ∨ u.kind = 4) → u.s = ⟨#[]⟩) := by
  unfold mayU at h
  split at h; · cases h
  split at h; · cases h
  split at h
  · rename_i h1 h2 h3
    split at h; · cases h
    rename_i h4
    exact ⟨fun h => absurd h3 h, fun _ => by simpa using h4⟩
  · rename_i h1 h2 h3
    split at h
    · rename_i h4
      split at h; · cases h
      rename_i h5
      exact ⟨fun _ => by simpa using h5, fun h => absurd h4 h⟩
    · split at h
      · split at h; · cases h
        split at h; · cases h
        rename_i h5 h6 h7
        refine ⟨fun _ => ?_, fun _ => ?_⟩ <;> simp_all
      · cases h
theorem ru_put {s : ByteArray} {at_ : Nat} {u : Upd} {l : List UInt8} (hu : mayU u = 0) (hd : s.data.toList.drop at_ = ubytes u ++ l) : ruU ⟨s, at_, 0⟩ = u ∧ ruR ⟨s, at_, 0⟩ = ⟨s, at_ + (ubytes u).length, 0⟩ ∧ s.data.toList.drop (at_ + (ubytes u).length) = l := by
  obtain ⟨k1, k2, y1, y2, z1, n1, n2⟩ := mayU_ok hu
  obtain ⟨c1, c2⟩ := mayU_clean hu
  obtain ⟨k, hk⟩ : ∃ k : Nat, u.kind = k := ⟨u.kind.toNat, by omega⟩
  have hkt : u.kind.toNat = k := by omega
  have hub : ubytes u = pput k ++ (ptext u.key ++ (if u.kind = 1 ∨ u.kind = 3 then pput (zig u.n) else if u.kind = 2 ∨ u.kind = 4 then ptext u.s else [])) := by unfold ubytes; rw [hkt, List.append_assoc]
  rw [hub] at hd ⊢
  rw [List.append_assoc, List.append_assoc] at hd
  obtain ⟨a1, d1⟩ := rnum_put (lim := 5) (by omega) (by omega) hd
  obtain ⟨a2, d2⟩ := rtext_put (lim := 16) (by omega) (by omega) d1
  have e1 : ru1 ⟨s, at_, 0⟩ = ⟨s, at_ + (pput k).length, 0⟩ := by unfold ru1; rw [a1]; simp only; rw [if_neg (by omega)]
  have e2 : ru2 ⟨s, at_, 0⟩ = (u.key, ⟨s, at_ + (pput k).length + (ptext u.key).length, 0⟩) := by unfold ru2; rw [e1]; exact a2
  have e3 : ru3 ⟨s, at_, 0⟩ = ⟨s, at_ + (pput k).length + (ptext u.key).length, 0⟩ := by
    unfold ru3; rw [e2]; simp only
    rw [if_neg (fun h => by rw [h] at y1; exact absurd y1 (by decide))]
  have kk : ((k : Nat) : Int) = u.kind := hk.symm
  have e4 : ru4 ⟨s, at_, 0⟩ = (u.n, u.s, ⟨s, at_ + (pput k).length + (ptext u.key).length + (if u.kind = 1 ∨ u.kind = 3 then pput (zig u.n) else if u.kind = 2 ∨ u.kind = 4 then ptext u.s else []).length, 0⟩) ∧ s.data.toList.drop (at_ + (pput k).length + (ptext u.key).length + (if u.kind = 1 ∨ u.kind = 3 then pput (zig u.n) else if u.kind = 2 ∨ u.kind = 4 then ptext u.s else []).length) = l := by
    unfold ru4
    rw [a1, e3]
    simp only
    by_cases h13 : u.kind = 1 ∨ u.kind = 3
    · rw [if_pos h13] at d2 ⊢
      obtain ⟨a5, d5⟩ := rsig_put n1 n2 d2
      rw [if_pos (by omega), a5]
      refine ⟨?_, d5⟩
      simp only [c2 (by omega)]; rfl
    · rw [if_neg h13] at d2 ⊢
      rw [if_neg (by omega)]
      by_cases h24 : u.kind = 2 ∨ u.kind = 4
      · rw [if_pos h24] at d2 ⊢
        obtain ⟨a5, d5⟩ := rtext_put (lim := 32) (by omega) (by omega) d2
        rw [if_pos (by omega), a5]
        refine ⟨?_, d5⟩
        simp only [c1 h13]
      · rw [if_neg h24] at d2 ⊢
        rw [if_neg (by omega)]
        refine ⟨?_, by simpa using d2⟩
        simp only [c1 h13, c2 h24, List.length_nil, Nat.add_zero]; rfl
  obtain ⟨e4, d4⟩ := e4
  refine ⟨?_, ?_, ?_⟩
  · unfold ruU
    rw [e4, e2, a1]
    simp only
    rw [if_neg (by simp), kk]
  · unfold ruR
    rw [e4]
    simp only [List.length_append, Nat.add_assoc]
  · rw [← d4]; simp only [List.length_append, Nat.add_assoc]
theorem rups_cons (r : Rdr) : ∀ k, rups r (k + 1) = (ruU r :: (rups (ruR r) k).1, (rups (ruR r) k).2)
  | 0 => rfl
  | k + 1 => by
    have ih := rups_cons r k
    show ((rups r (k + 1)).1 ++ [ruU (rups r (k + 1)).2], ruR (rups r (k + 1)).2) = _
    rw [ih]
    rfl
theorem rups_put {s : ByteArray} {l : List UInt8} : ∀ (us : List Upd) (at_ : Nat), (∀ u ∈ us, mayU u = 0) → s.data.toList.drop at_ = us.flatMap ubytes ++ l → rups ⟨s, at_, 0⟩ us.length = (us, ⟨s, at_ + (us.flatMap ubytes).length, 0⟩) ∧ s.data.toList.drop (at_ + (us.flatMap ubytes).length) = l
  | [], at_, _, hd => ⟨rfl, by simpa using hd⟩
  | u :: us, at_, hu, hd => by
    rw [List.flatMap_cons, List.append_assoc] at hd
    obtain ⟨g1, g2, g3⟩ := ru_put (hu u List.mem_cons_self) hd
    obtain ⟨h1, h2⟩ := rups_put us _ (fun x hx => hu x (List.mem_cons_of_mem _ hx)) g3
    rw [List.length_cons, List.flatMap_cons, List.length_append, ← Nat.add_assoc]
    refine ⟨?_, h2⟩
    rw [rups_cons, g1, g2, h1]
theorem rsome_put {s : ByteArray} {at_ n lim : Nat} {l : List UInt8} (h : n < 4611686018427387904) (h0 : n ≠ 0) (hl : n ≤ lim) (hd : s.data.toList.drop at_ = pput n ++ l) : rsome ⟨s, at_, 0⟩ lim = (n, ⟨s, at_ + (pput n).length, 0⟩) ∧ s.data.toList.drop (at_ + (pput n).length) = l := by
  obtain ⟨h1, h2⟩ := rnum_put h hl hd
  refine ⟨?_, h2⟩
  unfold rsome
  rw [h1]
  simp only
  rw [if_neg h0]
theorem rget_put {r : Rnd} (h : mayR r = 0) : gre (putB r) = 0 ∧ grr (putB r) = r := by
  obtain ⟨m1, m2, m3, m4, m5, m6, m7⟩ := mayR_ok h
  rw [putB_eq h]
  obtain ⟨o, ho⟩ : ∃ o : Nat, r.o = o := ⟨r.o.toNat, by omega⟩
  obtain ⟨n, hn⟩ : ∃ n : Nat, r.n = n := ⟨r.n.toNat, by omega⟩
  have hd : (str (rbytes r)).data.toList.drop 0 = pput o ++ (pput n ++ (pput r.ups.length ++ (r.ups.flatMap ubytes ++ []))) := by
    unfold rbytes
    rw [show r.o.toNat = o by omega, show r.n.toNat = n by omega]
    simp [str]
  generalize str (rbytes r) = s at hd
  obtain ⟨a1, d1⟩ := rsome_put (lim := 64) (by omega) (by omega) (by omega) hd
  obtain ⟨a2, d2⟩ := rsome_put (lim := 1099511627776) (by omega) (by omega) (by omega) d1
  obtain ⟨a3, d3⟩ := rsome_put (lim := 8) (by omega) (by omega) (by omega) d2
  obtain ⟨a4, d4⟩ := rups_put r.ups _ m7 d3
  have e1 : gr1 s = (o, ⟨s, 0 + (pput o).length, 0⟩) := by unfold gr1; exact a1
  have e2 : gr2 s = (n, ⟨s, 0 + (pput o).length + (pput n).length, 0⟩) := by unfold gr2; rw [e1]; exact a2
  have e3 : gr3 s = (r.ups.length, ⟨s, 0 + (pput o).length + (pput n).length + (pput r.ups.length).length, 0⟩) := by unfold gr3; rw [e2]; exact a3
  have e4 : gr4 s = (r.ups, ⟨s, 0 + (pput o).length + (pput n).length + (pput r.ups.length).length + (r.ups.flatMap ubytes).length, 0⟩) := by unfold gr4; rw [e3]; exact a4
  have e5 : gre s = 0 := by unfold gre; rw [e4]; simp only; rw [rend_put d4]
  refine ⟨e5, ?_⟩
  unfold grr
  rw [if_pos e5, e1, e2, e4]
  simp only
  rw [← ho, ← hn]
end Go.Proofs.YtndahppmjdbifaaGreatDoor.Rou
set_option linter.unusedVariables false
set_option linter.unusedSimpArgs false
namespace Go.Proofs.YtndahppmjdbifaaGreatDoor.Sys
open Go Go.Proofs Go.Proofs.YtndahppmjdbifaaGreatDoor.Eng Go.Proofs.YtndahppmjdbifaaGreatDoor.Pre Go.Proofs.YtndahppmjdbifaaGreatDoor.Pak Go.Proofs.YtndahppmjdbifaaGreatDoor.Val Go.Proofs.YtndahppmjdbifaaGreatDoor.Rou Go.Proofs.YtndahppmjdbifaaGreatDoor.Fra Go.Proofs.YtndahppmjdbifaaGreatDoor.Snd Go.Proofs.YtndahppmjdbifaaGreatDoor.Lnk Go.Proofs.YtndahppmjdbifaaGreatDoor.Jnl Go.Proofs.YtndahppmjdbifaaGreatDoor.Cli Go.Proofs.YtndahppmjdbifaaGreatDoor.Nod Go.Proofs.YtndahppmjdbifaaGreatDoor.Seq
def isO (o : Int) (r : Rnd) : Bool := decide (r.o = o)
def ownR (o : Int) (l : List Rnd) : List Rnd := l.filter (isO o)
def cntI (o : Int) (l : List Rnd) : Nat := (ownR o l).length
theorem cntI_cnt (l : List Rnd) (i : Nat) : cnt l i = cntI (i : Int) l := rfl
theorem ownR_app (o : Int) (l k : List Rnd) : ownR o (l ++ k) = ownR o l ++ ownR o k := List.filter_append ..
theorem ownR_one (o : Int) (r : Rnd) : ownR o [r] = if r.o = o then [r] else [] := by
  unfold ownR isO
  by_cases h : r.o = o <;> simp [h]
theorem cntI_app (o : Int) (l k : List Rnd) : cntI o (l ++ k) = cntI o l + cntI o k := by unfold cntI; rw [ownR_app, List.length_append]
theorem cntI_le (o : Int) (l : List Rnd) : cntI o l ≤ l.length := List.length_filter_le _ _
theorem cntI_pre {o : Int} {l k : List Rnd} (h : l <+: k) : cntI o l ≤ cntI o k := by
  obtain ⟨t, rfl⟩ := h
  rw [cntI_app]; omega
theorem own_at {L : List Rnd} {k : Nat} {r : Rnd} {o : Int} (h : L[k]? = some r) (ho : r.o = o) : (ownR o L)[cntI o (L.take k)]? = some r := by
  obtain ⟨hlt, hx⟩ := List.getElem?_eq_some_iff.1 h
  have e : L = L.take k ++ (r :: L.drop (k + 1)) := by rw [← hx, ← List.drop_eq_getElem_cons hlt, List.take_append_drop]
  have e2 : ownR o L = ownR o (L.take k) ++ (r :: ownR o (L.drop (k + 1))) := by
    conv => lhs; rw [e]
    rw [ownR_app]
    congr 1
    show List.filter _ _ = _
    rw [List.filter_cons_of_pos (by unfold isO; exact decide_eq_true ho)]; rfl
  rw [e2, cntI, List.getElem?_append_right (Nat.le_refl _), Nat.sub_self]
  rfl
theorem cntI_step {L : List Rnd} {k : Nat} {r : Rnd} (o : Int) (h : L[k]? = some r) : cntI o (L.take (k + 1)) = cntI o (L.take k) + if r.o = o then 1 else 0 := by
  rw [List.take_add_one, h, cntI_app]
  congr 1
  show (ownR o [r]).length = _
  rw [ownR_one]; split <;> rfl
theorem pre_snoc {α : Type} {l K : List α} {x : α} (h : l <+: K) (hx : K[l.length]? = some x) : l ++ [x] <+: K := by
  obtain ⟨t, rfl⟩ := h
  rw [List.getElem?_append_right (Nat.le_refl _), Nat.sub_self] at hx
  cases t with
  | nil => simp at hx
  | cons y t =>
    simp only [List.getElem?_cons_zero, Option.some.injEq] at hx
    subst hx
    exact ⟨t, by simp⟩
theorem pre_take {α : Type} {l K : List α} (h : l <+: K) : l = K.take l.length := by
  obtain ⟨t, rfl⟩ := h
  simp
theorem pre_at {α : Type} {l K : List α} {i : Nat} {x : α} (h : l <+: K) (hx : l[i]? = some x) : K[i]? = some x := by
  obtain ⟨t, rfl⟩ := h
  obtain ⟨hlt, _⟩ := List.getElem?_eq_some_iff.1 hx
  rw [List.getElem?_append_left hlt, hx]
structure NR (m : Nod) (L : List Rnd) : Prop where
  jr : ∀ (i : Nat) (r : Rnd), m.j.l[i]? = some r → mayR r = 0 ∧ fits r.ups m.c.mtu = true ∧ r.n = ((i + 1 : Nat) : Int) ∧ r.o = m.origin
  jo : m.j.origin = m.origin
  co : m.own.origin = m.origin
  opn : m.own.opn = [] ∨ fits m.own.opn m.c.mtu = true
  own : ownR m.origin L <+: m.j.l
  lr : ∀ r ∈ L, mayR r = 0
  rk : m.k.r.all <+: L.map putB
  po : m.k.r.popped ≤ m.k.r.all.length
  kn : m.own.known = L.take m.k.r.popped
  pe : m.own.pending = m.j.l.drop (cntI m.origin m.own.known)
  so : m.k.s.all = (m.j.l.take m.offered).map putB
  sl : m.offered ≤ m.j.l.length
theorem NR.cle {m : Nod} {L : List Rnd} (h : NR m L) : cntI m.origin m.own.known ≤ m.j.l.length := by
  have h1 : cntI m.origin m.own.known ≤ cntI m.origin L := by rw [h.kn]; exact cntI_pre (List.take_prefix _ _)
  have h2 : cntI m.origin L ≤ m.j.l.length := h.own.length_le
  omega
theorem NR.yl {m : Nod} {L : List Rnd} (h : NR m L) : m.k.r.all.length ≤ L.length := by
  have := h.rk.length_le
  rwa [List.length_map] at this
theorem NR.log {m : Nod} {L L' : List Rnd} (h : NR m L) (hL : L <+: L') (ho : ownR m.origin L' <+: m.j.l) (hr : ∀ r ∈ L', mayR r = 0) : NR m L' := by
  refine ⟨h.jr, h.jo, h.co, h.opn, ho, hr, h.rk.trans ?_, h.po, ?_, h.pe, h.so, h.sl⟩
  · obtain ⟨t, rfl⟩ := hL
    rw [List.map_append]; exact List.prefix_append _ _
  · rw [h.kn]
    have := h.po
    have := h.yl
    obtain ⟨t, rfl⟩ := hL
    rw [List.take_append_of_le_length (by omega)]
theorem NR.new (c : Cfg) (o : Int) : NR (Nod.new c o) [] := by
  refine ⟨?_, rfl, rfl, .inl rfl, ?_, ?_, ?_, Nat.le_refl _, ?_, ?_, ?_, Nat.le_refl _⟩
  · intro i r h; unfold Nod.new Jnl.new at h; simp at h
  · exact List.nil_prefix
  · simp
  · exact List.prefix_rfl
  · unfold Nod.new Cli.new; simp
  · unfold Nod.new Cli.new Jnl.new; simp [behind]
  · unfold Nod.new Lnk.new Snd.new; simp
theorem NR.upd {m : Nod} {L : List Rnd} (h : NR m L) (hm : m.own.mtu = m.c.mtu) (u : Upd) : NR (m.upd u) L := by
  unfold Nod.upd Cli.upd
  split
  · rename_i he
    refine ⟨h.jr, h.jo, h.co, .inr ?_, h.own, h.lr, h.rk, h.po, h.kn, h.pe, h.so, h.sl⟩
    simp only
    unfold Cli.updE at he
    split at he
    · omega
    · split at he; · cases he
      split at he; · cases he
      rename_i hf
      rw [hm] at hf
      simpa using hf
  · exact h
theorem push_ok {m : Nod} (h1 : m.own.opn = [] ∨ fits m.own.opn m.c.mtu = true) (he : m.own.pushE m.j = 0) : m.j.addE m.own.opn = 0 ∧ mayR (m.j.next m.own.opn) = 0 ∧ fits m.own.opn m.c.mtu = true ∧ m.own.opn ≠ [] ∧ m.own.pending.length < m.own.push ∧ m.j.l.length ≠ m.j.last := by
  have hadd : m.j.addE m.own.opn = 0 ∧ m.own.opn.length ≠ 0 ∧ m.own.pending.length < m.own.push := by
    unfold Cli.pushE at he
    split at he; · cases he
    split at he; · cases he
    rename_i h1 h2
    exact ⟨he, h1, by omega⟩
  have hmr : m.j.l.length ≠ m.j.last ∧ mayR (m.j.next m.own.opn) = 0 := by
    have := hadd.1
    unfold Jnl.addE at this
    split at this
    · cases this
    · exact ⟨by assumption, this⟩
  refine ⟨hadd.1, hmr.2, ?_, fun h => hadd.2.1 (by rw [h]; rfl), hadd.2.2, hmr.1⟩
  rcases h1 with h0 | h0
  · exact absurd (by rw [h0]; rfl) hadd.2.1
  · exact h0
theorem NR.push {m : Nod} {L : List Rnd} (h : NR m L) : NR m.push L := by
  unfold Nod.push Cli.pushC Cli.pushJ
  split
  · rename_i he
    obtain ⟨a1, a2, a3, a4, _⟩ := push_ok h.opn he
    have hj : m.j.add m.own.opn = ⟨m.j.origin, m.j.last, m.j.l ++ [m.j.next m.own.opn]⟩ := by unfold Jnl.add; rw [if_pos a1]
    rw [hj]
    refine ⟨?_, h.jo, h.co, .inl rfl, h.own.trans (List.prefix_append _ _), h.lr, h.rk, h.po, h.kn, ?_, ?_, ?_⟩
    · intro i r hr
      simp only at hr
      rcases Nat.lt_or_ge i m.j.l.length with hl | hl
      · rw [List.getElem?_append_left hl] at hr; exact h.jr i r hr
      · rw [List.getElem?_append_right hl] at hr
        have hz : i - m.j.l.length = 0 := by
          rcases Nat.eq_zero_or_pos (i - m.j.l.length) with h | h
          · exact h
          · rw [List.getElem?_eq_none (by simp; omega)] at hr; cases hr
        rw [hz] at hr
        simp only [List.getElem?_cons_zero, Option.some.injEq] at hr
        subst hr
        refine ⟨a2, a3, ?_, h.jo⟩
        show (m.j.l.length : Int) + 1 = _
        omega
    · simp only
      rw [List.drop_append_of_le_length h.cle, h.pe]
    · simp only
      rw [List.take_append_of_le_length h.sl]; exact h.so
    · simp only [List.length_append, List.length_singleton]
      have := h.sl; omega
  · exact h
theorem behindJ {m : Nod} {L : List Rnd} (h : NR m L) : behind 0 m.j.l = m.j.l := behind_all fun i r hr => (h.jr i r hr).2.2.1
theorem NR.reset {m : Nod} {L : List Rnd} (h : NR m L) : NR m.reset L := by
  unfold Nod.reset
  split
  · refine ⟨h.jr, h.jo, h.co, .inl rfl, h.own, h.lr, ?_, ?_, ?_, ?_, ?_, Nat.zero_le _⟩
    · simp only [Lnk.new, Rcv.new]; exact List.nil_prefix
    · simp only [Lnk.new, Rcv.new]; exact Nat.zero_le _
    · simp [Lnk.new, Rcv.new, Cli.resume]
    · simp only [Cli.resume]
      rw [behindJ h]
      simp [cntI, ownR]
    · simp [Lnk.new, Snd.new]
  · exact h
theorem offl_all (l : List Rnd) (k : Lnk) (n : Nat) : ∃ j, j ≤ l.length ∧ (offl l k n).2 = n + j ∧ (offl l k n).1.s.all = k.s.all ++ (l.take j).map putB := by
  induction l generalizing k n with
  | nil => exact ⟨0, Nat.le_refl _, rfl, by simp [offl]⟩
  | cons r l ih =>
    simp only [offl]
    split
    · rename_i he
      obtain ⟨j, h1, h2, h3⟩ := ih (k.offer (putB r)) (n + 1)
      refine ⟨j + 1, by rw [List.length_cons]; omega, by rw [h2]; omega, ?_⟩
      rw [h3]
      unfold Lnk.offer Snd.offer
      rw [if_pos he]
      simp
    · exact ⟨0, Nat.zero_le _, rfl, by simp⟩
theorem offl_map {J : List Rnd} {k : Lnk} {n : Nat} (hs : k.s.all = (J.take n).map putB) (hn : n ≤ J.length) : (offl (J.drop n) k n).1.s.all = (J.take (offl (J.drop n) k n).2).map putB ∧ (offl (J.drop n) k n).2 ≤ J.length := by
  obtain ⟨j, h1, h2, h3⟩ := offl_all (J.drop n) k n
  rw [List.length_drop] at h1
  rw [h3, h2, hs, List.take_add, List.map_append]
  exact ⟨rfl, by omega⟩
theorem NR.tick {m : Nod} {L : List Rnd} (h : NR m L) : NR m.tick L := by
  obtain ⟨h1, h2⟩ := offl_map h.so h.sl
  have hr : m.tick.k.r = m.k.r := (offl_r _ _ _).1
  exact ⟨h.jr, h.jo, h.co, h.opn, h.own, h.lr, by rw [hr]; exact h.rk, by rw [hr]; exact h.po, by rw [hr]; exact h.kn, h.pe, h1, h2⟩
def Pc (K : List Rnd) (f : Frm) : Prop := f.seq = 0 ∨ ∃ (i : Nat) (r : Rnd), K[i]? = some r ∧ f.seq = ((i + 1 : Nat) : Int) ∧ f.data = putB r
theorem Pc.mono {K K' : List Rnd} {f : Frm} (h : Pc K f) (hk : K <+: K') : Pc K' f := by
  rcases h with h | ⟨i, r, h1, h2, h3⟩
  · exact .inl h
  · exact .inr ⟨i, r, pre_at hk h1, h2, h3⟩
theorem hear_pre {K : List Rnd} {r : Rcv} {f : Frm} (hp : r.all <+: K.map putB) (hf : Pc K f) (h0 : f.seq ≠ 0) : (r.hear f.seq f.data).all <+: K.map putB := by
  unfold Rcv.hear
  split
  · rename_i hh
    unfold Rcv.hears at hh
    have hh := (of_decide_eq_true hh).2
    rcases hf with hf | ⟨i, x, h1, h2, h3⟩
    · exact absurd hf h0
    · refine pre_snoc hp ?_
      have : r.all.length = i := by omega
      rw [this, List.getElem?_map, h1, h3]; rfl
  · exact hp
theorem hear_len (r : Rcv) (seq : Int) (d : ByteArray) : r.all.length ≤ (r.hear seq d).all.length ∧ (r.hear seq d).popped = r.popped ∧ (r.hear seq d).room = r.room := by
  unfold Rcv.hear
  split
  · simp
  · simp
theorem hear_same {k : Lnk} {f : Frm} (he : f.ep = k.ep) : k.hear f = k.hear2 f := by
  unfold Lnk.hear
  rw [if_neg (by omega), if_neg (by omega)]
theorem NR.hear {m : Nod} {L : List Rnd} (h : NR m L) (b : ByteArray) (hf : fgetE b = 0 → (fget b).ep = m.k.ep → Pc L (fget b)) : NR (m.hear b) L := by
  unfold Nod.hear
  split
  · rename_i he
    obtain ⟨e1, e2⟩ : fgetE b = 0 ∧ (fget b).ep = m.k.ep := by
      by_cases hc : fgetE b = 0 ∧ (fget b).ep = m.k.ep
      · exact hc
      · exact absurd he (hearE_ne hc).1
    have hpc := hf e1 e2
    rw [hear_same e2]
    unfold Lnk.hear2
    refine ⟨h.jr, h.jo, h.co, h.opn, h.own, h.lr, ?_, ?_, ?_, h.pe, ?_, h.sl⟩
    · simp only
      split
      · exact h.rk
      · rename_i h0; exact hear_pre h.rk hpc h0
    · simp only
      split
      · exact h.po
      · have := hear_len m.k.r (fget b).seq (fget b).data
        have := h.po
        omega
    · simp only
      split
      · exact h.kn
      · rw [(hear_len m.k.r (fget b).seq (fget b).data).2.1]; exact h.kn
    · simp only [Snd.ack_all]; exact h.so
  · exact h
theorem take_road {c : Cli} {L J : List Rnd} {k : Nat} {r : Rnd} (hk : c.known = L.take k) (hp : c.pending = J.drop (cntI c.origin (L.take k))) (ho : ownR c.origin L <+: J) (hr : L[k]? = some r) :
    c.takE r = 0 ∧ (c.take r).known = L.take (k + 1) ∧ (c.take r).pending = J.drop (cntI c.origin (L.take (k + 1))) ∧ (c.take r).origin = c.origin := by
  have hs := cntI_step c.origin hr
  have htk : L.take (k + 1) = L.take k ++ [r] := by rw [List.take_add_one, hr]; rfl
  by_cases hc : r.o = c.origin
  · have hat := pre_at ho (own_at hr hc)
    obtain ⟨hlt, hx⟩ := List.getElem?_eq_some_iff.1 hat
    have hpd : c.pending = r :: J.drop (cntI c.origin (L.take k) + 1) := by rw [hp, List.drop_eq_getElem_cons hlt, hx]
    have ht : c.takE r = 0 := by
      unfold Cli.takE
      rw [if_pos hc, hpd]
      simp
    refine ⟨ht, ?_, ?_, (Cli.take_same c r).2.1⟩
    · unfold Cli.take; rw [if_pos ht]; simp only; rw [hk, htk]
    · unfold Cli.take; rw [if_pos ht]; simp only; rw [if_pos hc, hpd, hs, if_pos hc]; rfl
  · have ht : c.takE r = 0 := by unfold Cli.takE; rw [if_neg hc]
    refine ⟨ht, ?_, ?_, (Cli.take_same c r).2.1⟩
    · unfold Cli.take; rw [if_pos ht]; simp only; rw [hk, htk]
    · unfold Cli.take; rw [if_pos ht]; simp only; rw [if_neg hc, hp, hs, if_neg hc, Nat.add_zero]
theorem takeL_road {L J : List Rnd} (hL : ∀ r ∈ L, mayR r = 0) : ∀ (l : List ByteArray) (c : Cli) (k : Nat), c.known = L.take k → c.pending = J.drop (cntI c.origin (L.take k)) → ownR c.origin L <+: J → l <+: (L.drop k).map putB →
    (c.takeL l).known = L.take (k + l.length) ∧ (c.takeL l).pending = J.drop (cntI c.origin (L.take (k + l.length))) ∧ c.tookL l = l.length
  | [], c, k, hk, hp, _, _ => ⟨hk, hp, rfl⟩
  | d :: l, c, k, hk, hp, ho, hl => by
    obtain ⟨t, ht⟩ := hl
    have hlt : k < L.length := by
      rcases Nat.lt_or_ge k L.length with h | h
      · exact h
      · rw [List.drop_eq_nil_of_le h] at ht; simp at ht
    rw [List.drop_eq_getElem_cons hlt, List.map_cons, List.cons_append, List.cons.injEq] at ht
    obtain ⟨hd, ht⟩ := ht
    have hr : L[k]? = some L[k] := List.getElem?_eq_getElem hlt
    obtain ⟨g1, g2⟩ := rget_put (hL _ (List.getElem_mem hlt))
    obtain ⟨t1, t2, t3, t4⟩ := take_road hk hp ho hr
    have h1 : c.take1 d = c.take L[k] := by unfold Cli.take1; rw [hd, if_pos g1, g2]
    have h2 : c.took1 d = 1 := by unfold Cli.took1; rw [hd, g2, if_pos ⟨g1, t1⟩]
    rw [← t4] at t3
    obtain ⟨i1, i2, i3⟩ := takeL_road hL l (c.take L[k]) (k + 1) t2 t3 (by rw [t4]; exact ho) ⟨t, ht⟩
    simp only [Cli.takeL, Cli.tookL, h1, h2, List.length_cons]
    rw [show k + (l.length + 1) = k + 1 + l.length by omega]
    refine ⟨i1, ?_, by omega⟩
    rw [i2, t4]
theorem came_pre {m : Nod} {L : List Rnd} (h : NR m L) : m.k.r.came <+: (L.drop m.k.r.popped).map putB := by
  unfold Rcv.came
  obtain ⟨t, ht⟩ := h.rk
  rw [List.map_drop, ← ht, List.drop_append_of_le_length h.po]
  exact List.prefix_append _ _
theorem pull_road {m : Nod} {L : List Rnd} (h : NR m L) : m.pull.own.known = L.take m.k.r.all.length ∧ m.pull.own.pending = m.j.l.drop (cntI m.origin (L.take m.k.r.all.length)) ∧ m.pullN = m.k.r.wait ∧ m.pull.k.r.popped = m.k.r.all.length := by
  have hpe := h.pe
  rw [h.kn, ← h.co] at hpe
  obtain ⟨t1, t2, t3⟩ := takeL_road h.lr m.k.r.came m.own m.k.r.popped h.kn hpe (by rw [h.co]; exact h.own) (came_pre h)
  have hcl := Rcv.came_length m.k.r
  have hw : m.k.r.popped + m.k.r.wait = m.k.r.all.length := by have := h.po; unfold Rcv.wait; omega
  rw [hcl, hw] at t1 t2
  refine ⟨t1, by rw [← h.co]; exact t2, by unfold Nod.pullN; rw [t3, hcl], ?_⟩
  unfold Nod.pull Lnk.pops
  simp only
  omega
theorem NR.pull {m : Nod} {L : List Rnd} (h : NR m L) : NR m.pull L := by
  obtain ⟨p1, p2, p3, p4⟩ := pull_road h
  obtain ⟨_, a2, _, a4, _⟩ := Cli.takeL_same m.own m.k.r.came
  refine ⟨h.jr, h.jo, a2.trans h.co, ?_, h.own, h.lr, h.rk, ?_, ?_, ?_, h.so, h.sl⟩
  · unfold Nod.pull; simp only [a4]; exact h.opn
  · rw [p4]; exact Nat.le_refl _
  · rw [p4]; exact p1
  · rw [p1]; exact p2
end Go.Proofs.YtndahppmjdbifaaGreatDoor.Sys
set_option linter.unusedVariables false
set_option linter.unusedSimpArgs false
namespace Go.Proofs.YtndahppmjdbifaaGreatDoor.Sys
open Go Go.Proofs Go.Proofs.YtndahppmjdbifaaGreatDoor.Eng Go.Proofs.YtndahppmjdbifaaGreatDoor.Pre Go.Proofs.YtndahppmjdbifaaGreatDoor.Pak Go.Proofs.YtndahppmjdbifaaGreatDoor.Val Go.Proofs.YtndahppmjdbifaaGreatDoor.Rou Go.Proofs.YtndahppmjdbifaaGreatDoor.Fra Go.Proofs.YtndahppmjdbifaaGreatDoor.Snd Go.Proofs.YtndahppmjdbifaaGreatDoor.Lnk Go.Proofs.YtndahppmjdbifaaGreatDoor.Jnl Go.Proofs.YtndahppmjdbifaaGreatDoor.Cli Go.Proofs.YtndahppmjdbifaaGreatDoor.Nod Go.Proofs.YtndahppmjdbifaaGreatDoor.Seq
structure PR (p : Peer) (J : List Rnd) (o : Int) (L : List Rnd) : Prop where
  rp : p.k.r.all <+: J.map putB
  rd : p.k.r.popped = p.k.r.all.length
  rc : p.k.r.all.length ≤ cntI o L
  sp : p.k.s.all = (L.take p.a).map putB
  sa : p.a ≤ L.length
  ok : p.k.ok
  pas : p.k.pas = true
theorem PR.log {p : Peer} {J L L' : List Rnd} {o : Int} (h : PR p J o L) (hL : L <+: L') : PR p J o L' := by
  have h1 := h.rc
  have h2 := cntI_pre (o := o) hL
  refine ⟨h.rp, h.rd, by omega, ?_, Nat.le_trans h.sa hL.length_le, h.ok, h.pas⟩
  rw [h.sp]
  have := h.sa
  obtain ⟨t, rfl⟩ := hL
  rw [List.take_append_of_le_length (by omega)]
theorem PR.fresh (c : Cfg) (J : List Rnd) (o : Int) (L : List Rnd) : PR (Peer.fresh c) J o L := by
  unfold Peer.fresh Lnk.new Rcv.new Snd.new
  exact ⟨List.nil_prefix, rfl, Nat.zero_le _, by simp, Nat.zero_le _, Lnk.new_ok _ _ _ _, rfl⟩
theorem PR.pump {p : Peer} {J : List Rnd} {o : Int} {lg : Log} (h : PR p J o lg.l) : PR (p.pump lg) J o lg.l := by
  obtain ⟨h1, h2⟩ := offl_map h.sp h.sa
  have hr : (p.pump lg).k.r = p.k.r := (offl_r _ _ _).1
  exact ⟨by rw [hr]; exact h.rp, by rw [hr]; exact h.rd, by rw [hr]; exact h.rc, h1, h2, offl_ok h.ok, (offl_r _ _ _).2.2.2.2.trans h.pas⟩
structure JR (J : List Rnd) (o mtu : Int) : Prop where
  jr : ∀ (i : Nat) (r : Rnd), J[i]? = some r → mayR r = 0 ∧ fits r.ups mtu = true ∧ r.n = ((i + 1 : Nat) : Int) ∧ r.o = o
theorem NR.j {m : Nod} {L : List Rnd} (h : NR m L) : JR m.j.l m.origin m.c.mtu := ⟨h.jr⟩
def Next (J : List Rnd) (o : Int) (L L' : List Rnd) : Prop := L' = L ∨ ∃ r, L' = L ++ [r] ∧ r.o = o ∧ J[cntI o L]? = some r
theorem Next.pre {J L L' : List Rnd} {o : Int} (h : Next J o L L') : L <+: L' := by
  rcases h with rfl | ⟨r, rfl, _, _⟩
  · exact List.prefix_rfl
  · exact List.prefix_append _ _
theorem Next.own {J L L' : List Rnd} {o : Int} (h : Next J o L L') (hj : ownR o L <+: J) : ownR o L' <+: J := by
  rcases h with rfl | ⟨r, rfl, h1, h2⟩
  · exact hj
  · rw [ownR_app, ownR_one, if_pos h1]
    exact pre_snoc hj h2
theorem Next.lr {J L L' : List Rnd} {o mtu : Int} (h : Next J o L L') (hj : JR J o mtu) (hL : ∀ r ∈ L, mayR r = 0) : ∀ r ∈ L', mayR r = 0 := by
  rcases h with rfl | ⟨r, rfl, h1, h2⟩
  · exact hL
  · intro x hx
    simp only [List.mem_append, List.mem_singleton] at hx
    rcases hx with hx | rfl
    · exact hL x hx
    · exact (hj.jr _ _ h2).1
theorem add_next {J : List Rnd} {o mtu : Int} {lg : Log} {x : Nat} {r : Rnd} (hj : JR J o mtu) (ho : 1 ≤ o ∧ o ≤ lg.clients) (hx : J[x]? = some r) (hc : x ≤ cntI o lg.l) :
    (lg.hear1 o mtu (putB r)).clients = lg.clients ∧ Next J o lg.l (lg.hear1 o mtu (putB r)).l ∧ x + 1 ≤ cntI o (lg.hear1 o mtu (putB r)).l := by
  obtain ⟨j1, j2, j3, j4⟩ := hj.jr x r hx
  obtain ⟨g1, g2⟩ := rget_put j1
  have h1 : lg.hear1 o mtu (putB r) = lg.add r := by unfold Log.hear1; rw [g2, if_pos ⟨g1, j4, j2⟩]
  have hcn : cnt lg.l r.o.toNat = cntI o lg.l := by
    rw [cntI_cnt, j4, Int.toNat_of_nonneg (by omega)]
  have he : lg.addE r = if r.n < (cntI o lg.l + 1 : Nat) then 12 else if r.n > (cntI o lg.l + 1 : Nat) then 10 else 0 := by
    unfold Log.addE; rw [if_neg (by omega), if_neg (by omega), hcn]
  rw [h1]
  by_cases hlt : x < cntI o lg.l
  · have hq : lg.add r = lg := by
      have h12 : lg.addE r = 12 := by rw [he, if_pos (by omega)]
      unfold Log.add; rw [h12]; rfl
    rw [hq]
    exact ⟨rfl, .inl rfl, by omega⟩
  · have hq : lg.add r = ⟨lg.clients, lg.l ++ [r]⟩ := by
      have h12 : lg.addE r = 0 := by rw [he, if_neg (by omega), if_neg (by omega)]
      unfold Log.add; rw [h12]; rfl
    rw [hq]
    have hxc : x = cntI o lg.l := by omega
    refine ⟨rfl, .inr ⟨r, rfl, j4, by rw [← hxc]; exact hx⟩, ?_⟩
    simp only
    rw [cntI_app]
    have : cntI o [r] = 1 := by show (ownR o [r]).length = 1; rw [ownR_one, if_pos j4]; rfl
    omega
def Lnk.base (k : Lnk) (f : Frm) : Lnk := if f.ep > k.ep then k.fresh f.ep else k
theorem hear_base {k : Lnk} {f : Frm} (hp : k.pas = true) (he : ¬ f.ep < k.ep) : k.hear f = (Lnk.base k f).hear2 f := by
  unfold Lnk.hear Lnk.base
  rw [if_neg he]
  split
  · simp only [hp, if_true]
  · rfl
theorem fresh_pr {p : Peer} {J : List Rnd} {o : Int} {L : List Rnd} (h : PR p J o L) (f : Frm) : PR ⟨Lnk.base p.k f, if p.k.anew f then 0 else p.a⟩ J o L := by
  unfold Lnk.base Lnk.anew
  by_cases hc : f.ep > p.k.ep
  · rw [if_pos hc, h.pas, decide_eq_true hc]
    unfold Lnk.fresh Rcv.new Snd.new
    exact ⟨List.nil_prefix, rfl, Nat.zero_le _, by simp, Nat.zero_le _, Lnk.fresh_ok _ _, h.pas⟩
  · rw [if_neg hc, decide_eq_false hc]
    exact h
theorem PR.hear {p : Peer} {J : List Rnd} {o mtu : Int} {lg : Log} {f : Frm} (h : PR p J o lg.l) (hj : JR J o mtu) (ho : 1 ≤ o ∧ o ≤ lg.clients) (hf : Pc J f) (he : ¬ f.ep < p.k.ep) (hs : f.seq ≤ 1125899906842624) :
    (lg.hearL o mtu (p.k.hear f).r.came).clients = lg.clients ∧ Next J o lg.l (lg.hearL o mtu (p.k.hear f).r.came).l ∧ PR (p.hear f) J o (lg.hearL o mtu (p.k.hear f).r.came).l := by
  have hb := fresh_pr h f
  have hok1 : (p.k.hear f).ok := Lnk.hear_ok h.ok hs
  have hh := hear_base h.pas he
  have hpas : (p.k.hear f).pas = true := by rw [hh]; unfold Lnk.hear2; exact hb.pas
  have hk : (p.hear f).k = (p.k.hear f).pops (p.k.hear f).r.wait := rfl
  have ha : (p.hear f).a = if p.k.anew f then 0 else p.a := rfl
  have hsall : (p.k.hear f).s.all = (Lnk.base p.k f).s.all := by rw [hh]; unfold Lnk.hear2; exact Snd.ack_all _ _
  have hall : (p.k.hear f).r.all <+: J.map putB := by
    rw [hh]; unfold Lnk.hear2; simp only
    split
    · exact hb.rp
    · rename_i h0; exact hear_pre hb.rp hf h0
  have hpop : (p.k.hear f).r.popped = (Lnk.base p.k f).r.all.length := by
    rw [hh, ← hb.rd]; unfold Lnk.hear2; simp only
    split
    · rfl
    · exact (hear_len _ _ _).2.1
  have hlen : (Lnk.base p.k f).r.all.length ≤ (p.k.hear f).r.all.length ∧ (p.k.hear f).r.all.length ≤ (Lnk.base p.k f).r.all.length + 1 := by
    rw [hh]; unfold Lnk.hear2; simp only
    split
    · exact ⟨Nat.le_refl _, by omega⟩
    · unfold Rcv.hear
      split <;> simp
  have hrc : (Lnk.base p.k f).r.all.length ≤ cntI o lg.l := hb.rc
  have key : ∀ L', lg.l <+: L' → (p.k.hear f).r.all.length ≤ cntI o L' → PR (p.hear f) J o L' := by
    intro L' hL hc
    have hb' := hb.log hL
    refine ⟨hall, ?_, hc, ?_, hb'.sa, Lnk.pops_ok _ _ hok1, hpas⟩
    · rw [hk]; unfold Lnk.pops Rcv.wait; simp only; omega
    · rw [hk, ha]; unfold Lnk.pops; simp only; rw [hsall]; exact hb'.sp
  have hcl := Rcv.came_length (p.k.hear f).r
  rcases Nat.eq_or_lt_of_le hlen.1 with heq | hlt
  · have hc0 : (p.k.hear f).r.came = [] := List.length_eq_zero_iff.1 (by rw [hcl]; unfold Rcv.wait; omega)
    rw [hc0]
    exact ⟨rfl, .inl rfl, key _ List.prefix_rfl (by simp only [Log.hearL]; omega)⟩
  · have hl1 : (p.k.hear f).r.all.length = (Lnk.base p.k f).r.all.length + 1 := by omega
    have hJl := hall.length_le
    rw [List.length_map] at hJl
    obtain ⟨r, hr⟩ : ∃ r, J[(Lnk.base p.k f).r.all.length]? = some r := ⟨_, List.getElem?_eq_getElem (by omega)⟩
    have hc1 : (p.k.hear f).r.came = [putB r] := by
      unfold Rcv.came
      rw [hpop, pre_take hall, hl1]
      apply List.ext_getElem?
      intro i
      rw [List.getElem?_drop]
      cases i with
      | zero => rw [List.getElem?_take, if_pos (by omega)]; simp [hr]
      | succ i => rw [List.getElem?_take, if_neg (by omega)]; simp
    rw [hc1]
    obtain ⟨a1, a2, a3⟩ := add_next hj ho hr hrc
    exact ⟨a1, a2, key _ a2.pre (by simp only [Log.hearL]; omega)⟩
end Go.Proofs.YtndahppmjdbifaaGreatDoor.Sys
set_option linter.unusedVariables false
set_option linter.unusedSimpArgs false
namespace Go.Proofs.YtndahppmjdbifaaGreatDoor.Sys
open Go Go.Proofs Go.Proofs.YtndahppmjdbifaaGreatDoor.Eng Go.Proofs.YtndahppmjdbifaaGreatDoor.Pre Go.Proofs.YtndahppmjdbifaaGreatDoor.Pak Go.Proofs.YtndahppmjdbifaaGreatDoor.Val Go.Proofs.YtndahppmjdbifaaGreatDoor.Rou Go.Proofs.YtndahppmjdbifaaGreatDoor.Fra Go.Proofs.YtndahppmjdbifaaGreatDoor.Snd Go.Proofs.YtndahppmjdbifaaGreatDoor.Lnk Go.Proofs.YtndahppmjdbifaaGreatDoor.Jnl Go.Proofs.YtndahppmjdbifaaGreatDoor.Cli Go.Proofs.YtndahppmjdbifaaGreatDoor.Nod Go.Proofs.YtndahppmjdbifaaGreatDoor.Seq
structure Sync (m : Nod) (p : Peer) : Prop where
  le : p.k.ep ≤ m.k.ep
  eq : p.k.ep = m.k.ep → m.k.s.acked ≤ p.k.r.all.length ∧ p.k.r.all.length ≤ m.k.s.all.length ∧ p.k.s.acked ≤ m.k.r.all.length ∧ m.k.r.all.length ≤ p.k.s.all.length
  lt : p.k.ep < m.k.ep → m.k.s.acked = 0 ∧ m.k.r.all.length = 0
def LLe (k k' : Lnk) : Prop := k.ep < k'.ep ∨ (k.ep = k'.ep ∧ k.r.all.length ≤ k'.r.all.length ∧ k.s.all.length ≤ k'.s.all.length)
theorem LLe.refl (k : Lnk) : LLe k k := .inr ⟨rfl, Nat.le_refl _, Nat.le_refl _⟩
theorem LLe.trans {a b c : Lnk} (h : LLe a b) (h' : LLe b c) : LLe a c := by unfold LLe at *; omega
def SF (k : Lnk) (f : Frm) : Prop := f.ep ≤ k.ep ∧ 0 ≤ f.ack ∧ 0 ≤ f.seq ∧ f.seq ≤ 1125899906842624 ∧ (f.ep = k.ep → f.ack ≤ k.r.all.length ∧ f.seq ≤ k.s.all.length)
theorem SF.mono {k k' : Lnk} {f : Frm} (h : SF k f) (hk : LLe k k') : SF k' f := by unfold SF LLe at *; omega
structure UpF (m : Nod) (f : Frm) : Prop where
  s : SF m.k f
  p : Pc m.j.l f
structure DnF (p : Peer) (L : List Rnd) (f : Frm) : Prop where
  s : SF p.k f
  p : Pc L f
theorem UpF.mono {m m' : Nod} {f : Frm} (h : UpF m f) (hk : LLe m.k m'.k) (hj : m.j.l <+: m'.j.l) : UpF m' f := ⟨h.s.mono hk, h.p.mono hj⟩
theorem DnF.mono {p p' : Peer} {L L' : List Rnd} {f : Frm} (h : DnF p L f) (hk : LLe p.k p'.k) (hL : L <+: L') : DnF p' L' f := ⟨h.s.mono hk, h.p.mono hL⟩
theorem pcs_get {a : Nat} {l : List ByteArray} {x : Nat × ByteArray} (h : x ∈ pcs a l) : ∃ i, x.1 = a + i + 1 ∧ l[i]? = some x.2 := by
  induction l generalizing a with
  | nil => cases h
  | cons d l ih =>
    simp only [pcs, List.mem_cons] at h
    rcases h with rfl | h
    · exact ⟨0, rfl, rfl⟩
    · obtain ⟨i, h1, h2⟩ := ih h
      exact ⟨i + 1, by omega, by simpa using h2⟩
theorem frames_sf {k : Lnk} {K : List Rnd} {n : Nat} (hk : k.ok) (hs : k.s.all = (K.take n).map putB) {f : Frm} (hf : f ∈ k.frames) : SF k f ∧ Pc K f ∧ f.ep = k.ep ∧ f.ack = k.r.all.length := by
  obtain ⟨h1, h2, h3⟩ := hk
  unfold Snd.ok at h2
  unfold Lnk.frames at hf
  split at hf
  · cases hf
  · split at hf
    · simp only [List.mem_singleton] at hf
      subst hf
      refine ⟨⟨by simp, by simp, by simp, by simp, fun _ => ⟨by simp, by simp⟩⟩, .inl rfl, rfl, rfl⟩
    · obtain ⟨x, hx, rfl⟩ := List.mem_map.1 hf
      unfold Snd.pieces at hx
      obtain ⟨i, e1, e2⟩ := pcs_get hx
      rw [List.getElem?_drop] at e2
      obtain ⟨hlt, _⟩ := List.getElem?_eq_some_iff.1 e2
      unfold frm
      refine ⟨⟨by simp, by simp only; omega, by simp only; omega, by simp only; omega, fun _ => ⟨by simp, by simp only; omega⟩⟩, .inr ?_, rfl, rfl⟩
      have e3 := e2
      rw [hs, List.getElem?_map] at e3
      cases hr : (K.take n)[k.s.acked + i]? with
      | none => rw [hr] at e3; simp at e3
      | some r =>
        rw [hr] at e3
        simp only [Option.map_some, Option.some.injEq] at e3
        have hr2 := pre_at (List.take_prefix n K) hr
        exact ⟨k.s.acked + i, r, hr2, by simp only; omega, e3.symm⟩
theorem up_frames {m : Nod} {L : List Rnd} (h : NR m L) (hk : m.k.ok) {f : Frm} (hf : f ∈ m.k.frames) : UpF m f ∧ f.ep = m.k.ep ∧ f.ack = m.k.r.all.length := by
  obtain ⟨a, b, c, d⟩ := frames_sf hk h.so hf
  exact ⟨⟨a, b⟩, c, d⟩
theorem dn_frames {p : Peer} {J : List Rnd} {o : Int} {L : List Rnd} (h : PR p J o L) {f : Frm} (hf : f ∈ p.k.frames) : DnF p L f ∧ f.ep = p.k.ep ∧ f.ack = p.k.r.all.length := by
  obtain ⟨a, b, c, d⟩ := frames_sf h.ok h.sp hf
  exact ⟨⟨a, b⟩, c, d⟩
theorem offl_len (l : List Rnd) (k : Lnk) (n : Nat) : LLe k (offl l k n).1 := by
  obtain ⟨j, _, _, h3⟩ := offl_all l k n
  obtain ⟨h4, h5, _⟩ := offl_r l k n
  refine .inr ⟨h5.symm, by rw [h4]; exact Nat.le_refl _, ?_⟩
  rw [h3, List.length_append]; omega
theorem tick_lle (m : Nod) : LLe m.k m.tick.k := offl_len _ _ _
theorem pump_lle (lg : Log) (p : Peer) : LLe p.k (p.pump lg).k := offl_len _ _ _
theorem Sync.tick {m : Nod} {p : Peer} (h : Sync m p) : Sync m.tick p := by
  have h1 : m.tick.k.ep = m.k.ep := (offl_r _ _ _).2.1
  have h2 : m.tick.k.r = m.k.r := (offl_r _ _ _).1
  have h3 : m.tick.k.s.acked = m.k.s.acked := (offl_win _ _ _).2
  have h4 := tick_lle m
  unfold LLe at h4
  refine ⟨by rw [h1]; exact h.le, fun he => ?_, fun he => ?_⟩
  · have := h.eq (by omega); rw [h2, h3]; omega
  · have := h.lt (by omega); rw [h2, h3]; omega
theorem Sync.pump {m : Nod} {p : Peer} (h : Sync m p) (lg : Log) : Sync m (p.pump lg) := by
  have h1 : (p.pump lg).k.ep = p.k.ep := (offl_r _ _ _).2.1
  have h2 : (p.pump lg).k.r = p.k.r := (offl_r _ _ _).1
  have h3 : (p.pump lg).k.s.acked = p.k.s.acked := (offl_win _ _ _).2
  have h4 := pump_lle lg p
  unfold LLe at h4
  refine ⟨by rw [h1]; exact h.le, fun he => ?_, fun he => ?_⟩
  · have := h.eq (by omega); rw [h2, h3]; omega
  · exact h.lt (by omega)
theorem Sync.same {m m' : Nod} {p : Peer} (h : Sync m p) (hk : m'.k.ep = m.k.ep ∧ m'.k.s = m.k.s ∧ m'.k.r.all = m.k.r.all) : Sync m' p := by
  obtain ⟨h1, h2, h3⟩ := hk
  exact ⟨by rw [h1]; exact h.le, fun he => by rw [h2, h3]; exact h.eq (by omega), fun he => by rw [h2, h3]; exact h.lt (by omega)⟩
theorem pull_k (m : Nod) : m.pull.k.ep = m.k.ep ∧ m.pull.k.s = m.k.s ∧ m.pull.k.r.all = m.k.r.all := ⟨rfl, rfl, rfl⟩
theorem reset_lle {m : Nod} (h : m.resetE = 0) (hl : m.c.last ≤ 1099511627776) : m.reset.k.ep = m.k.ep + 1 ∧ m.reset.k.s.acked = 0 ∧ m.reset.k.r.all.length = 0 := by
  unfold Nod.reset
  rw [if_pos h]
  unfold Nod.resetE at h
  split at h
  · cases h
  · refine ⟨?_, rfl, rfl⟩
    exact (lnk_new_ep _ _ _ _).trans (by unfold epc; omega)
theorem Sync.reset {m : Nod} {p : Peer} (h : Sync m p) (hl : m.c.last ≤ 1099511627776) : Sync m.reset p ∧ LLe m.k m.reset.k := by
  by_cases hc : m.resetE = 0
  · obtain ⟨h1, h2, h3⟩ := reset_lle hc hl
    have := h.le
    exact ⟨⟨by omega, fun he => by omega, fun _ => ⟨h2, h3⟩⟩, .inl (by omega)⟩
  · have : m.reset = m := by unfold Nod.reset; rw [if_neg hc]
    rw [this]; exact ⟨h, LLe.refl _⟩
theorem ack_le (s : Snd) (n : Int) : s.acked ≤ (s.ack n).acked ∧ ((s.ack n).acked : Int) ≤ max (s.acked : Int) n ∧ (n ≤ s.all.length → n ≤ (s.ack n).acked) := by
  unfold Snd.ack
  split
  · omega
  · simp only; omega
theorem hear2_lle (k : Lnk) (f : Frm) : LLe k (k.hear2 f) := by
  unfold Lnk.hear2
  refine .inr ⟨rfl, ?_, by simp only [Snd.ack_all]; exact Nat.le_refl _⟩
  simp only
  split
  · exact Nat.le_refl _
  · exact (hear_len _ _ _).1
theorem hear_all_le (r : Rcv) (seq : Int) (d : ByteArray) (B : Nat) (hr : r.all.length ≤ B) (hs : seq ≤ B) : (r.hear seq d).all.length ≤ B := by
  unfold Rcv.hear
  split
  · rename_i hh
    unfold Rcv.hears at hh
    have hh := (of_decide_eq_true hh).2
    simp only [List.length_append, List.length_singleton]
    omega
  · exact hr
theorem nhear_eq {m : Nod} {b : ByteArray} (h1 : fgetE b = 0) (h2 : (fget b).ep = m.k.ep) : m.hear b = { m with k := m.k.hear2 (fget b) } := by
  have he : m.hearE b = 0 := by unfold Nod.hearE; rw [if_neg (by omega), if_neg (by omega)]
  unfold Nod.hear
  rw [if_pos he, hear_same h2]
theorem nhear_lle (m : Nod) (b : ByteArray) : LLe m.k (m.hear b).k := by
  by_cases hc : fgetE b = 0 ∧ (fget b).ep = m.k.ep
  · rw [nhear_eq hc.1 hc.2]; exact hear2_lle _ _
  · rw [(hearE_ne hc).2]; exact LLe.refl _
theorem Sync.nhear {m : Nod} {p : Peer} (h : Sync m p) {b : ByteArray} (hf : fgetE b = 0 → SF p.k (fget b)) : Sync (m.hear b) p := by
  by_cases hc : fgetE b = 0 ∧ (fget b).ep = m.k.ep
  · obtain ⟨h1, h2⟩ := hc
    obtain ⟨s1, s2, s3, s4, s5⟩ := hf h1
    rw [nhear_eq h1 h2]
    have hle := h.le
    have hep : p.k.ep = m.k.ep := by omega
    obtain ⟨e1, e2, e3, e4⟩ := h.eq hep
    obtain ⟨f1, f2⟩ := s5 (by omega)
    obtain ⟨k1, k2, k3⟩ := ack_le m.k.s (fget b).ack
    unfold Lnk.hear2
    refine ⟨hle, fun _ => ?_, fun he => ?_⟩
    · simp only [Snd.ack_all]
      refine ⟨by omega, e2, ?_, ?_⟩
      · split
        · exact e3
        · have := (hear_len m.k.r (fget b).seq (fget b).data).1; omega
      · split
        · exact e4
        · exact hear_all_le _ _ _ _ e4 (by omega)
    · simp only at he; omega
  · rw [(hearE_ne hc).2]; exact h
theorem phear_lle {p : Peer} {J : List Rnd} {o : Int} {L : List Rnd} (h : PR p J o L) (f : Frm) (he : ¬ f.ep < p.k.ep) (hm : f.ep ≤ 1099511627776) : LLe p.k (p.hear f).k ∧ ((p.hear f).k.ep : Int) = f.ep := by
  have hh := hear_base h.pas he
  have hk : (p.hear f).k.ep = (p.k.hear f).ep ∧ (p.hear f).k.r.all = (p.k.hear f).r.all ∧ (p.hear f).k.s = (p.k.hear f).s := ⟨rfl, rfl, rfl⟩
  rw [hh] at hk
  have h2 := hear2_lle (Lnk.base p.k f) f
  unfold LLe at h2 ⊢
  rw [hk.1, hk.2.1, hk.2.2]
  have hb : ((Lnk.base p.k f).ep : Int) = f.ep ∧ (Lnk.base p.k f = p.k ∨ p.k.ep < (Lnk.base p.k f).ep) := by
    unfold Lnk.base
    split
    · unfold Lnk.fresh epc; simp only; omega
    · exact ⟨by omega, .inl rfl⟩
  have he2 : ((Lnk.base p.k f).hear2 f).ep = (Lnk.base p.k f).ep := rfl
  rw [he2]
  refine ⟨?_, by omega⟩
  rcases hb.2 with h3 | h3
  · have e3 : (p.k.hear2 f).ep = p.k.ep := rfl
    rw [h3] at h2 ⊢
    omega
  · left; omega
theorem Sync.phear {m : Nod} {p : Peer} {J : List Rnd} {o : Int} {L : List Rnd} (h : Sync m p) (hp : PR p J o L) {f : Frm} (hf : SF m.k f) (he : ¬ f.ep < p.k.ep) (hm : m.k.ep ≤ 1099511627776) : Sync m (p.hear f) := by
  obtain ⟨s1, s2, s3, s4, s5⟩ := hf
  have hh := hear_base hp.pas he
  have hk : (p.hear f).k.ep = (p.k.hear f).ep ∧ (p.hear f).k.r.all = (p.k.hear f).r.all ∧ (p.hear f).k.s = (p.k.hear f).s := ⟨rfl, rfl, rfl⟩
  rw [hh] at hk
  obtain ⟨h1, h2, h3⟩ := hk
  have hep := (phear_lle hp f he (by omega)).2
  have hall : (p.hear f).k.r.all.length = ((Lnk.base p.k f).hear2 f).r.all.length := by rw [h2]
  refine ⟨by omega, fun heq => ?_, fun hlt => h.lt (by have := h.le; omega)⟩
  obtain ⟨f1, f2⟩ := s5 (by omega)
  obtain ⟨k1, k2, k3⟩ := ack_le (Lnk.base p.k f).s f.ack
  have e1 : (p.hear f).k.s.acked = ((Lnk.base p.k f).s.ack f.ack).acked := by rw [h3]; rfl
  have e2 : (p.hear f).k.s.all = (Lnk.base p.k f).s.all := by rw [h3]; unfold Lnk.hear2; exact Snd.ack_all _ _
  by_cases hc : f.ep > p.k.ep
  · have hb : Lnk.base p.k f = p.k.fresh f.ep := by unfold Lnk.base; rw [if_pos hc]
    obtain ⟨l1, l2⟩ := h.lt (by omega)
    rw [hb] at e1 e2 hall
    have hs0 : (p.k.fresh f.ep).s.all = [] := rfl
    have hr0 : (p.k.fresh f.ep).r.all = [] := rfl
    have ha0 : ((p.k.fresh f.ep).s.ack f.ack).acked = 0 := by
      unfold Snd.ack
      rw [if_pos (by rw [hs0]; simp only [List.length_nil, Lnk.fresh, Snd.new]; omega)]
      rfl
    rw [e1, e2, ha0, hs0, hall]
    refine ⟨by omega, ?_, Nat.zero_le _, by rw [l2]; exact Nat.zero_le _⟩
    unfold Lnk.hear2; simp only
    split
    · rw [hr0]; exact Nat.zero_le _
    · exact hear_all_le _ _ _ _ (by rw [hr0]; exact Nat.zero_le _) (by omega)
  · have hb : Lnk.base p.k f = p.k := by unfold Lnk.base; rw [if_neg hc]
    obtain ⟨q1, q2, q3, q4⟩ := h.eq (by omega)
    rw [hb] at e1 e2 hall k1 k2 k3
    rw [e1, e2, hall]
    have := (hear2_lle p.k f)
    unfold LLe at this
    refine ⟨?_, ?_, by omega, q4⟩
    · have e3 : (p.k.hear2 f).ep = p.k.ep := rfl
      omega
    · unfold Lnk.hear2; simp only
      split
      · exact q2
      · exact hear_all_le _ _ _ _ q2 (by omega)
end Go.Proofs.YtndahppmjdbifaaGreatDoor.Sys
set_option linter.unusedVariables false
set_option linter.unusedSimpArgs false
namespace Go.Proofs.YtndahppmjdbifaaGreatDoor.Sys
open Go Go.Proofs Go.Proofs.YtndahppmjdbifaaGreatDoor.Eng Go.Proofs.YtndahppmjdbifaaGreatDoor.Pre Go.Proofs.YtndahppmjdbifaaGreatDoor.Pak Go.Proofs.YtndahppmjdbifaaGreatDoor.Val Go.Proofs.YtndahppmjdbifaaGreatDoor.Rou Go.Proofs.YtndahppmjdbifaaGreatDoor.Fra Go.Proofs.YtndahppmjdbifaaGreatDoor.Snd Go.Proofs.YtndahppmjdbifaaGreatDoor.Lnk Go.Proofs.YtndahppmjdbifaaGreatDoor.Jnl Go.Proofs.YtndahppmjdbifaaGreatDoor.Cli Go.Proofs.YtndahppmjdbifaaGreatDoor.Nod Go.Proofs.YtndahppmjdbifaaGreatDoor.Seq
theorem phear_step {p : Peer} {J : List Rnd} {o : Int} {L : List Rnd} {f : Frm} {j : Nat} (h : PR p J o L) (he : f.ep = p.k.ep) (hs : f.seq = ((j + 1 : Nat) : Int)) (hj : j ≤ p.k.r.all.length) : j + 1 ≤ (p.hear f).k.r.all.length := by
  have e : (p.hear f).k.r.all = (p.k.r.hear f.seq f.data).all := by
    show (p.k.hear f).r.all = _
    rw [hear_same he]; unfold Lnk.hear2; simp only; rw [if_neg (by omega)]
  rw [e]
  have hm := (hear_len p.k.r f.seq f.data).1
  by_cases hx : j = p.k.r.all.length
  · have hh : p.k.r.hears f.seq = true := by
      unfold Rcv.hears
      have h1 := h.ok.2.2
      have h2 := h.rd
      unfold Rcv.ok Rcv.wait at h1
      refine decide_eq_true ⟨?_, by omega⟩
      unfold Rcv.wait; omega
    unfold Rcv.hear
    rw [if_pos hh]
    simp only [List.length_append, List.length_singleton]
    omega
  · omega
theorem phear_ack {p : Peer} {f : Frm} (he : f.ep = p.k.ep) : p.k.s.acked ≤ (p.hear f).k.s.acked ∧ (f.ack ≤ p.k.s.all.length → f.ack ≤ (p.hear f).k.s.acked) ∧ (p.hear f).k.s.all = p.k.s.all ∧ (p.hear f).k.ep = p.k.ep ∧ p.k.r.all.length ≤ (p.hear f).k.r.all.length := by
  have e : (p.hear f).k.s = p.k.s.ack f.ack := by
    show (p.k.hear f).s = _
    rw [hear_same he]; rfl
  have e2 : (p.hear f).k.ep = p.k.ep := by
    show (p.k.hear f).ep = _
    rw [hear_same he]; rfl
  have e3 : p.k.r.all.length ≤ (p.hear f).k.r.all.length := by
    show _ ≤ (p.k.hear f).r.all.length
    rw [hear_same he]
    have := hear2_lle p.k f
    have e4 : (p.k.hear2 f).ep = p.k.ep := rfl
    unfold LLe at this; omega
  obtain ⟨k1, k2, k3⟩ := ack_le p.k.s f.ack
  rw [e]
  exact ⟨k1, k3, Snd.ack_all _ _, e2, e3⟩
theorem nhear_step {m : Nod} {b : ByteArray} {j y : Nat} (h1 : fgetE b = 0) (h2 : (fget b).ep = m.k.ep) (hk : m.k.ok) (hs : (fget b).seq = ((j + 1 : Nat) : Int)) (hj : j ≤ y) (hy : y < m.k.r.all.length ∨ (y = m.k.r.all.length ∧ m.k.r.wait = 0)) :
    (y < (m.hear b).k.r.all.length ∨ (y = (m.hear b).k.r.all.length ∧ (m.hear b).k.r.wait = 0)) ∧ (j = y → y < (m.hear b).k.r.all.length) := by
  rw [nhear_eq h1 h2]
  have e : (m.k.hear2 (fget b)).r = m.k.r.hear (fget b).seq (fget b).data := by unfold Lnk.hear2; simp only; rw [if_neg (by omega)]
  simp only [e]
  have hm := (hear_len m.k.r (fget b).seq (fget b).data).1
  rcases hy with hy | ⟨hy, hw⟩
  · exact ⟨.inl (by omega), fun _ => by omega⟩
  · by_cases hx : j = y
    · have hh : m.k.r.hears (fget b).seq = true := by
        unfold Rcv.hears
        have h1 := hk.2.2
        unfold Rcv.ok at h1
        exact decide_eq_true ⟨by omega, by omega⟩
      have e2 : (m.k.r.hear (fget b).seq (fget b).data).all.length = m.k.r.all.length + 1 := by
        unfold Rcv.hear
        rw [if_pos hh]
        simp
      exact ⟨.inl (by omega), fun _ => by omega⟩
    · have hh : m.k.r.hears (fget b).seq = false := by
        unfold Rcv.hears
        exact decide_eq_false (fun h => by omega)
      have e2 : m.k.r.hear (fget b).seq (fget b).data = m.k.r := by
        unfold Rcv.hear
        rw [hh]; rfl
      rw [e2]
      exact ⟨.inr ⟨hy, hw⟩, fun h => absurd h hx⟩
theorem nhear_ack {m : Nod} {b : ByteArray} (h1 : fgetE b = 0) (h2 : (fget b).ep = m.k.ep) : m.k.s.acked ≤ (m.hear b).k.s.acked ∧ ((fget b).ack ≤ m.k.s.all.length → (fget b).ack ≤ (m.hear b).k.s.acked) ∧ (m.hear b).k.s.all = m.k.s.all ∧ (m.hear b).k.ep = m.k.ep := by
  rw [nhear_eq h1 h2]
  obtain ⟨k1, k2, k3⟩ := ack_le m.k.s (fget b).ack
  exact ⟨k1, k3, Snd.ack_all _ _, rfl⟩
theorem offl_last (l : List Rnd) (k : Lnk) (n : Nat) : (offl l k n).1.s.last = k.s.last := by
  induction l generalizing k n with
  | nil => rfl
  | cons r l ih =>
    simp only [offl]
    split
    · rw [ih]; unfold Lnk.offer Snd.offer; simp only; split <;> rfl
    · rfl
theorem offl_full {J : List Rnd} {k : Lnk} {n : Nat} (hk : k.ok) (hs : k.s.all = (J.take n).map putB) (hn : n ≤ J.length) (hl : J.length < k.s.last) :
    (offl (J.drop n) k n).1.s.all.length = J.length ∨ (offl (J.drop n) k n).1.s.all.length = k.s.acked + k.s.win := by
  obtain ⟨h1, h2⟩ := offl_map hs hn
  have h3 := congrArg List.length h1
  rw [List.length_map, List.length_take, Nat.min_eq_left h2] at h3
  obtain ⟨w1, w2⟩ := offl_win (J.drop n) k n
  have w3 := offl_last (J.drop n) k n
  have hok := (offl_ok (n := n) (l := J.drop n) hk).2.1
  unfold Snd.ok at hok
  rcases offl_end (J.drop n) k n with h | h
  · left; rw [List.length_drop] at h; omega
  · unfold Snd.offerE at h
    split at h
    · right; omega
    · split at h
      · omega
      · omega
theorem frames_at {k : Lnk} (hk : k.ok) (he : 1 ≤ k.ep) : (k.s.acked = k.s.all.length ∧ k.frames = [⟨k.ep, 0, k.r.all.length, ByteArray.empty⟩]) ∨ (k.s.acked < k.s.all.length ∧ k.frames.length = k.s.all.length - k.s.acked ∧ ∀ i f, k.frames[i]? = some f → f.seq = ((k.s.acked + i + 1 : Nat) : Int)) := by
  obtain ⟨h1, h2, h3⟩ := hk
  unfold Snd.ok at h2
  have hpl := pieces_length k.s
  unfold Lnk.frames
  rw [if_neg (by omega)]
  split
  · rename_i h
    rw [h] at hpl
    simp only [List.length_nil] at hpl
    exact .inl ⟨by omega, rfl⟩
  · rename_i h
    have : k.s.pieces.length ≠ 0 := fun h0 => h (List.length_eq_zero_iff.1 h0)
    refine .inr ⟨by omega, by rw [List.length_map]; omega, fun i f hf => ?_⟩
    rw [List.getElem?_map] at hf
    cases hx : k.s.pieces[i]? with
    | none => rw [hx] at hf; simp at hf
    | some x =>
      rw [hx] at hf
      simp only [Option.map_some, Option.some.injEq] at hf
      subst hf
      unfold Snd.pieces at hx
      have hlt : i < (k.s.all.drop k.s.acked).length := by
        have := (List.getElem?_eq_some_iff.1 hx).1
        rwa [pcs_length] at this
      rw [pcs_at k.s.acked _ i _ (List.getElem?_eq_getElem hlt)] at hx
      simp only [Option.some.injEq] at hx
      subst hx
      rfl
theorem frames_ne {k : Lnk} (hk : k.ok) (he : 1 ≤ k.ep) : k.frames ≠ [] := by
  rcases frames_at hk he with ⟨_, h⟩ | ⟨h1, h2, _⟩
  · rw [h]; simp
  · intro h; rw [h] at h2; simp at h2; omega
end Go.Proofs.YtndahppmjdbifaaGreatDoor.Sys
set_option linter.unusedVariables false
set_option linter.unusedSimpArgs false
namespace Go.Proofs.YtndahppmjdbifaaGreatDoor.Sys
open Go Go.Proofs Go.Proofs.YtndahppmjdbifaaGreatDoor.Eng Go.Proofs.YtndahppmjdbifaaGreatDoor.Pre Go.Proofs.YtndahppmjdbifaaGreatDoor.Pak Go.Proofs.YtndahppmjdbifaaGreatDoor.Val Go.Proofs.YtndahppmjdbifaaGreatDoor.Rou Go.Proofs.YtndahppmjdbifaaGreatDoor.Fra Go.Proofs.YtndahppmjdbifaaGreatDoor.Snd Go.Proofs.YtndahppmjdbifaaGreatDoor.Lnk Go.Proofs.YtndahppmjdbifaaGreatDoor.Jnl Go.Proofs.YtndahppmjdbifaaGreatDoor.Cli Go.Proofs.YtndahppmjdbifaaGreatDoor.Nod Go.Proofs.YtndahppmjdbifaaGreatDoor.Seq
structure PairI (t : Nat) (m : Nod) (q : Sqr) : Prop where
  inv : m.inv t
  fit : m.fit
  wide : m.wide
  org : m.origin = 1
  nr : NR m q.lg.l
  qc : q.c = m.c
  cl : (q.lg.clients : Int) = m.c.clients
  pl : q.ps.length = m.c.clients.toNat
  pr : PR (q.peer 1) m.j.l 1 q.lg.l
  sy : Sync m (q.peer 1)
  al : ∀ p ∈ q.ps, p.k.ok ∧ (∀ d ∈ p.k.s.all, d.size ≤ 1400) ∧ (∀ d ∈ p.k.r.all, d.size ≤ 1400)
  ow : ∀ r ∈ q.lg.l, r.o = 1
theorem PairI.p0 {t : Nat} {m : Nod} {q : Sqr} (h : PairI t m q) : q.ps[0]? = some (q.peer 1) ∧ q.peer 1 ∈ q.ps ∧ 1 ≤ m.c.clients ∧ m.k.ep ≤ 1099511627776 := by
  have hc := mayC_ok h.inv.c
  have hpl := h.pl
  obtain ⟨p, hp⟩ : ∃ p, q.ps[0]? = some p := ⟨_, List.getElem?_eq_getElem (by omega)⟩
  have e : q.peer 1 = p := by unfold Sqr.peer; rw [show ((1 : Int) - 1).toNat = 0 from rfl, hp]; rfl
  rw [e]
  exact ⟨hp, List.mem_of_getElem? hp, hc.1, h.inv.k.1⟩
theorem qhear_eq {q : Sqr} {b : ByteArray} (h1 : fgetE b = 0) (h2 : 1 ≤ q.c.clients) (h3 : ¬ (fget b).ep < (q.peer 1).k.ep) : q.hear 1 b = ⟨q.c, q.lg.hearL 1 q.c.mtu ((q.peer 1).k.hear (fget b)).r.came, q.ps.set 0 ((q.peer 1).hear (fget b))⟩ := by
  have he : q.hearE 1 b = 0 := by unfold Sqr.hearE; rw [if_neg (by omega), if_neg (by omega), if_neg h3]
  unfold Sqr.hear
  rw [if_pos he]; rfl
theorem qhear_ne {q : Sqr} {b : ByteArray} (h1 : fgetE b = 0) (h2 : 1 ≤ q.c.clients) (h3 : (fget b).ep < (q.peer 1).k.ep) : q.hear 1 b = q := by
  have he : q.hearE 1 b = 9 := by unfold Sqr.hearE; rw [if_neg (by omega), if_neg (by omega), if_pos h3]
  unfold Sqr.hear
  rw [he]; rfl
theorem peer_set {q : Sqr} {c : Cfg} {lg : Log} {p : Peer} (h : 0 < q.ps.length) : (⟨c, lg, q.ps.set 0 p⟩ : Sqr).peer 1 = p := by
  unfold Sqr.peer
  rw [show ((1 : Int) - 1).toNat = 0 from rfl]
  simp only
  rw [List.getElem?_set_self h]; rfl
theorem PairI.qhear {t : Nat} {m : Nod} {q : Sqr} {b : ByteArray} (h : PairI t m q) (h1 : fgetE b = 0) (hf : UpF m (fget b)) (hb : b.size ≤ 140737488351232) : PairI t m (q.hear 1 b) := by
  obtain ⟨p1, p2, p3, p4⟩ := h.p0
  have hq1 : 1 ≤ q.c.clients := by rw [h.qc]; exact p3
  have hcl := h.cl
  have hpl := h.pl
  by_cases hep : (fget b).ep < (q.peer 1).k.ep
  · rw [qhear_ne h1 hq1 hep]; exact h
  · rw [qhear_eq h1 hq1 hep]
    have hj := h.nr.j
    rw [h.org] at hj
    obtain ⟨a1, a2, a3⟩ := h.pr.hear (mtu := q.c.mtu) (by rw [h.qc]; exact hj) ⟨Int.le_refl _, by omega⟩ hf.p hep hf.s.2.2.2.1
    have hnr : NR m (q.lg.hearL 1 q.c.mtu ((q.peer 1).k.hear (fget b)).r.came).l := by
      refine h.nr.log a2.pre ?_ (a2.lr hj h.nr.lr)
      have := a2.own (by have := h.nr.own; rwa [h.org] at this)
      rwa [h.org]
    have hsy := h.sy.phear h.pr hf.s hep p4
    have hps := peer_set (q := q) (c := q.c) (lg := q.lg.hearL 1 q.c.mtu ((q.peer 1).k.hear (fget b)).r.came) (p := (q.peer 1).hear (fget b)) (by omega)
    refine ⟨h.inv, h.fit, h.wide, h.org, hnr, h.qc, by rw [a1]; exact h.cl, by rw [List.length_set]; exact h.pl, by rw [hps]; exact a3, by rw [hps]; exact hsy, ?_, ?_⟩
    · intro p hp
      rcases List.mem_or_eq_of_mem_set hp with hp | rfl
      · exact h.al p hp
      · obtain ⟨b1, b2, b3⟩ := h.al _ p2
        obtain ⟨f1, f2⟩ := fget_data b hb
        exact ⟨a3.ok, Lnk.hear_s b2, Lnk.hear_r b3 f1⟩
    · intro r hr
      rcases a2 with e | ⟨x, e, e1, _⟩
      · simp only [e] at hr; exact h.ow r hr
      · simp only [e, List.mem_append, List.mem_singleton] at hr
        rcases hr with hr | rfl
        · exact h.ow r hr
        · exact e1
theorem PairI.nhear {t : Nat} {m : Nod} {q : Sqr} {b : ByteArray} (h : PairI t m q) (h1 : fgetE b = 0) (hf : DnF (q.peer 1) q.lg.l (fget b)) (hb : b.size ≤ 140737488351232) : PairI t (m.hear b) q := by
  have hact : m.hear b = m.act ⟨5, upd0, b⟩ := rfl
  obtain ⟨w1, w2, w3⟩ := Nod.act_wide h.wide ⟨5, upd0, b⟩
  rw [← hact] at w1 w2 w3
  have hfit : (m.hear b).fit := Nod.act_fit h.inv h.fit ⟨5, upd0, b⟩
  have hj : (m.hear b).j = m.j := by unfold Nod.hear; split <;> rfl
  exact ⟨Nod.hear_inv h.inv b hb, hfit, w1, by rw [w3]; exact h.org, h.nr.hear b fun _ _ => hf.p, by rw [w2]; exact h.qc, by rw [w2]; exact h.cl, by rw [w2]; exact h.pl, by rw [hj]; exact h.pr, h.sy.nhear fun _ => hf.s, h.al, h.ow⟩
theorem PairI.ntick {t : Nat} {m : Nod} {q : Sqr} (h : PairI t m q) : PairI t m.tick q := by
  obtain ⟨w1, w2, w3⟩ := Nod.act_wide h.wide ⟨6, upd0, ByteArray.empty⟩
  exact ⟨Nod.tick_inv h.inv, Nod.tick_fit h.inv h.fit, w1, h.org, h.nr.tick, h.qc, h.cl, h.pl, h.pr, h.sy.tick, h.al, h.ow⟩
theorem PairI.npull {t : Nat} {m : Nod} {q : Sqr} (h : PairI t m q) : PairI (t + 1) m.pull q := by
  obtain ⟨w1, w2, w3⟩ := Nod.act_wide h.wide ⟨3, upd0, ByteArray.empty⟩
  have hfit : m.pull.fit := Nod.act_fit h.inv h.fit ⟨3, upd0, ByteArray.empty⟩
  exact ⟨Nod.pull_inv h.inv, hfit, w1, h.org, h.nr.pull, h.qc, h.cl, h.pl, h.pr, h.sy.same ⟨rfl, rfl, rfl⟩, h.al, h.ow⟩
theorem tick_peer {q : Sqr} (h : 0 < q.ps.length) : q.tick.peer 1 = (q.peer 1).pump q.lg := by
  unfold Sqr.peer Sqr.tick
  rw [show ((1 : Int) - 1).toNat = 0 from rfl]
  simp only [List.getElem?_map]
  obtain ⟨p, hp⟩ : ∃ p, q.ps[0]? = some p := ⟨_, List.getElem?_eq_getElem h⟩
  rw [hp]; rfl
theorem PairI.qtick {t : Nat} {m : Nod} {q : Sqr} (h : PairI t m q) : PairI t m q.tick := by
  obtain ⟨p1, p2, p3, p4⟩ := h.p0
  have hpl := h.pl
  have hps := tick_peer (q := q) (by omega)
  refine ⟨h.inv, h.fit, h.wide, h.org, h.nr, h.qc, h.cl, by unfold Sqr.tick; rw [List.length_map]; exact h.pl, by rw [hps]; exact h.pr.pump, by rw [hps]; exact h.sy.pump _, ?_, h.ow⟩
  intro p hp
  obtain ⟨p0, hp0, rfl⟩ := List.mem_map.1 hp
  obtain ⟨b1, b2, b3⟩ := h.al p0 hp0
  refine ⟨offl_ok b1, offl_s b2 fun r _ => putB_size r, ?_⟩
  intro d hd
  rw [show (p0.pump q.lg).k.r = p0.k.r from (offl_r _ _ _).1] at hd
  exact b3 d hd
def _root_.Go.Proofs.YtndahppmjdbifaaGreatDoor.Seq.Sqr.hears (q : Sqr) (l : List Pkt) : Sqr := l.foldl (fun q x => q.hear 1 x.bytes) q
def _root_.Go.Proofs.YtndahppmjdbifaaGreatDoor.Nod.Nod.hears (m : Nod) (l : List Pkt) : Nod := l.foldl (fun m x => if x.to_ = 1 then m.hear x.bytes else m) m
def UpP (m : Nod) (l : List Pkt) : Prop := ∀ x ∈ l, fgetE x.bytes = 0 ∧ UpF m (fget x.bytes) ∧ x.bytes.size ≤ 140737488351232 ∧ (fget x.bytes).ep = m.k.ep ∧ (fget x.bytes).ack = m.k.r.all.length
def DnP (p : Peer) (L : List Rnd) (l : List Pkt) : Prop := ∀ x ∈ l, x.to_ = 1 → fgetE x.bytes = 0 ∧ DnF p L (fget x.bytes) ∧ x.bytes.size ≤ 140737488351232 ∧ (fget x.bytes).ep = p.k.ep ∧ (fget x.bytes).ack = p.k.r.all.length
theorem PairI.qhears {t : Nat} {m : Nod} {l : List Pkt} (hl : UpP m l) : ∀ {q : Sqr}, PairI t m q → PairI t m (q.hears l) := by
  induction l with
  | nil => intro q h; exact h
  | cons x l ih =>
    intro q h
    obtain ⟨h1, h2, h3, _⟩ := hl x List.mem_cons_self
    exact ih (fun y hy => hl y (List.mem_cons_of_mem _ hy)) (h.qhear h1 h2 h3)
theorem PairI.nhears {t : Nat} {q : Sqr} {l : List Pkt} (hl : DnP (q.peer 1) q.lg.l l) : ∀ {m : Nod}, PairI t m q → PairI t (m.hears l) q := by
  induction l with
  | nil => intro m h; exact h
  | cons x l ih =>
    intro m h
    show PairI t ((if x.to_ = 1 then m.hear x.bytes else m).hears l) q
    by_cases hx : x.to_ = 1
    · rw [if_pos hx]
      obtain ⟨h1, h2, h3, _⟩ := hl x List.mem_cons_self hx
      exact ih (fun y hy => hl y (List.mem_cons_of_mem _ hy)) (h.nhear h1 h2 h3)
    · rw [if_neg hx]
      exact ih (fun y hy => hl y (List.mem_cons_of_mem _ hy)) h
theorem PairI.up {t : Nat} {m : Nod} {q : Sqr} (h : PairI t m q) : UpP m.tick m.tickP := by
  have hc := mayC_ok h.inv.c
  have h' := h.ntick
  have hf := Nod.tick_fit h.inv h.fit
  intro x hx
  rw [tickP_eq h.inv h.fit] at hx
  obtain ⟨f, hff, rfl⟩ := List.mem_map.1 hx
  obtain ⟨g1, g2, g3⟩ := fget_put (frames_put (mtu := m.c.mtu) (Nod.tick_inv h.inv).k hf.ep (by omega) hf.sd f hff).1
  obtain ⟨u1, u2, u3⟩ := up_frames h'.nr h'.inv.k hff
  simp only
  rw [g2]
  exact ⟨g1, u1, by omega, u2, u3⟩
theorem pkts_mem {o t mtu : Int} {l : List Frm} {x : Pkt} (h : x ∈ pkts o t mtu l) : x.frm = o ∧ x.to_ = t ∧ ∃ f ∈ l, fputE f mtu = 0 ∧ x.bytes = fput f mtu := by
  unfold pkts at h
  obtain ⟨f, hf, hx⟩ := List.mem_filterMap.1 h
  split at hx
  · rename_i he
    simp only [Option.some.injEq] at hx
    subst hx
    exact ⟨rfl, rfl, f, hf, he, rfl⟩
  · cases hx
theorem pk_mem {q : Sqr} {i : Nat} {x : Pkt} (h : x ∈ q.pk i) : x.frm = 0 ∧ x.to_ = ((i + 1 : Nat) : Int) ∧ ∃ p, q.ps[i]? = some p ∧ ∃ f ∈ (p.pump q.lg).k.frames, fputE f q.c.mtu = 0 ∧ x.bytes = fput f q.c.mtu := by
  unfold Sqr.pk at h
  split at h
  · rename_i p hp
    obtain ⟨a, b, c⟩ := pkts_mem h
    exact ⟨a, b, p, hp, c⟩
  · cases h
theorem tickP_split {q : Sqr} (h : 0 < q.ps.length) : ∃ z, q.tickP = q.pk 0 ++ z ∧ ∀ x ∈ z, x.to_ ≠ 1 := by
  obtain ⟨n, hn⟩ : ∃ n, q.ps.length = n + 1 := ⟨q.ps.length - 1, by omega⟩
  refine ⟨((List.range n).map Nat.succ).flatMap q.pk, ?_, ?_⟩
  · unfold Sqr.tickP Sqr.tickN
    rw [hn, List.range_succ_eq_map, List.flatMap_cons]
  · intro x hx
    obtain ⟨i, hi, hxi⟩ := List.mem_flatMap.1 hx
    obtain ⟨j, _, rfl⟩ := List.mem_map.1 hi
    have := (pk_mem hxi).2.1
    rw [this]
    show ((j + 1 + 1 : Nat) : Int) ≠ 1
    omega
theorem tickP_mem1 {q : Sqr} {x : Pkt} (h : x ∈ q.tickP) (h1 : x.to_ = 1) : x ∈ q.pk 0 := by
  unfold Sqr.tickP Sqr.tickN at h
  obtain ⟨i, _, hx⟩ := List.mem_flatMap.1 h
  have := (pk_mem hx).2.1
  obtain rfl : i = 0 := by omega
  exact hx
theorem PairI.dn {t : Nat} {m : Nod} {q : Sqr} (h : PairI t m q) : DnP (q.tick.peer 1) q.tick.lg.l q.tickP := by
  have hc := mayC_ok h.inv.c
  have hpl := h.pl
  have h' := h.qtick
  have hps := tick_peer (q := q) (by omega)
  intro x hx hx1
  obtain ⟨_, _, p, hp, f, hf, he, hb⟩ := pk_mem (tickP_mem1 hx hx1)
  rw [h.p0.1] at hp
  simp only [Option.some.injEq] at hp
  subst hp
  rw [← hps] at hf
  obtain ⟨g1, g2, g3⟩ := fget_put he
  obtain ⟨u1, u2, u3⟩ := dn_frames h'.pr hf
  rw [hb, g2]
  rw [h.qc] at g3
  exact ⟨g1, u1, by rw [h.qc]; omega, u2, u3⟩
theorem PairI.lfit {t : Nat} {m : Nod} {q : Sqr} (h : PairI t m q) : q.lg.l <+: m.j.l ∧ ∀ r ∈ q.lg.l, ((putB r).size : Int) ≤ m.c.mtu - 40 := by
  have he : ownR 1 q.lg.l = q.lg.l := by
    unfold ownR
    rw [List.filter_eq_self]
    intro r hr
    exact decide_eq_true (h.ow r hr)
  have ho := h.nr.own
  rw [h.org, he] at ho
  refine ⟨ho, fun r hr => ?_⟩
  obtain ⟨i, hi⟩ := List.getElem?_of_mem hr
  obtain ⟨j1, j2, _⟩ := h.nr.jr i r (pre_at ho hi)
  rw [putB_eq j1, str_size]
  exact rbytes_fit j1 j2
theorem PairI.pk0 {t : Nat} {m : Nod} {q : Sqr} (h : PairI t m q) (hep : 1 ≤ (q.peer 1).k.ep) : q.pk 0 = (q.tick.peer 1).k.frames.map fun f => ⟨0, 1, fput f q.c.mtu⟩ := by
  have hc := mayC_ok h.inv.c
  have hpl := h.pl
  have h' := h.qtick
  have hps := tick_peer (q := q) (by omega)
  have hl := h.lfit.2
  unfold Sqr.pk
  rw [h.p0.1]
  simp only
  rw [← hps]
  have hep2 : (q.tick.peer 1).k.ep = (q.peer 1).k.ep := by rw [hps]; exact (offl_r _ _ _).2.1
  refine pkts_all fun f hf => (frames_put h'.pr.ok (by omega) (by rw [h.qc]; omega) (fun d hd => ?_) f hf).1
  rw [h'.pr.sp] at hd
  obtain ⟨r, hr, rfl⟩ := List.mem_map.1 hd
  rw [h.qc]
  exact hl r (List.mem_of_mem_take hr)
theorem qrun {t : Nat} {m : Nod} : ∀ (l : List Pkt) (q : Sqr), PairI t m q → UpP m l → (q.peer 1).k.ep = m.k.ep →
    (q.peer 1).k.s.acked ≤ ((q.hears l).peer 1).k.s.acked ∧ ((q.hears l).peer 1).k.ep = m.k.ep ∧ (q.peer 1).k.r.all.length ≤ ((q.hears l).peer 1).k.r.all.length ∧ (l ≠ [] → m.k.r.all.length ≤ ((q.hears l).peer 1).k.s.acked) ∧
    ∀ j, (∀ (i : Nat) (x : Pkt), l[i]? = some x → (fget x.bytes).seq = ((j + i + 1 : Nat) : Int)) → j ≤ (q.peer 1).k.r.all.length → j + l.length ≤ ((q.hears l).peer 1).k.r.all.length
  | [], q, h, _, he => ⟨Nat.le_refl _, he, Nat.le_refl _, fun h => absurd rfl h, fun j _ hj => by show j + 0 ≤ (q.peer 1).k.r.all.length; omega⟩
  | x :: l, q, h, hl, he => by
    obtain ⟨h1, h2, h3, h4, h5⟩ := hl x List.mem_cons_self
    obtain ⟨p1, p2, p3, p4⟩ := h.p0
    have hpl := h.pl
    have hcl := h.cl
    have hn := h.qhear h1 h2 h3
    have hpe : (q.hear 1 x.bytes).peer 1 = (q.peer 1).hear (fget x.bytes) := by
      rw [qhear_eq h1 (by rw [h.qc]; exact p3) (by omega)]
      exact peer_set (by omega)
    have hfe : (fget x.bytes).ep = (q.peer 1).k.ep := by rw [h4, he]
    obtain ⟨a1, a2, a3, a4, a5⟩ := phear_ack hfe
    obtain ⟨i1, i2, i3, i4, i5⟩ := qrun l (q.hear 1 x.bytes) hn (fun y hy => hl y (List.mem_cons_of_mem _ hy)) (by rw [hpe, a4, he])
    rw [hpe] at i1 i3 i5
    obtain ⟨s1, s2, s3, s4⟩ := h.sy.eq he
    refine ⟨Nat.le_trans a1 i1, i2, Nat.le_trans a5 i3, fun _ => ?_, fun j hj hjx => ?_⟩
    · have : ((fget x.bytes).ack : Int) ≤ ((q.peer 1).hear (fget x.bytes)).k.s.acked := a2 (by omega)
      show _ ≤ (((q.hear 1 x.bytes).hears l).peer 1).k.s.acked
      omega
    · have hst := phear_step h.pr hfe (by have := hj 0 x rfl; simpa using this) hjx
      have := i5 (j + 1) (fun i y hy => by rw [hj (i + 1) y (by simpa using hy)]; congr 1; omega) hst
      rw [List.length_cons]
      show _ ≤ (((q.hear 1 x.bytes).hears l).peer 1).k.r.all.length
      omega
theorem nrun {t : Nat} {q : Sqr} : ∀ (l : List Pkt) (m : Nod), PairI t m q → DnP (q.peer 1) q.lg.l l → (∀ x ∈ l, x.to_ = 1) → (q.peer 1).k.ep = m.k.ep →
    m.k.s.acked ≤ (m.hears l).k.s.acked ∧ (m.hears l).k.ep = m.k.ep ∧ m.k.r.all.length ≤ (m.hears l).k.r.all.length ∧ (l ≠ [] → (q.peer 1).k.r.all.length ≤ (m.hears l).k.s.acked) ∧
    ∀ j y, (∀ (i : Nat) (x : Pkt), l[i]? = some x → (fget x.bytes).seq = ((j + i + 1 : Nat) : Int)) → j ≤ y → (y < m.k.r.all.length ∨ (y = m.k.r.all.length ∧ m.k.r.wait = 0)) → y < j + l.length → y < (m.hears l).k.r.all.length
  | [], m, h, _, _, he => ⟨Nat.le_refl _, rfl, Nat.le_refl _, fun h => absurd rfl h, fun j y _ hj _ hy => by simp at hy; omega⟩
  | x :: l, m, h, hl, ht, he => by
    have hx1 := ht x List.mem_cons_self
    obtain ⟨h1, h2, h3, h4, h5⟩ := hl x List.mem_cons_self hx1
    have hn := h.nhear h1 h2 h3
    have hfe : (fget x.bytes).ep = m.k.ep := by rw [h4, he]
    obtain ⟨a1, a2, a3, a4⟩ := nhear_ack h1 hfe
    have a5 := nhear_lle m x.bytes
    unfold LLe at a5
    have hm : m.hears (x :: l) = (m.hear x.bytes).hears l := by
      show (if x.to_ = 1 then m.hear x.bytes else m).hears l = _
      rw [if_pos hx1]
    obtain ⟨i1, i2, i3, i4, i5⟩ := nrun l (m.hear x.bytes) hn (fun y hy => hl y (List.mem_cons_of_mem _ hy)) (fun y hy => ht y (List.mem_cons_of_mem _ hy)) (by rw [a4, he])
    rw [hm]
    obtain ⟨s1, s2, s3, s4⟩ := h.sy.eq he
    refine ⟨Nat.le_trans a1 i1, i2.trans a4, by omega, fun _ => ?_, fun j y hj hjy hy hlt => ?_⟩
    · have : ((fget x.bytes).ack : Int) ≤ (m.hear x.bytes).k.s.acked := a2 (by omega)
      omega
    · obtain ⟨b1, b2⟩ := nhear_step h1 hfe h.inv.k (by have := hj 0 x rfl; simpa using this) hjy hy
      rcases Nat.eq_or_lt_of_le hjy with hjy' | hjy'
      · have := b2 hjy'; omega
      · rw [List.length_cons] at hlt
        exact i5 (j + 1) y (fun i z hz => by rw [hj (i + 1) z (by simpa using hz)]; congr 1; omega) (by omega) b1 (by omega)
end Go.Proofs.YtndahppmjdbifaaGreatDoor.Sys
set_option linter.unusedVariables false
set_option linter.unusedSimpArgs false
namespace Go.Proofs.YtndahppmjdbifaaGreatDoor.Sys
open Go Go.Proofs Go.Proofs.YtndahppmjdbifaaGreatDoor.Eng Go.Proofs.YtndahppmjdbifaaGreatDoor.Pre Go.Proofs.YtndahppmjdbifaaGreatDoor.Pak Go.Proofs.YtndahppmjdbifaaGreatDoor.Val Go.Proofs.YtndahppmjdbifaaGreatDoor.Rou Go.Proofs.YtndahppmjdbifaaGreatDoor.Fra Go.Proofs.YtndahppmjdbifaaGreatDoor.Snd Go.Proofs.YtndahppmjdbifaaGreatDoor.Lnk Go.Proofs.YtndahppmjdbifaaGreatDoor.Jnl Go.Proofs.YtndahppmjdbifaaGreatDoor.Cli Go.Proofs.YtndahppmjdbifaaGreatDoor.Nod Go.Proofs.YtndahppmjdbifaaGreatDoor.Seq
def prd (s : Nod × Sqr) : Nod × Sqr := ((s.1.tick.hears (s.2.hears s.1.tickP).tickP).pull, (s.2.hears s.1.tickP).tick)
theorem hears_j (l : List Pkt) : ∀ m : Nod, (m.hears l).j = m.j ∧ (m.hears l).c = m.c ∧ (m.hears l).offered = m.offered := by
  induction l with
  | nil => intro m; exact ⟨rfl, rfl, rfl⟩
  | cons x l ih =>
    intro m
    obtain ⟨h1, h2, h3⟩ := ih (if x.to_ = 1 then m.hear x.bytes else m)
    have e : (if x.to_ = 1 then m.hear x.bytes else m).j = m.j ∧ (if x.to_ = 1 then m.hear x.bytes else m).c = m.c ∧ (if x.to_ = 1 then m.hear x.bytes else m).offered = m.offered := by
      split
      · unfold Nod.hear; split <;> exact ⟨rfl, rfl, rfl⟩
      · exact ⟨rfl, rfl, rfl⟩
    exact ⟨h1.trans e.1, h2.trans e.2.1, h3.trans e.2.2⟩
theorem hears_skip {l : List Pkt} (h : ∀ x ∈ l, x.to_ ≠ 1) : ∀ m : Nod, m.hears l = m := by
  induction l with
  | nil => intro m; rfl
  | cons x l ih =>
    intro m
    show (if x.to_ = 1 then m.hear x.bytes else m).hears l = m
    rw [if_neg (h x List.mem_cons_self)]
    exact ih (fun y hy => h y (List.mem_cons_of_mem _ hy)) m
theorem hears_app (l k : List Pkt) (m : Nod) : m.hears (l ++ k) = (m.hears l).hears k := List.foldl_append ..
structure Bet (t : Nat) (m : Nod) (q : Sqr) : Prop where
  i : PairI t m q
  w : m.k.r.wait = 0
  wl : m.k.s.last = 1125899906842624
  pl : (q.peer 1).k.s.last = 1125899906842624
theorem hear2_last (k : Lnk) (f : Frm) : (k.hear2 f).s.last = k.s.last := by
  unfold Lnk.hear2 Snd.ack
  simp only
  split <;> rfl
theorem khear_last {k : Lnk} (f : Frm) (h : k.s.last = 1125899906842624) : (k.hear f).s.last = 1125899906842624 := by
  unfold Lnk.hear
  split
  · exact h
  · split
    · split
      · rw [hear2_last]; rfl
      · exact h
    · rw [hear2_last]; exact h
theorem PairI.qhears_last {t : Nat} {m : Nod} {l : List Pkt} (hl : UpP m l) : ∀ {q : Sqr}, PairI t m q → (q.peer 1).k.s.last = 1125899906842624 → ((q.hears l).peer 1).k.s.last = 1125899906842624 := by
  induction l with
  | nil => intro q _ hw; exact hw
  | cons x l ih =>
    intro q h hw
    obtain ⟨h1, h2, h3, _⟩ := hl x List.mem_cons_self
    refine ih (fun y hy => hl y (List.mem_cons_of_mem _ hy)) (h.qhear h1 h2 h3) ?_
    have hpl := h.pl
    show ((q.hear 1 x.bytes).peer 1).k.s.last = _
    have hpc := h.p0.2.2.1
    by_cases hep : (fget x.bytes).ep < (q.peer 1).k.ep
    · rw [qhear_ne h1 (by rw [h.qc]; exact hpc) hep]; exact hw
    · rw [qhear_eq h1 (by rw [h.qc]; exact hpc) hep, peer_set (by omega)]
      exact khear_last _ hw
theorem hear_last (m : Nod) (b : ByteArray) : (m.hear b).k.s.last = m.k.s.last := by
  unfold Nod.hear
  split
  · rename_i he
    have hc : (fget b).ep = m.k.ep := by
      by_cases hc : fgetE b = 0 ∧ (fget b).ep = m.k.ep
      · exact hc.2
      · exact absurd he (hearE_ne hc).1
    simp only [hear_same hc]
    unfold Lnk.hear2 Snd.ack
    simp only
    split <;> rfl
  · rfl
theorem hears_last (l : List Pkt) : ∀ m : Nod, (m.hears l).k.s.last = m.k.s.last := by
  induction l with
  | nil => intro m; rfl
  | cons x l ih =>
    intro m
    refine (ih _).trans ?_
    show (if x.to_ = 1 then m.hear x.bytes else m).k.s.last = _
    split
    · exact hear_last _ _
    · rfl
theorem prd_ok {t : Nat} {m : Nod} {q : Sqr} (h : Bet t m q) : Bet (t + 1) (prd (m, q)).1 (prd (m, q)).2 ∧ (prd (m, q)).1.j = m.j := by
  have h1 := h.i.ntick.qhears h.i.up
  have h2 := h1.qtick.nhears h1.dn
  refine ⟨⟨h2.npull, pull_wait _ h2.inv.k, ?_, ?_⟩, ?_⟩
  · show ((m.tick.hears _).k.s).last = _
    rw [hears_last]
    exact (offl_last _ _ _).trans h.wl
  · have hpl : _ = m.c.clients.toNat := h1.pl
    have hpc := h.i.p0.2.2.1
    show ((q.hears m.tickP).tick.peer 1).k.s.last = _
    rw [tick_peer (by omega)]
    exact (offl_last _ _ _).trans (h.i.ntick.qhears_last h.i.up h.pl)
  · show (m.tick.hears _).j = _
    rw [(hears_j _ _).1]; rfl
theorem tickP_ne {t : Nat} {m : Nod} {q : Sqr} (h : PairI t m q) : m.tickP ≠ [] := by
  have hf := Nod.tick_fit h.inv h.fit
  rw [tickP_eq h.inv h.fit]
  have := frames_ne (Nod.tick_inv h.inv).k hf.ep
  intro he
  exact this (List.map_eq_nil_iff.1 he)
theorem prd_ep {t : Nat} {m : Nod} {q : Sqr} (h : Bet t m q) : ((prd (m, q)).2.peer 1).k.ep = (prd (m, q)).1.k.ep := by
  have h0 := h.i.ntick
  have hup := h.i.up
  have hne := tickP_ne h.i
  have hpl := h.i.pl
  have hpc := h.i.p0.2.2.1
  cases hl : m.tickP with
  | nil => exact absurd hl hne
  | cons x l =>
    rw [hl] at hup
    obtain ⟨h1, h2, h3, h4, h5⟩ := hup x List.mem_cons_self
    have hn := h0.qhear h1 h2 h3
    have hle := h0.sy.le
    have hpe : (q.hear 1 x.bytes).peer 1 = (q.peer 1).hear (fget x.bytes) := by
      rw [qhear_eq h1 (by rw [h0.qc]; exact hpc) (by omega)]
      exact peer_set (by omega)
    have hep := (phear_lle h0.pr (fget x.bytes) (by omega) (by have := h0.inv.k.1; omega)).2
    rw [← hpe] at hep
    have hup' : UpP m.tick l := fun y hy => hup y (List.mem_cons_of_mem _ hy)
    have e1 := (qrun l _ hn hup' (by omega)).2.1
    have hq : q.hears m.tickP = (q.hear 1 x.bytes).hears l := by rw [hl]; rfl
    have hh := hn.qhears hup'
    rw [← hq] at e1 hh
    show (((q.hears m.tickP).tick).peer 1).k.ep = ((m.tick.hears (q.hears m.tickP).tickP).pull).k.ep
    have hpl2 : _ = m.c.clients.toNat := hh.pl
    rw [tick_peer (by omega)]
    have e2 : (((q.hears m.tickP).peer 1).pump (q.hears m.tickP).lg).k.ep = ((q.hears m.tickP).peer 1).k.ep := (offl_r _ _ _).2.1
    rw [e2, e1]
    obtain ⟨z, hz1, hz2⟩ := tickP_split (q := q.hears m.tickP) (by omega)
    have h3 := hh.qtick.nhears hh.dn
    show m.tick.k.ep = (m.tick.hears (q.hears m.tickP).tickP).k.ep
    have hdn := hh.dn
    rw [hz1] at hdn ⊢
    rw [hears_app, hears_skip hz2]
    have := (nrun ((q.hears m.tickP).pk 0) m.tick hh.qtick (fun x hx => hdn x (List.mem_append_left _ hx)) (fun x hx => by have := (pk_mem hx).2.1; simpa using this) (by rw [tick_peer (by omega), e2, e1])).2.1
    exact this.symm
theorem prd_step {t k : Nat} {m : Nod} {q : Sqr} (h : Bet t m q) (he : (q.peer 1).k.ep = m.k.ep) (ht : m.j.l.length < 1125899906842624) (ha : min m.j.l.length k ≤ m.k.s.acked) (hy : min m.j.l.length k ≤ m.k.r.all.length) :
    min m.j.l.length (k + 1) ≤ (prd (m, q)).1.k.s.acked ∧ min m.j.l.length (k + 1) ≤ (prd (m, q)).1.k.r.all.length := by
  have h0 := h.i.ntick
  have hup := h.i.up
  have hne := tickP_ne h.i
  have hpl := h.i.pl
  have hpc := h.i.p0.2.2.1
  have hep1 := h.i.fit.ep
  have hft := Nod.tick_fit h.i.inv h.i.fit
  have hkt := (Nod.tick_inv h.i.inv).k
  have t1 : m.tick.k.ep = m.k.ep := (offl_r _ _ _).2.1
  have t2 : m.tick.k.r = m.k.r := (offl_r _ _ _).1
  have t3 : m.tick.k.s.acked = m.k.s.acked ∧ m.tick.k.s.win = m.k.s.win := ⟨(offl_win _ _ _).2, (offl_win _ _ _).1⟩
  have hfull : m.tick.k.s.all.length = m.j.l.length ∨ m.tick.k.s.all.length = m.k.s.acked + m.k.s.win := offl_full h.i.inv.k h.i.nr.so h.i.nr.sl (by rw [h.wl]; exact ht)
  have hwin : 1 ≤ m.k.s.win := h.i.inv.k.2.1.1
  have hepq : (q.peer 1).k.ep = m.tick.k.ep := by rw [t1]; exact he
  obtain ⟨r1, r2, r3, r4, r5⟩ := qrun m.tickP q h0 hup hepq
  have hh := h0.qhears hup
  have hl1 := h0.qhears_last hup h.pl
  have hprd : (prd (m, q)).1 = (m.tick.hears (q.hears m.tickP).tickP).pull := rfl
  generalize hq1 : q.hears m.tickP = q1 at r1 r2 r3 r4 r5 hh hl1 hprd
  have hpl2 : _ = m.c.clients.toNat := hh.pl
  have hsy := hh.sy.eq r2
  have hsy0 := h0.sy.eq hepq
  have hb : min m.j.l.length (k + 1) ≤ (q1.peer 1).k.r.all.length := by
    rcases frames_at hkt (by omega) with ⟨f1, f2⟩ | ⟨f1, f2, f3⟩
    · omega
    · have hlen : m.tickP.length = m.tick.k.s.all.length - m.tick.k.s.acked := by rw [tickP_eq h.i.inv h.i.fit, List.length_map, f2]
      have := r5 m.tick.k.s.acked (fun i x hx => by
        rw [tickP_eq h.i.inv h.i.fit, List.getElem?_map] at hx
        cases hf : m.tick.k.frames[i]? with
        | none => rw [hf] at hx; simp at hx
        | some f =>
          rw [hf] at hx
          simp only [Option.map_some, Option.some.injEq] at hx
          subst hx
          have hc := mayC_ok h.i.inv.c
          obtain ⟨g1, g2, g3⟩ := fget_put (frames_put (mtu := m.c.mtu) hkt hft.ep (by have := hc; omega) hft.sd f (List.mem_of_getElem? hf)).1
          simp only
          rw [g2]
          exact f3 i f hf) (by omega)
      omega
  have hs1 := r4 hne
  have hL : min m.j.l.length (k + 1) ≤ q1.lg.l.length := by
    have h1 := hh.pr.rc
    have h2 := cntI_le 1 q1.lg.l
    omega
  have hLJ := hh.lfit.1.length_le
  have htj : m.tick.j = m.j := rfl
  rw [htj] at hLJ
  have hq2 := hh.qtick
  have hps := tick_peer (q := q1) (by omega)
  have u1 : (q1.tick.peer 1).k.ep = (q1.peer 1).k.ep := by rw [hps]; exact (offl_r _ _ _).2.1
  have u2 : (q1.tick.peer 1).k.r = (q1.peer 1).k.r := by rw [hps]; exact (offl_r _ _ _).1
  have u3 : (q1.tick.peer 1).k.s.acked = (q1.peer 1).k.s.acked := by rw [hps]; exact (offl_win _ _ _).2
  have u4 : (q1.tick.peer 1).k.s.win = (q1.peer 1).k.s.win := by rw [hps]; exact (offl_win _ _ _).1
  have hlt : q1.lg.l.length < (q1.peer 1).k.s.last := by rw [hl1]; omega
  have hfull2 : (q1.tick.peer 1).k.s.all.length = q1.lg.l.length ∨ (q1.tick.peer 1).k.s.all.length = (q1.peer 1).k.s.acked + (q1.peer 1).k.s.win := by
    rw [hps]
    exact offl_full hh.pr.ok hh.pr.sp hh.pr.sa hlt
  have hwin2 : 1 ≤ (q1.peer 1).k.s.win := hh.pr.ok.2.1.1
  have hkq : (q1.tick.peer 1).k.ok := hq2.pr.ok
  have hpk := hh.pk0 (by omega)
  have hdn := hh.dn
  obtain ⟨z, hz1, hz2⟩ := tickP_split (q := q1) (by omega)
  rw [hz1] at hdn
  have hm2 : m.tick.hears q1.tickP = m.tick.hears (q1.pk 0) := by rw [hz1, hears_app, hears_skip hz2]
  obtain ⟨n1, n2, n3, n4, n5⟩ := nrun (q1.pk 0) m.tick hq2 (fun x hx => hdn x (List.mem_append_left _ hx)) (fun x hx => by have := (pk_mem hx).2.1; simpa using this) (by rw [u1]; exact r2)
  have hne2 : q1.pk 0 ≠ [] := by
    rw [hpk]
    intro he'
    exact frames_ne hkq (by omega) (List.map_eq_nil_iff.1 he')
  have hn4 := n4 hne2
  obtain ⟨v1, v2, v3⟩ := pull_k (m.tick.hears q1.tickP)
  rw [hprd, v2, v3, hm2]
  rw [u2] at hn4
  refine ⟨by omega, ?_⟩
  rw [t2] at n3
  by_cases hA : min m.j.l.length (k + 1) ≤ m.k.r.all.length
  · omega
  · have hyk : m.k.r.all.length = k ∧ k < m.j.l.length := by omega
    have hjy : (q1.tick.peer 1).k.s.acked ≤ m.k.r.all.length := by rw [u3]; have := hsy.2.2.1; rw [t2] at this; exact this
    have hyj : m.k.r.all.length ≤ (q1.tick.peer 1).k.s.acked := by rw [u3]; rw [t2] at hs1; exact hs1
    have hall : m.k.r.all.length < (q1.tick.peer 1).k.s.all.length := by omega
    rcases frames_at hkq (by omega) with ⟨f1, f2⟩ | ⟨f1, f2, f3⟩
    · omega
    · have hlen : (q1.pk 0).length = (q1.tick.peer 1).k.s.all.length - (q1.tick.peer 1).k.s.acked := by rw [hpk, List.length_map, f2]
      have := n5 (q1.tick.peer 1).k.s.acked m.k.r.all.length (fun i x hx => by
        rw [hpk, List.getElem?_map] at hx
        cases hf : (q1.tick.peer 1).k.frames[i]? with
        | none => rw [hf] at hx; simp at hx
        | some f =>
          rw [hf] at hx
          simp only [Option.map_some, Option.some.injEq] at hx
          subst hx
          have hc := mayC_ok h.i.inv.c
          have hl2 := hh.lfit.2
          obtain ⟨g1, g2, g3⟩ := fget_put (frames_put (mtu := q1.c.mtu) hkq (by omega) (by have := hh.qc; rw [this]; exact ⟨hc.2.2.2.2.2.2.2.2.1, hc.2.2.2.2.2.2.2.2.2.1⟩) (fun d hd => by
            rw [hq2.pr.sp] at hd
            obtain ⟨r, hr, rfl⟩ := List.mem_map.1 hd
            rw [hh.qc]
            exact hl2 r (List.mem_of_mem_take hr)) f (List.mem_of_getElem? hf)).1
          simp only
          rw [g2]
          exact f3 i f hf) hjy (.inr ⟨by rw [t2], by rw [t2]; exact h.w⟩) (by omega)
      omega
def prdN : Nat → Nod × Sqr → Nod × Sqr
  | 0, s => s
  | n + 1, s => prdN n (prd s)
theorem prdN_ok : ∀ (n t : Nat) (s : Nod × Sqr), Bet t s.1 s.2 → Bet (t + n) (prdN n s).1 (prdN n s).2 ∧ (prdN n s).1.j = s.1.j
  | 0, _, _, h => ⟨h, rfl⟩
  | n + 1, t, s, h => by
    obtain ⟨h1, h2⟩ := prd_ok h
    obtain ⟨h3, h4⟩ := prdN_ok n (t + 1) (prd s) h1
    rw [show t + (n + 1) = t + 1 + n by omega]
    exact ⟨h3, h4.trans h2⟩
theorem prd_keep {t : Nat} {m : Nod} {q : Sqr} (h : Bet t m q) : ((prd (m, q)).2.peer 1).k.ep = (prd (m, q)).1.k.ep := prd_ep h
theorem prdN_step : ∀ (n t k : Nat) (s : Nod × Sqr), Bet t s.1 s.2 → (s.2.peer 1).k.ep = s.1.k.ep → s.1.j.l.length < 1125899906842624 → min s.1.j.l.length k ≤ s.1.k.s.acked → min s.1.j.l.length k ≤ s.1.k.r.all.length →
    min s.1.j.l.length (k + n) ≤ (prdN n s).1.k.s.acked ∧ min s.1.j.l.length (k + n) ≤ (prdN n s).1.k.r.all.length
  | 0, _, _, _, _, _, _, h1, h2 => ⟨h1, h2⟩
  | n + 1, t, k, s, h, he, hl, h1, h2 => by
    obtain ⟨g1, g2⟩ := prd_ok h
    obtain ⟨a1, a2⟩ := prd_step h he hl h1 h2
    have := prdN_step n (t + 1) (k + 1) (prd s) g1 (prd_keep h) (by rw [g2]; exact hl) (by rw [g2]; exact a1) (by rw [g2]; exact a2)
    rw [g2] at this
    rw [show k + (n + 1) = k + 1 + n by omega]
    exact this
theorem pair_end {t n : Nat} {m : Nod} {q : Sqr} (h : Bet t m q) (hl : m.j.l.length < 1125899906842624) (hn : m.j.l.length + 1 ≤ n) :
    (prdN n (m, q)).2.lg.l = m.j.l ∧ (prdN n (m, q)).1.own.known = m.j.l ∧ (prdN n (m, q)).1.own.pending = [] ∧ (prdN n (m, q)).1.k.s.all.length - (prdN n (m, q)).1.k.s.acked = 0 := by
  obtain ⟨n', rfl⟩ : ∃ n', n = n' + 1 := ⟨n - 1, by omega⟩
  obtain ⟨g1, g2⟩ := prd_ok h
  have g2' : (prd (m, q)).1.j.l = m.j.l := by rw [g2]
  obtain ⟨b, bj⟩ := prdN_ok (n' + 1) t (m, q) h
  obtain ⟨a1, a2⟩ := prdN_step n' (t + 1) 0 (prd (m, q)) g1 (prd_ep h) (by rw [g2']; exact hl) (by omega) (by omega)
  rw [g2'] at a1 a2
  replace a1 : min m.j.l.length (0 + n') ≤ (prdN (n' + 1) (m, q)).1.k.s.acked := a1
  replace a2 : min m.j.l.length (0 + n') ≤ (prdN (n' + 1) (m, q)).1.k.r.all.length := a2
  generalize prdN (n' + 1) (m, q) = s at b bj a1 a2
  have bl : s.1.j.l = m.j.l := by rw [bj]
  have f1 := b.i.lfit.1
  have f2 := f1.length_le
  have f3 := b.i.nr.yl
  have f4 := b.i.nr.po
  have f5 := b.w
  unfold Rcv.wait at f5
  rw [bl] at f1 f2
  have hL : s.2.lg.l = m.j.l := f1.eq_of_length (by omega)
  have hk : s.1.own.known = m.j.l := by rw [b.i.nr.kn, hL, List.take_of_length_le (by omega)]
  have hc : cntI s.1.origin s.1.own.known = m.j.l.length := by
    rw [hk, ← hL, b.i.org]
    show (ownR 1 s.2.lg.l).length = _
    have : ownR 1 s.2.lg.l = s.2.lg.l := by
      unfold ownR
      rw [List.filter_eq_self]
      intro r hr
      exact decide_eq_true (b.i.ow r hr)
    rw [this]
  refine ⟨hL, hk, ?_, ?_⟩
  · rw [b.i.nr.pe, hc, bl, List.drop_length]
  · have := b.i.nr.so
    have h2 := congrArg List.length this
    rw [List.length_map, List.length_take, bl] at h2
    omega
def _root_.Go.Proofs.YtndahppmjdbifaaGreatDoor.Nod.Nod.actQ (m : Nod) (a : Nod.Act) : Nod := if a.kind = 5 then m else m.act a
def _root_.Go.Proofs.YtndahppmjdbifaaGreatDoor.Nod.Nod.actsQ (m : Nod) (l : List Nod.Act) : Nod := l.foldl Nod.actQ m
structure Quiet (t : Nat) (m : Nod) : Prop where
  inv : m.inv t
  fit : m.fit
  wide : m.wide
  nr : NR m []
  acked : m.k.s.acked = 0
  all : m.k.r.all = []
  last : m.k.s.last = 1125899906842624
theorem Quiet.new {c : Cfg} (hc : mayC c = 0) (o : Int) : Quiet 0 (Nod.new c o) := ⟨Nod.new_inv hc o, Nod.new_fit c o, Nod.new_wide c o, NR.new c o, rfl, rfl, rfl⟩
theorem Quiet.act {t : Nat} {m : Nod} (h : Quiet t m) (a : Nod.Act) (hb : a.bytes.size ≤ 140737488351232) : Quiet (t + 1) (m.actQ a) := by
  unfold Nod.actQ
  split
  · exact ⟨h.inv.mono (by omega), h.fit, h.wide, h.nr, h.acked, h.all, h.last⟩
  · rename_i h5
    refine ⟨Nod.act_inv h.inv a hb, Nod.act_fit h.inv h.fit a, (Nod.act_wide h.wide a).1, ?_, ?_, ?_, ?_⟩
    all_goals unfold Nod.act
    · (repeat' split)
      · exact h.nr.upd h.inv.mtu _
      · exact h.nr.push
      · exact h.nr.pull
      · exact h.nr.reset
      · exact h.nr.tick
      · exact h.nr
    · (repeat' split)
      · exact h.acked
      · exact h.acked
      · exact h.acked
      · unfold Nod.reset; split
        · rfl
        · exact h.acked
      · exact (offl_win _ _ _).2.trans h.acked
      · exact h.acked
    · (repeat' split)
      · exact h.all
      · exact h.all
      · exact h.all
      · unfold Nod.reset; split
        · rfl
        · exact h.all
      · show (offl _ _ _).1.r.all = _
        rw [(offl_r _ _ _).1]; exact h.all
      · exact h.all
    · (repeat' split)
      · exact h.last
      · exact h.last
      · exact h.last
      · unfold Nod.reset; split
        · rfl
        · exact h.last
      · exact (offl_last _ _ _).trans h.last
      · exact h.last
theorem Quiet.acts {t : Nat} {m : Nod} (h : Quiet t m) (l : List Nod.Act) (hb : ∀ a ∈ l, a.bytes.size ≤ 140737488351232) : Quiet (t + l.length) (m.actsQ l) := by
  induction l generalizing m t with
  | nil => exact h
  | cons a l ih =>
    have := ih (h.act a (hb a List.mem_cons_self)) fun x hx => hb x (List.mem_cons_of_mem _ hx)
    rw [List.length_cons, show t + (l.length + 1) = t + 1 + l.length by omega]
    exact this
theorem actQ_same {m : Nod} (h : m.wide) (a : Nod.Act) : (m.actQ a).wide ∧ (m.actQ a).c = m.c ∧ (m.actQ a).origin = m.origin := by
  unfold Nod.actQ
  split
  · exact ⟨h, rfl, rfl⟩
  · exact Nod.act_wide h a
theorem actsQ_same {m : Nod} (h : m.wide) (l : List Nod.Act) : (m.actsQ l).c = m.c ∧ (m.actsQ l).origin = m.origin := by
  induction l generalizing m with
  | nil => exact ⟨rfl, rfl⟩
  | cons a l ih =>
    obtain ⟨h1, h2, h3⟩ := actQ_same h a
    obtain ⟨h4, h5⟩ := ih h1
    exact ⟨h4.trans h2, h5.trans h3⟩
theorem Quiet.bet {t : Nat} {m : Nod} (h : Quiet t m) (ho : m.origin = 1) : Bet t m (Sqr.new m.c) := by
  have hc := mayC_ok h.inv.c
  have hpe : (Sqr.new m.c).peer 1 = Peer.fresh m.c := by
    unfold Sqr.peer Sqr.new
    simp only
    rw [List.getElem?_replicate, if_pos (by omega)]; rfl
  refine ⟨⟨h.inv, h.fit, h.wide, ho, h.nr, rfl, ?_, ?_, ?_, ?_, ?_, ?_⟩, ?_, h.last, ?_⟩
  · unfold Sqr.new Log.new; simp only; omega
  · unfold Sqr.new; simp
  · rw [hpe]; exact PR.fresh _ _ _ _
  · rw [hpe]
    have h0 : (Peer.fresh m.c).k.ep = 0 := rfl
    have := h.fit.ep
    exact ⟨by omega, fun he => by omega, fun _ => ⟨h.acked, by rw [h.all]; rfl⟩⟩
  · intro p hp
    unfold Sqr.new at hp
    obtain rfl := List.eq_of_mem_replicate hp
    exact ⟨Lnk.new_ok _ _ _ _, by simp [Peer.fresh, Lnk.new, Snd.new], by simp [Peer.fresh, Lnk.new, Rcv.new]⟩
  · intro r hr
    simp [Sqr.new, Log.new] at hr
  · unfold Rcv.wait; rw [h.all]; simp
  · rw [hpe]; rfl
end Go.Proofs.YtndahppmjdbifaaGreatDoor.Sys
set_option linter.unusedVariables false
set_option linter.unusedSimpArgs false
namespace Go.Proofs.YtndahppmjdbifaaGreatDoor.Sys
open Go Go.Proofs Go.Proofs.YtndahppmjdbifaaGreatDoor.Eng Go.Proofs.YtndahppmjdbifaaGreatDoor.Pre Go.Proofs.YtndahppmjdbifaaGreatDoor.Pak Go.Proofs.YtndahppmjdbifaaGreatDoor.Val Go.Proofs.YtndahppmjdbifaaGreatDoor.Rou Go.Proofs.YtndahppmjdbifaaGreatDoor.Fra Go.Proofs.YtndahppmjdbifaaGreatDoor.Snd Go.Proofs.YtndahppmjdbifaaGreatDoor.Lnk Go.Proofs.YtndahppmjdbifaaGreatDoor.Jnl Go.Proofs.YtndahppmjdbifaaGreatDoor.Cli Go.Proofs.YtndahppmjdbifaaGreatDoor.Nod Go.Proofs.YtndahppmjdbifaaGreatDoor.Seq
theorem PairI.walk {t : Nat} {m : Nod} {q : Sqr} (h : PairI t m q) : q.ps.length = q.c.clients.toNat ∧ q.c.clients ≤ 64 ∧ (64 ≤ q.c.mtu ∧ q.c.mtu ≤ 1400) ∧ q.lg.l.length ≤ t ∧ (∀ p ∈ q.ps, p.k.ok) := by
  have hc := mayC_ok h.inv.c
  have h1 := h.lfit.1.length_le
  have h2 := h.inv.j
  have h3 := h.pl
  rw [h.qc]
  exact ⟨h3, hc.2.1, ⟨hc.2.2.2.2.2.2.2.2.1, hc.2.2.2.2.2.2.2.2.2.1⟩, by omega, fun p hp => (h.al p hp).1⟩
theorem PairI.heard {t : Nat} {m : Nod} {q : Sqr} (h : PairI t m q) {b : ByteArray} (hb : b.size ≤ 140737488351232) : (∀ p ∈ q.ps, (p.k.hear (fget b)).ok) ∧ ∀ p ∈ q.ps, ∀ d ∈ (p.k.hear (fget b)).r.all, d.size ≤ 140737488351232 := by
  obtain ⟨f1, f2⟩ := fget_data b hb
  refine ⟨fun p hp => Lnk.hear_ok (h.al p hp).1 (by omega), fun p hp d hd => ?_⟩
  have := Lnk.hear_r (h.al p hp).2.2 f1 d hd
  omega
theorem PairI.pumped {t : Nat} {m : Nod} {q : Sqr} (h : PairI t m q) : ∀ p ∈ q.ps, ∀ f ∈ (p.pump q.lg).k.frames, f.data.size ≤ 34359738368 := by
  intro p hp f hf
  have h1 : ∀ d ∈ (p.pump q.lg).k.s.all, d.size ≤ 1400 := offl_s (h.al p hp).2.1 fun r _ => putB_size r
  have := frames_data (P := fun d => d.size ≤ 1400) h1 (by simp) f hf
  omega
theorem prdN_succ : ∀ (n : Nat) (s : Nod × Sqr), prdN (n + 1) s = prd (prdN n s)
  | 0, _ => rfl
  | n + 1, s => prdN_succ n (prd s)
section
variable {M : Mem} {w : World} {Ls : List Chunk}
theorem NodePair_c (hG : Bits M) (c : Cfg) (l : List Nod.Act) (s : Value) (hl : Rd M encA s l) (hS : St M w Ls) :
    CallsR Tryz.prog 9 [cfgV c, s].toArray w fun v w' => ∃ M', Mle M M' ∧ v = .bool true ∧ St M' w' Ls := by
  obtain ⟨sa, sc, rfl⟩ := (hl.holds hS).slice
  refine calls_of (c := _) (rs := _) (n := 118) Tryz.func9 rfl rfl rfl rfl rfl (zQ (zR (a_box rfl hS rfl fun b2 w hS => zA rfl rfl (zE (zQ (zQ (zR (wl_call .nil (awake_c hG hS) rfl ?_))))))))
  rintro _ w ⟨M1, hM1, rfl, hS⟩
  refine wl (y_not rfl) rfl (zM rfl rfl (zI rfl rfl (wl ((y_loadS st_23 sz_23 rfl (vs := cfgL c) (hS.cells rfl) rfl).val (show _ = cfgV c from rfl)) rfl (zI rfl rfl (zM rfl rfl (zI rfl rfl (wl_call (.cons rfl (.cons rfl .nil)) (great_c c l _ (hl.mono hM1) hS) rfl ?_)))))))
  rintro _ w ⟨rfl, hS⟩
  refine wl (y_pickF rfl rfl) rfl (zM rfl rfl (wl_cases (s := 23) rfl (fun hg23 => ?_) (fun hg23 => ?_)))
  · try simp only [zZ] at hg23
    refine zO rfl rfl rfl rfl (zO rfl rfl rfl rfl (zO rfl rfl rfl rfl (wl (y_pickT rfl rfl) rfl (zE (wc_ifT rfl rfl (zQ (zR (wl_call .nil (awake_c (hG.mono hM1) hS) rfl ?_))))))))
    rintro _ w ⟨M2, hM2, rfl, hS⟩
    refine zA rfl rfl (zE (wc_ret (wret (vs := [_]) (.tmp rfl .nil) ?_)))
    first
    | exact ⟨_, hMc, rfl, hS.keep⟩
    | exact ⟨M2, hM1.trans hM2, rfl, hS.keep⟩
  · try simp only [zZ] at hg23
    refine zI rfl rfl (wl ((y_loadS st_23 sz_23 rfl (vs := cfgL c) (hS.cells rfl) rfl).val (show _ = cfgV c from rfl)) rfl (zI rfl rfl (wl_call (.cons rfl .nil) (rmayc_c c hS) rfl ?_)))
    rintro _ w ⟨rfl, hS⟩
    refine zI rfl rfl (wl (y_not rfl) rfl (wl (y_pickF rfl rfl) rfl (zE (wc_if rfl (fun hc27 => ?_) (fun hc27 => ?_)))))
    · try simp only [zZ] at hc27
      refine zQ (zR (wl_call .nil (awake_c (hG.mono hM1) hS) rfl ?_))
      rintro _ w ⟨M2, hM2, rfl, hS⟩
      refine zA rfl rfl (zE (wc_ret (wret (vs := [_]) (.tmp rfl .nil) ?_)))
      first
      | exact ⟨_, hMc, rfl, hS.keep⟩
      | exact ⟨M2, hM1.trans hM2, rfl, hS.keep⟩
    · try simp only [zZ] at hc27
      have g3 : mayC c = 0 := by simpa using hc27
      obtain ⟨g1, g7, g2⟩ := greatB_ok (by assumption)
      have hcm := mayC_ok g3
      have g4 : newE c 1 = 0 := by unfold newE; rw [if_neg (by omega), if_neg (by omega)]
      have hab : ∀ a ∈ l, a.bytes.size ≤ 140737488351232 := fun a ha => by have := (greatA_ok (g2 a ha)).1; omega
      have hQ := fun i => (Quiet.new g3 1).acts (l.take i) fun x hx => hab x (List.mem_of_mem_take hx)
      have hQs := fun i => actsQ_same (Nod.new_wide c 1) (l.take i)
      refine zK (zQ (zR (wl ((y_loadS st_23 sz_23 rfl (vs := cfgL c) (hS.cells rfl) rfl).val (show _ = cfgV c from rfl)) rfl (wl_call (.cons rfl (.cons rfl .nil)) (nnew_c c 1 hS) rfl ?_))))
      rintro v w ⟨M2, hM2, ⟨h0, _⟩ | ⟨_, p, H, rfl, hn, hS⟩⟩
      · exact absurd g4 h0
      refine zM rfl rfl (zX (vs := [_, _]) rfl rfl rfl (zX (vs := [_, _]) rfl rfl rfl (zA rfl rfl (zA rfl rfl (zE (zQ (zR (wl ((y_loadS st_23 sz_23 rfl (vs := cfgL c) (hS.cells rfl) rfl).val (show _ = cfgV c from rfl)) rfl (wl_call (.cons rfl .nil) (qnew_c c hS) rfl ?_)))))))))
      rintro v w (⟨h0, _⟩ | ⟨_, qp, Hq, rfl, hq, hS⟩)
      · exact absurd g3 h0
      refine zM rfl rfl (zX (vs := [_, _]) rfl rfl rfl (zX (vs := [_, _]) rfl rfl rfl (zA rfl rfl (zA rfl rfl (zE (zQ (zQ (zR (zM rfl rfl (wl ((y_pnil Tryz.underlying27 rfl rfl).val (u := .bool false) rfl) rfl (zM rfl rfl (zI rfl rfl (zM rfl rfl (zI rfl rfl (wl ((y_pnil Tryz.underlying88 rfl rfl).val (u := .bool false) rfl) rfl (wl (y_pickF rfl rfl) rfl (zE (wc_ifF rfl rfl (zK (zQ (zQ ?_)))))))))))))))))))))
      have hMc := hM1.trans hM2
      clear hM1 hM2
      refine zR (zM rfl rfl (wl (y_len_sl Tryz.underlying24 rfl) rfl (zM rfl rfl (zE (zB (wc_loop (α := Nat × Mem × Chunk) (fun ⟨i, _, _⟩ => [(5, .pointer (some ⟨p, 0, none⟩)), (7, .pointer (some ⟨qp, 0, none⟩)), (45, .slice sa l.length sc), (46, .int .i64 l.length), (47, .int .i64 i)]) (fun ⟨i, M3, H3⟩ w => i ≤ l.length ∧ Mle M M3 ∧ IsN M3 p ((Nod.new c 1).actsQ (l.take i)) H3 ∧ IsQ M3 qp (Sqr.new c) Hq ∧ St M3 w (H3 :: Hq :: Ls)) (fun ⟨i, _, _⟩ => l.length - i) (0, M2, H) (sub_cons rfl (sub_cons rfl (sub_cons rfl (sub_cons rfl (sub_cons rfl sub_nil))))) ⟨by omega, hMc, hn, hq, hS.keep⟩ ?_))))))
      clear hS hn hMc hq
      rintro ⟨i, M3, H3⟩ w ⟨hi, hMc, hn, hq, hS⟩
      refine zQ (zR (wl (y_lss rfl rfl) rfl (zE (zQ (wc_if rfl (fun hc48 => ?_) (fun hc48 => ?_))))))
      · try simp only [zZ] at hc48
        refine zK (zQ (zB (zQ ?_)))
        have hi' : i < l.length := by omega
        obtain ⟨a, hai⟩ : ∃ a, l[i]? = some a := ⟨_, List.getElem?_eq_getElem hi'⟩
        have hinv := (hQ i).inv
        rw [List.length_take] at hinv
        have htk : (Nod.new c 1).actsQ (l.take (i + 1)) = ((Nod.new c 1).actsQ (l.take i)).actQ a := by
          unfold Nod.actsQ
          rw [List.take_add_one, hai, List.foldl_append]; rfl
        generalize (Nod.new c 1).actsQ (l.take i) = m at hn hinv htk
        obtain ⟨bb, off, c', hse, hce⟩ := ((hl.mono hMc).holds hS).at hai
        simp only [Value.slice.injEq] at hse
        have hSk := hS
        obtain ⟨rfl, _, rfl⟩ := hse
        replace hS := hSk
        refine zR (wl (y_ixa_sl Tryz.underlying24 sz_61 rfl rfl (by omega) (by omega)) rfl (wl ((y_loadS st_61 sz_61 rfl (vs := encA.f a) hce rfl).val (show _ = aV a from rfl)) rfl (a_alloc z_61 hS rfl fun b10 w hS => a_storeS (vs := [_, _, _, _, _, _]) sz_61 rfl rfl rfl rfl hS (Nat.le_of_ble_eq_true rfl) fun w hS => zE (zQ (zR (zF fl_61_0 rfl rfl (wl (y_load pl_3 rfl (hS.cell (v := .int .i64 a.kind) rfl)) rfl (wl (y_neq rfl rfl) rfl (zE (wc_if rfl (fun hc53 => ?_) (fun hc53 => ?_)))))))))))
        · try simp only [zZ] at hc53
          have hact : m.actQ a = m.act a := by unfold Nod.actQ; rw [if_neg (by omega)]
          rw [hact] at htk
          refine zR (zM rfl rfl (wl ((y_loadS st_61 sz_61 rfl (vs := encA.f a) (hS.cells rfl) rfl).val (show _ = aV a from rfl)) rfl (wl_call (.cons rfl (.cons rfl .nil)) (do_c (hG.mono hMc) a (hab a (List.mem_of_getElem? hai)) hinv (by omega) hn (hS.pull H3)) rfl ?_)))
          rintro _ w ⟨M6, H6, hM6, rfl, hn6, hS⟩
          replace hMc := hMc.trans hM6
          replace hq := hq.mono hM6
          refine zE (zR (wl (y_add rfl rfl (w64 (by omega) (by omega))) rfl (zM rfl rfl (zE ?_))))
          first
          | exact ⟨(i + 1, M6, H6), by simp only; omega, sub_cons rfl (sub_cons rfl (sub_cons rfl (sub_cons rfl (sub_cons rfl sub_nil)))), by omega, hMc, by rw [htk]; exact hn6, hq, hS.keep⟩
          | exact ⟨(i + 1, M3, H3), by simp only; omega, sub_cons rfl (sub_cons rfl (sub_cons rfl (sub_cons rfl (sub_cons rfl sub_nil)))), by omega, hMc, by rw [htk]; exact hn, hq, hS.keep⟩
        · try simp only [zZ] at hc53
          have hact : m.actQ a = m := by unfold Nod.actQ; rw [if_pos (by omega)]
          rw [hact] at htk
          refine zK (zR (wl (y_add rfl rfl (w64 (by omega) (by omega))) rfl (zM rfl rfl (zE ?_))))
          first
          | exact ⟨(i + 1, M6, H6), by simp only; omega, sub_cons rfl (sub_cons rfl (sub_cons rfl (sub_cons rfl (sub_cons rfl sub_nil)))), by omega, hMc, by rw [htk]; exact hn6, hq, hS.keep⟩
          | exact ⟨(i + 1, M3, H3), by simp only; omega, sub_cons rfl (sub_cons rfl (sub_cons rfl (sub_cons rfl (sub_cons rfl sub_nil)))), by omega, hMc, by rw [htk]; exact hn, hq, hS.keep⟩
      · try simp only [zZ] at hc48
        obtain rfl : i = l.length := by omega
        have hQe := hQ l.length
        have hQc := hQs l.length
        clear hQ hQs
        rw [List.take_length] at hn hQe hQc
        generalize (Nod.new c 1).actsQ l = m at hn hQe hQc
        have hmc : m.c = c := hQc.1
        have hbet := hQe.bet hQc.2
        rw [hmc] at hbet
        have hJt := hbet.i.inv.j
        have hsm := hbet.i.inv.small (by omega)
        have hbJ := behindJ hbet.i.nr
        refine wc_exit (zQ (zR (zM rfl rfl (wl_call (.cons rfl .nil) (njournal_c (by omega) hn (hS.pull H3)) rfl ?_))))
        rintro v w ⟨M7, ys, Hj, hM7, hoj, hrj, hn, hS⟩
        replace hMc := hMc.trans hM7
        replace hq := hq.mono hM7
        rw [hbJ] at hrj
        have hjl := hrj.len
        obtain ⟨ja, jc, rfl⟩ := hoj.slice
        refine zA rfl rfl (zE (zQ (zQ (zR (zM rfl rfl (wl (y_len_sl Tryz.underlying32 rfl) rfl (wl ((y_mul rfl rfl (w64 (by omega) (by omega))).val (u := .int .i64 ((4 * ys.length : Nat) : Int)) (congrArg (Value.int .i64) (by omega))) rfl (wl ((y_add rfl rfl (w64 (by omega) (by omega))).val (u := .int .i64 ((4 * ys.length + 6 : Nat) : Int)) (congrArg (Value.int .i64) (by omega))) rfl (zM rfl rfl (zE (zB (wc_loop (α := Nat × Mem × Chunk × Chunk) (fun ⟨i, _, _, _⟩ => [(5, .pointer (some ⟨p, 0, none⟩)), (7, .pointer (some ⟨qp, 0, none⟩)), (11, .slice ja ys.length jc), (63, .int .i64 ((4 * ys.length + 6 : Nat) : Int)), (64, .int .i64 i)]) (fun ⟨i, M3, H3, Hq⟩ w => i ≤ 4 * ys.length + 6 ∧ Mle M M3 ∧ IsN M3 p (prdN i (m, Sqr.new c)).1 H3 ∧ IsQ M3 qp (prdN i (m, Sqr.new c)).2 Hq ∧ Rvs M3 ys m.j.l ∧ St M3 w (H3 :: Hq :: Hj :: Ls)) (fun ⟨i, _, _, _⟩ => 4 * ys.length + 6 - i) (0, M7, H3, Hq) (sub_cons rfl (sub_cons rfl (sub_cons rfl (sub_cons rfl (sub_cons rfl sub_nil))))) ⟨by omega, hMc, hn, hq, hrj, hS.keep⟩ ?_))))))))))))
        clear hS hn hMc hq hrj
        rintro ⟨i, M8, H8, Hq8⟩ w ⟨hi, hMc, hn, hq, hrj, hS⟩
        refine zQ (zR (wl (y_lss rfl rfl) rfl (zE (zQ (wc_if rfl (fun hc65 => ?_) (fun hc65 => ?_))))))
        · try simp only [zZ] at hc65
          refine zK (zQ (zB (zQ (zQ ?_))))
          have hi' : i < 4 * ys.length + 6 := by omega
          have hb := (prdN_ok i l.length (m, Sqr.new c) (by simpa using hbet)).1
          have hsuc := prdN_succ i (m, Sqr.new c)
          generalize prdN i (m, Sqr.new c) = st at hn hq hb hsuc
          obtain ⟨n, q⟩ := st
          simp only at hn hq hb
          have hnsm := hb.i.inv.small (by omega)
          have htsm := hb.i.ntick.inv.small (by omega)
          have hp1 : (prd (n, q)).1 = (n.tick.hears (q.hears n.tickP).tickP).pull := rfl
          have hp2 : (prd (n, q)).2 = (q.hears n.tickP).tick := rfl
          rw [← hsuc] at hp1 hp2
          have hup := hb.i.up
          have hqh := hb.i.ntick.qhears hup
          have hqt := hqh.qtick
          have hdn := hqh.dn
          refine zR (zM rfl rfl (wl_call (.cons rfl .nil) (ntick_c (hG.mono hMc) hb.i.inv.k hnsm hb.i.inv.frames hn (hS.pull H8)) rfl ?_))
          rintro v w ⟨M9, H9, Hp9, hM9, hpk, hn, hS⟩
          replace hMc := hMc.trans hM9
          replace hq := hq.mono hM9
          replace hrj := hrj.mono hM9
          have hpl := pkts_length (origin := n.origin) (to_ := 0) (mtu := n.c.mtu) (l := n.tick.k.frames)
          have hfl := frames_length n.tick.k hb.i.ntick.inv.k
          have hpl2 : n.tickP.length ≤ 16 := by unfold Nod.tickP; omega
          obtain ⟨pa, pc, rfl⟩ := hpk.slice
          refine wl (y_len_sl Tryz.underlying37 rfl) rfl (zM rfl rfl (zE (zB (wc_loop (α := Nat × Mem × Chunk) (fun ⟨k, _, _⟩ => [(5, .pointer (some ⟨p, 0, none⟩)), (7, .pointer (some ⟨qp, 0, none⟩)), (11, .slice ja ys.length jc), (63, .int .i64 ((4 * ys.length + 6 : Nat) : Int)), (64, .int .i64 i), (67, .slice pa n.tickP.length pc), (68, .int .i64 n.tickP.length), (69, .int .i64 k)]) (fun ⟨k, M3, Hq⟩ w => k ≤ n.tickP.length ∧ Mle M M3 ∧ IsN M3 p n.tick H9 ∧ IsQ M3 qp (q.hears (n.tickP.take k)) Hq ∧ Rvs M3 ys m.j.l ∧ St M3 w (Hp9 :: H9 :: Hq :: Hj :: Ls)) (fun ⟨k, _, _⟩ => n.tickP.length - k) (0, M9, Hq8) (sub_cons rfl (sub_cons rfl (sub_cons rfl (sub_cons rfl (sub_cons rfl (sub_cons rfl (sub_cons rfl (sub_cons rfl sub_nil)))))))) ⟨by omega, hMc, hn, hq, hrj, hS.keep⟩ ?_))))
          clear hS hn hMc hq hrj
          rintro ⟨k, M10, Hq10⟩ w ⟨hk, hMc, hn, hq, hrj, hS⟩
          refine zQ (zR (wl (y_lss rfl rfl) rfl (zE (zQ (wc_if rfl (fun hc70 => ?_) (fun hc70 => ?_))))))
          · try simp only [zZ] at hc70
            refine zK (zQ (zB (zQ ?_)))
            have hk' : k < n.tickP.length := by omega
            obtain ⟨x, hxk⟩ : ∃ x, n.tickP[k]? = some x := ⟨_, List.getElem?_eq_getElem hk'⟩
            have hxs := (hup x (List.mem_of_getElem? hxk)).2.2.1
            have hqk := hb.i.ntick.qhears (l := n.tickP.take k) fun y hy => hup y (List.mem_of_mem_take hy)
            have htk : q.hears (n.tickP.take (k + 1)) = (q.hears (n.tickP.take k)).hear 1 x.bytes := by
              unfold Sqr.hears
              rw [List.take_add_one, hxk, List.foldl_append]; rfl
            generalize q.hears (n.tickP.take k) = qk at hq hqk htk
            obtain ⟨w1, w2, w3, w4, w5⟩ := hqk.walk
            obtain ⟨w6, w7⟩ := hqk.heard hxs
            obtain ⟨bb, off, c', hse, hce⟩ := (hpk.holds (hS.pull Hp9)).at hxk
            simp only [Value.slice.injEq] at hse
            have hSk := hS
            obtain ⟨rfl, _, rfl⟩ := hse
            replace hS := hSk
            refine zR (wl (y_ixa_sl Tryz.underlying37 sz_40 rfl rfl (by omega) (by omega)) rfl (wl (y_loadS st_40 sz_40 rfl (vs := encP.f x) hce rfl) rfl (a_alloc z_40 hS rfl fun b13 w hS => a_storeS (vs := [_, _, _]) sz_40 rfl rfl rfl rfl hS (Nat.le_of_ble_eq_true rfl) fun w hS => zE (zR (zM rfl rfl (zF fl_40_2 rfl rfl (wl (y_load pl_9 rfl (hS.cell (v := .string x.bytes) rfl)) rfl (wl_call (.cons rfl (.cons rfl (.cons rfl .nil))) (qhear_c (hG.mono hMc) 1 x.bytes w1 w2 (by omega) (by omega) w5 hxs w6 w7 hq (hS.pull Hq10)) rfl ?_))))))))
            rintro _ w ⟨M11, H11, hM11, rfl, hq, hS⟩
            rw [← htk] at hq
            refine zE (zR (wl (y_add rfl rfl (w64 (by omega) (by omega))) rfl (zM rfl rfl (zE ?_))))
            exact ⟨(k + 1, M11, H11), by simp only; omega, sub_cons rfl (sub_cons rfl (sub_cons rfl (sub_cons rfl (sub_cons rfl (sub_cons rfl (sub_cons rfl (sub_cons rfl sub_nil))))))), by omega, hMc.trans hM11, hn.mono hM11, hq, hrj.mono hM11, hS.keep⟩
          · try simp only [zZ] at hc70
            obtain rfl : k = n.tickP.length := by omega
            rw [List.take_length] at hq
            generalize q.hears n.tickP = q1 at hq hp1 hp2 hqh hqt hdn
            obtain ⟨w1, w2, w3, w4, w5⟩ := hqh.walk
            have w6 := hqh.pumped
            refine wc_exit (zQ (zQ (zR (zM rfl rfl (wl_call (.cons rfl .nil) (qtick_c (hG.mono hMc) (by omega) (by omega) w5 w6 hq (hS.pull Hq10)) rfl ?_)))))
            rintro v w ⟨M11, H11, Hp11, hM11, hpk1, hq, hS⟩
            replace hMc := hMc.trans hM11
            replace hn := hn.mono hM11
            replace hrj := hrj.mono hM11
            obtain ⟨pa1, pc1, rfl⟩ := hpk1.slice
            have htl : q1.tickP.length ≤ 16 * q1.ps.length := q1.tickN_len w5 _
            refine wl (y_len_sl Tryz.underlying37 rfl) rfl (zM rfl rfl (zE (zB (wc_loop (α := Nat × Chunk) (fun ⟨k, _⟩ => [(5, .pointer (some ⟨p, 0, none⟩)), (7, .pointer (some ⟨qp, 0, none⟩)), (11, .slice ja ys.length jc), (63, .int .i64 ((4 * ys.length + 6 : Nat) : Int)), (64, .int .i64 i), (79, .slice pa1 q1.tickP.length pc1), (80, .int .i64 q1.tickP.length), (81, .int .i64 k)]) (fun ⟨k, Hn⟩ w => k ≤ q1.tickP.length ∧ IsN M11 p (n.tick.hears (q1.tickP.take k)) Hn ∧ St M11 w (Hp11 :: Hn :: H11 :: Hj :: Ls)) (fun ⟨k, _⟩ => q1.tickP.length - k) (0, H9) (sub_cons rfl (sub_cons rfl (sub_cons rfl (sub_cons rfl (sub_cons rfl (sub_cons rfl (sub_cons rfl (sub_cons rfl sub_nil)))))))) ⟨by omega, hn, hS.keep⟩ ?_))))
            clear hS hn
            rintro ⟨k, H12⟩ w ⟨hk, hn, hS⟩
            refine zQ (zR (wl (y_lss rfl rfl) rfl (zE (zQ (wc_if rfl (fun hc82 => ?_) (fun hc82 => ?_))))))
            · try simp only [zZ] at hc82
              refine zK (zQ (zB (zQ ?_)))
              have hk' : k < q1.tickP.length := by omega
              obtain ⟨x, hxk⟩ : ∃ x, q1.tickP[k]? = some x := ⟨_, List.getElem?_eq_getElem hk'⟩
              have hnk := hqt.nhears (l := q1.tickP.take k) (fun y hy => hdn y (List.mem_of_mem_take hy))
              have htk : n.tick.hears (q1.tickP.take (k + 1)) = if x.to_ = 1 then (n.tick.hears (q1.tickP.take k)).hear x.bytes else n.tick.hears (q1.tickP.take k) := by
                unfold Nod.hears
                rw [List.take_add_one, hxk, List.foldl_append]; rfl
              generalize n.tick.hears (q1.tickP.take k) = nk at hn hnk htk
              obtain ⟨bb, off, c', hse, hce⟩ := (hpk1.holds (hS.pull Hp11)).at hxk
              simp only [Value.slice.injEq] at hse
              have hSk := hS
              obtain ⟨rfl, _, rfl⟩ := hse
              replace hS := hSk
              refine zR (wl (y_ixa_sl Tryz.underlying37 sz_40 rfl rfl (by omega) (by omega)) rfl (wl (y_loadS st_40 sz_40 rfl (vs := encP.f x) hce rfl) rfl (a_alloc z_40 hS rfl fun b15 w hS => a_storeS (vs := [_, _, _]) sz_40 rfl rfl rfl rfl hS (Nat.le_of_ble_eq_true rfl) fun w hS => zE (zQ (zR (zF fl_40_1 rfl rfl (wl (y_load pl_3 rfl (hS.cell (v := .int .i64 x.to_) rfl)) rfl (wl (y_eql rfl rfl) rfl (zE (wc_if rfl (fun hc87 => ?_) (fun hc87 => ?_)))))))))))
              · try simp only [zZ] at hc87
                rw [if_pos hc87] at htk
                have hxs := (hdn x (List.mem_of_getElem? hxk) hc87).2.2.1
                refine zR (zM rfl rfl (zF fl_40_2 rfl rfl (wl (y_load pl_9 rfl (hS.cell (v := .string x.bytes) rfl)) rfl (wl_call (.cons rfl (.cons rfl .nil)) (nhear_c (hG.mono hMc) x.bytes hxs hnk.inv.k hn (hS.pull H12)) rfl ?_))))
                rintro _ w ⟨H13, rfl, hn, hS⟩
                rw [← htk] at hn
                refine zE (zR (wl (y_add rfl rfl (w64 (by omega) (by omega))) rfl (zM rfl rfl (zE ?_))))
                first
                | exact ⟨(k + 1, H13), by simp only; omega, sub_cons rfl (sub_cons rfl (sub_cons rfl (sub_cons rfl (sub_cons rfl (sub_cons rfl (sub_cons rfl (sub_cons rfl sub_nil))))))), by omega, hn, hS.keep⟩
                | exact ⟨(k + 1, H12), by simp only; omega, sub_cons rfl (sub_cons rfl (sub_cons rfl (sub_cons rfl (sub_cons rfl (sub_cons rfl (sub_cons rfl (sub_cons rfl sub_nil))))))), by omega, by rw [htk]; exact hn, hS.keep⟩
              · try simp only [zZ] at hc87
                rw [if_neg hc87] at htk
                refine zK (zR (wl (y_add rfl rfl (w64 (by omega) (by omega))) rfl (zM rfl rfl (zE ?_))))
                first
                | exact ⟨(k + 1, H13), by simp only; omega, sub_cons rfl (sub_cons rfl (sub_cons rfl (sub_cons rfl (sub_cons rfl (sub_cons rfl (sub_cons rfl (sub_cons rfl sub_nil))))))), by omega, hn, hS.keep⟩
                | exact ⟨(k + 1, H12), by simp only; omega, sub_cons rfl (sub_cons rfl (sub_cons rfl (sub_cons rfl (sub_cons rfl (sub_cons rfl (sub_cons rfl (sub_cons rfl sub_nil))))))), by omega, by rw [htk]; exact hn, hS.keep⟩
            · try simp only [zZ] at hc82
              obtain rfl : k = q1.tickP.length := by omega
              rw [List.take_length] at hn
              have hnf := hqt.nhears hdn
              generalize n.tick.hears q1.tickP = nf at hn hp1 hnf
              refine wc_exit (zR (zM rfl rfl (wl_call (.cons rfl .nil) (npull_c (hG.mono hMc) hnf.inv.k (hnf.inv.small (by omega)) hnf.inv.rd hn (hS.pull H12)) rfl ?_)))
              rintro _ w ⟨M14, H14, hM14, rfl, hn, hS⟩
              rw [← hp1] at hn
              rw [← hp2] at hq
              refine zE (zR (wl (y_add rfl rfl (w64 (by omega) (by omega))) rfl (zM rfl rfl (zE ?_))))
              exact ⟨(i + 1, M14, H14, H11), by simp only; omega, sub_cons rfl (sub_cons rfl (sub_cons rfl (sub_cons rfl (sub_cons rfl sub_nil)))), by omega, hMc.trans hM14, hn, hq.mono hM14, hrj.mono hM14, hS.keep⟩
        · try simp only [zZ] at hc65
          obtain rfl : i = 4 * ys.length + 6 := by omega
          have hb := (prdN_ok (4 * ys.length + 6) l.length (m, Sqr.new c) (by simpa using hbet)).1
          obtain ⟨e1, e2, e3, e4⟩ := pair_end (n := 4 * ys.length + 6) hbet (by omega) (by omega)
          generalize prdN (4 * ys.length + 6) (m, Sqr.new c) = st at hn hq hb e1 e2 e3 e4
          obtain ⟨n, q⟩ := st
          simp only at hn hq hb e1 e2 e3 e4
          have hnsm := hb.i.inv.small (by omega)
          refine wc_exit (zQ (zR (zM rfl rfl (wl_call (.cons rfl .nil) (qlog_c (by rw [e1]; omega) hq (hS.pull Hq8)) rfl ?_))))
          rintro v w ⟨M15, zs, Hz, hM15, hoz, hrz, hq, hS⟩
          replace hMc := hMc.trans hM15
          replace hn := hn.mono hM15
          replace hrj := hrj.mono hM15
          refine zM rfl rfl (wl_call (.cons rfl (.cons rfl .nil)) (rsameall_c (by rw [e1]; omega) hoz hrz hoj hrj ((hS.pull Hj).pull Hz)) rfl ?_)
          rintro _ w ⟨rfl, hS⟩
          rw [decide_eq_true e1]
          refine zM rfl rfl (zI rfl rfl (zM rfl rfl (zI rfl rfl (wl_call (.cons rfl .nil) (nknown_c (by have := hnsm.1; omega) hn (hS.pull H8)) rfl ?_))))
          rintro v w ⟨M16, zs2, Hz2, hM16, hoz2, hrz2, hn, hS⟩
          replace hMc := hMc.trans hM16
          replace hrj := hrj.mono hM16
          refine zI rfl rfl (zM rfl rfl (zI rfl rfl (wl_call (.cons rfl (.cons rfl .nil)) (rsameall_c (by rw [e2]; omega) hoz2 hrz2 hoj hrj ((hS.pull Hj).pull Hz2)) rfl ?_)))
          rintro _ w ⟨rfl, hS⟩
          rw [decide_eq_true e2]
          refine wl (y_pickT rfl rfl) rfl (zM rfl rfl (zI rfl rfl (zM rfl rfl (zI rfl rfl (wl_call (.cons rfl .nil) (nlook_c hnsm hn (hS.pull H8)) rfl ?_)))))
          rintro _ w ⟨M17, hM17, rfl, hn, hS⟩
          replace hMc := hMc.trans hM17
          refine zI rfl rfl (wl (y_field fl_30_2 pl_3 rfl rfl) rfl (zI rfl rfl (wl ((y_eql rfl rfl).val (u := .bool true) (congrArg Value.bool (decide_eq_true (show ((n.own.pending.length : Nat) : Int) = 0 by rw [e3]; rfl)))) rfl (wl (y_pickT rfl rfl) rfl (zM rfl rfl (zI rfl rfl (zM rfl rfl (zI rfl rfl (wl_call (.cons rfl .nil) (nlook_c hnsm hn (hS.pull H8)) rfl ?_)))))))))
          rintro _ w ⟨M18, hM18, rfl, hn, hS⟩
          replace hMc := hMc.trans hM18
          refine zI rfl rfl (wl (y_field fl_30_5 pl_3 rfl rfl) rfl (zI rfl rfl (wl ((y_eql rfl rfl).val (u := .bool true) (congrArg Value.bool (decide_eq_true (show ((n.k.s.all.length - n.k.s.acked : Nat) : Int) = 0 by rw [e4]; rfl)))) rfl (wl (y_pickT rfl rfl) rfl (zA rfl rfl (zE (wc_ret (wret (vs := [_]) (.tmp rfl .nil) ?_))))))))
          first
          | exact ⟨_, hMc, rfl, hS.keep⟩
          | exact ⟨M2, hM1.trans hM2, rfl, hS.keep⟩
end
end Go.Proofs.YtndahppmjdbifaaGreatDoor.Sys
namespace Go.Proofs.YtndahppmjdbifaaGreatDoor.nodePair
open Go Go.Proofs Go.ChangeShapes Go.WideShapes Go.ChangeAt Go.RowKit Go.Proofs.YtndahppmjdbifaaGreatDoor.Eng Go.Proofs.YtndahppmjdbifaaGreatDoor.Pre Go.Proofs.YtndahppmjdbifaaGreatDoor.Nod Go.Proofs.YtndahppmjdbifaaGreatDoor.Sys
open Go.ChangeMaps (open_string shut_string)
set_option linter.unusedVariables false
theorem own : ownKnob Tryz.prog.godebug = none := by kernel_rfl
theorem laid_ : laidOutB Tryz.prog = true := by kernel_rfl
theorem walk (w : World) (hG : Bits (mem0 w)) (a0 : Cfg) (a1 : List Nod.Act) (v1 : Value) (g1 : Rd (mem0 w) encA v1 a1) :
    Calls Tryz.prog 9 #[cfgV a0, v1] w fun e w' => e = .returned (.bool true) ∧ Below w.heap.size w w' := by
  obtain ⟨b2, c2, rfl⟩ := (g1.holds (st0 w)).slice
  exact (NodePair_c hG a0 a1 _ g1 (st0 w)).2.mono fun e w' ⟨v, he, M, hM, hv, hS⟩ => ⟨by rw [he, hv], below_of hS hM⟩
set_option maxRecDepth 100000 in
theorem lifted (os : Os) (started : os.Started) (H : Type) (enc : TypeId × Value → H) :
    ReturnsInHanded {} Tryz.checked os 9 .any (fun w args => (Rows.nodePairSpec.pre enc Tryz.prog Tryz.f9 [] false w args ∧ laidMetH Tryz.prog laidBits w) ∧ sizedMet enc Tryz.prog Tryz.f9 (OpenSpec.ofChange Rows.nodePairSpec) false w args)
      (Rows.nodePairSpec.post enc Tryz.prog Tryz.f9 false true false false) := by
  refine returnsInHanded_of_change_and (C := Tryz.checked) (X := fun w _ => laidMetH Tryz.prog laidBits w) (fun _ _ _ hh h => h.of_heap hh) own started (by kernel_rfl) Tryz.func9
    (ChangeSpec.witness_shaped (enc := enc) (C := Tryz.checked) (os := os) (X := fun w _ => laidMetH Tryz.prog laidBits w) false (World.doorLaid Tryz.prog 400 os) #[.agg #[.int .i64 0, .int .i64 0, .int .i64 0, .int .i64 0, .int .i64 0, .int .i64 0], .slice none 0 0] 8 rfl (World.shaped_of_RefB (by kernel_rfl) (by kernel_rfl)) (by kernel_rfl) (by kernel_rfl) (by kernel_rfl) (bits_met os _)) ?_
  intro W base args ds gs before hval0 hW _ _ hL _
  have hval : ∀ (j : Nat) t v, Tryz.f9.params[j]? = some t → args[j]? = some v → Value.okWide Tryz.prog W .any base t v := hval0
  have hW' := hW
  obtain ⟨p, q, hA0, hV, rfl, hfz, hnd⟩ := hW
  have hA : DataW.TrodAll enc Tryz.prog W 0 (fun _ => true) true Tryz.f9.params.toList args.toList ds p := hA0
  rw [Tryz.params9] at hA hval
  obtain ⟨v0, vs0, d0, ds0, p0, q0, hargs, rfl, rfl, h0, r0⟩ := trodAll_cons hA
  obtain ⟨v1, vs1, d1, ds1, p1, q1, rfl, rfl, rfl, h1, r1⟩ := trodAll_cons r0
  obtain ⟨rfl, rfl, rfl⟩ := trodAll_nil r1
  obtain rfl : args = #[v0, v1] := by cases args; simp_all
  obtain ⟨rfl, rfl⟩ := trodVars_none hV
  obtain ⟨a0, rfl⟩ := open_cfg (hval 0 23 v0 rfl rfl) h0
  obtain ⟨a1, g1⟩ := open_acts (hval 1 24 v1 rfl rfl) h1
  refine (walk W (bits_of hL) a0 a1 v1 g1).mono fun e W' ⟨he, hg⟩ => ?_
  subst he
  exact ⟨_, rfl, law_post laid_ (by kernel_rfl) (by kernel_rfl) rfl Tryz.underlying4 hW' rfl hg⟩
theorem over : Rows.nodePairRow.holds Tryz.pinned (OpenSpec.ofChange Rows.nodePairSpec) :=
  OpenClaim.holds_of_wide 9 Tryz.f9 rfl rfl rfl rfl rfl rfl rfl ⟨rfl, rfl, rfl, rfl, rfl⟩ rfl rfl rfl rfl rfl (by kernel_rfl) Tryz.func9 (by kernel_rfl)
    (of_decide_eq_true (by kernel_rfl)) (by unfold Func.isWrapper; first | (rw [if_pos (by decide +kernel)]; kernel_rfl) | (rw [if_neg (by decide +kernel)]; exact ⟨rfl, rfl⟩))
    (fun os started H enc _ => lifted os started H enc)
set_option maxRecDepth 100000 in
theorem proved : Rows.NodePairCardSaid :=
  Claim7.holds_tied_plain_at .later [] [.data] true (true, "67b0996c903ca52b6a14ede8c9960722141bb73d263f4f25cb690ebd8fa2589f") false
    over (fun _ h => by cases h) (by kernel_rfl) (fun _ h => by cases h) nodePair_row_tie rfl ⟨rfl, rfl⟩ (by kernel_rfl) rfl
    (fun f fn hf hfn => by
      obtain rfl : f = 9 := Option.some.inj ((show Tryz.prog.funcNamed "chapbook/chapbooklaw18.NodePair" = some 9 by kernel_rfl).symm.trans hf) |>.symm
      obtain rfl : fn = Tryz.f9 := (Option.some.inj (Tryz.func9.symm.trans hfn)).symm
      exact ⟨by kernel_rfl, fun j t ht => by
        rw [Tryz.params9] at ht
        have hm : t ∈ [23, 24] := by
          have hm0 := Array.mem_of_getElem? ht
          simp only [List.mem_toArray, List.mem_cons, List.not_mem_nil, or_false] at hm0 ⊢
          omega
        have hall : ([23, 24].all fun u => !Tryz.prog.wantsStandIn u) = true := by kernel_rfl
        have hx : Tryz.prog.wantsStandIn t = false := by simpa using List.all_eq_true.1 hall t hm
        exact hx⟩)
    (by kernel_rfl)
#print axioms proved
end Go.Proofs.YtndahppmjdbifaaGreatDoor.nodePair
