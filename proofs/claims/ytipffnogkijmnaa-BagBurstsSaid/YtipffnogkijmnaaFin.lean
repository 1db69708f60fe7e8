import Derived.Test.YtipffnogkijmnaaTy
import Derived.Test.YtipffnogkijmnaaEng7
import Derived.ProofKit
import Derived.Carry
import Derived.OpenVars
import Derived.OpenShut
set_option linter.unusedVariables false
set_option linter.unusedSimpArgs false
namespace Go.Proofs.Ytipffnogkijmnaa.Eng
open Go Go.RowKit

/-! ### the start of a law's call -/
def mem0 (w : World) : Mem := ⟨fun b => w.heap[b]?, w.os, w.output, w.tape⟩
theorem st0 (w : World) : St (mem0 w) w [] := ⟨fun b o h => h, by simp, by simp, by simp, rfl, rfl, rfl⟩
theorem below_of {M : Mem} {w w' : World} {Ls : List Chunk} (h : St M w' Ls) (hm : Mle (mem0 w) M) : Below w.heap.size w w' := by
  have hk : ∀ k, k < w.heap.size → w'.heap[k]? = w.heap[k]? := by
    intro k hk
    have h1 : w.heap[k]? = some w.heap[k] := by simp [hk]
    rw [h1]
    exact h.imm k _ (hm.1 k _ h1)
  refine ⟨h.io.1.trans hm.2.1, h.io.2.2.trans hm.2.2.2, h.io.2.1.trans hm.2.2.1, ?_, hk⟩
  rcases Nat.lt_or_ge 0 w.heap.size with h0 | h0
  · have := hk (w.heap.size - 1) (by omega)
    rcases Nat.lt_or_ge (w.heap.size - 1) w'.heap.size with h1 | h1
    · omega
    · rw [Array.getElem?_eq_none h1] at this
      have h2 : w.heap[w.heap.size - 1]? = some (w.heap[w.heap.size - 1]'(by omega)) := by simp [h0]
      rw [h2] at this; cases this
  · omega

theorem trodAll_below {H : Type} {enc : TypeId × Value → H} {P : Program} (hl : laidOutB P = true) {W W' : World} (hb : Below W.heap.size W W') :
    ∀ {ts : List TypeId} {vs : List Value} {ds : List (DataW H)} {ps : List MemPlace}, ts.all (fun t => P.readableRec t && decide (t < P.types.size)) = true → (∀ x ∈ ps, x.block < W.heap.size) →
    DataW.TrodAll enc P W 0 (fun _ => true) true ts vs ds ps → DataW.TrodAll enc P W' 0 (fun b => decide (b < W.heap.size)) true ts vs ds ps
  | [], vs, ds, ps, _, _, h => by
    obtain ⟨rfl, rfl, rfl⟩ := ChangeShapes.trodAll_nil h
    exact ChangeShapes.trodAll_mk0
  | t :: ts, vs, ds, ps, ht, hlt, h => by
    obtain ⟨v, vs', d, ds', p, q, rfl, rfl, rfl, h1, h2⟩ := ChangeShapes.trodAll_cons h
    simp only [List.all_cons, Bool.and_eq_true, decide_eq_true_eq] at ht
    exact Go.trodAll_cons_mk (Below.trod hl ht.1.1 ht.1.2 h1 hb fun x hx => hlt x (List.mem_append_left _ hx)) (trodAll_below hl hb ht.2 (fun x hx => hlt x (List.mem_append_right _ hx)) h2)

theorem u32_wf {a : Int} (h : (Lit.int .u32 a).wf = true) : ∃ x : BitVec 32, a = (x.toNat : Int) := by
  have h' := bounds_u32 h
  exact ⟨BitVec.ofNat 32 a.toNat, by rw [BitVec.toNat_ofNat]; omega⟩
theorem i64_wf {a : Int} (h : (Lit.int .i64 a).wf = true) : -9223372036854775808 ≤ a ∧ a ≤ 9223372036854775807 := bounds_i64 h
/-- A law's end: it told true; of what was there nothing turned. -/
theorem law_post {H : Type} {enc : TypeId × Value → H} {P : Program} {f : Func} {s : ChangeSpec} {W W' : World} {args : Array Value} {ds gs : List (DataW H)} {before : List MemPlace} {tb : TypeId}
    (hl : laidOutB P = true) (hp : f.params.toList.all (fun t => P.readableRec t && decide (t < P.types.size)) = true) (hv : varsRowed P s.vars = true) (hr : f.resultTypes = #[tb]) (hb : P.underlying tb = some .bool)
    (hW : DataW.Whole enc P f.params.toList s.vars false W args.toList ds gs before) (hspec : s.fn H (ds ++ gs) = { results := [.lit (.bool true)], args := ds, vars := gs }) (hB : Below W.heap.size W W') :
    s.post enc P f false true false false W args (.bool true) W' := by
  have hlt := hW.lt
  obtain ⟨p, q, hA, hV, rfl, hfz, hnd⟩ := hW
  refine ⟨ds, gs, p ++ q, [], p, q, ⟨p, q, hA, hV, rfl, hfz, hnd⟩, ?_, ?_, ?_, hB.frame _, fun h => by cases h⟩
  · rw [hspec, hr]
    exact Go.trodAll_cons_mk (shut_bool hb true) ChangeShapes.trodAll_mk0
  · rw [hspec]
    exact trodAll_below hl hB hp (fun x hx => hlt x (List.mem_append_left _ hx)) hA
  · rw [hspec]
    exact Below.trodVars hl hB hv hV
end Go.Proofs.Ytipffnogkijmnaa.Eng
