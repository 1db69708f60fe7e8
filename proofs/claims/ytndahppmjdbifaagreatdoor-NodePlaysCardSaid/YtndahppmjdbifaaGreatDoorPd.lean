/-
  Part 4 of the proof: RefF, RefG, RefH, RefI, Fin, ArgL, ArgC, RegA, RegB, RegC, RegD, RegE, RegF, RegG, RegH, RegI.
-/
import Derived.Test.YtndahppmjdbifaaGreatDoorPc
import Derived.ProofKit
import Derived.Carry
import Derived.OpenVars
import Derived.OpenShut
import Derived.Deep.Slices
import Derived.LaidMore
import Derived.Lib.SmallJoins
import Derived.Test.YtndahppmjdbifaaGreatDoorRows
import Derived.KernelRfl
import Derived.MakeChecks
set_option linter.unusedVariables false
set_option linter.unusedSimpArgs false
namespace Go.Proofs.YtndahppmjdbifaaGreatDoor.Rou
open Go Go.Proofs Eng Pre Pak Val
section
variable {M : Mem} {w : World} {Ls : List Chunk}
theorem r4may_c (u : Upd) (hS : St M w Ls) : CallsR Tryz.prog 89 [uv u].toArray w fun v w' => v = .int .i64 (mayU u) ∧ St M w' Ls := by
  have he : u.s = (⟨#[]⟩ : ByteArray) → u.s.size = 0 := fun h => by rw [h] <;> rfl
  refine zC 69 Tryz.func89 rfl (zQ (zR (a_box rfl hS rfl fun b1 w hS => zA rfl (zE (zQ (zQ (zR (zF fl_59_0 rfl (wl (y_load pl_9 rfl (hS.c (v := .string u.key))) rfl (wl (y_len_s Tryz.underlying9 rfl) rfl (wl (y_eql rfl rfl) rfl (zM rfl (zWc (s := 9) rfl (fun hg9 => ?_) fun hg9 => ?_)))))))))))))
  · refine zO rfl ?_
    refine zO rfl (zO rfl (zO rfl (wl (y_pickT rfl rfl) rfl (zE (wc_ifT rfl rfl (zQ (zR (zA rfl (zE (zV (z1 rfl ?_)))))))))))
    first
    | exact ⟨rfl, hS.keep⟩
    | (exfalso; omega)
    | (rw [show mayU u = 1 by unfold mayU; rw [if_pos (by omega)]]; exact ⟨rfl, hS.keep⟩)
    | (rw [show mayU u = 1 by unfold mayU; rw [if_neg (by omega), if_pos (by omega)]]; exact ⟨rfl, hS.keep⟩)
    | (rw [show mayU u = 5 by unfold mayU; rw [if_neg (by omega), if_neg (by omega), if_neg (by omega), if_neg (by omega), if_neg (by omega)]]; exact ⟨rfl, hS.keep⟩)
    | (rw [show mayU u = 1 by (unfold mayU; rw [if_neg (by omega), if_neg (by omega)]; (repeat' split) <;> first | rfl | (exfalso; omega) | (exfalso; simp_all; done) | (exfalso; simp_all; omega))]; exact ⟨rfl, hS.keep⟩)
    | (rw [show mayU u = 0 by (unfold mayU; rw [if_neg (by omega), if_neg (by omega)]; (repeat' split) <;> first | rfl | (exfalso; omega) | (exfalso; simp_all; done) | (exfalso; simp_all; omega))]; exact ⟨rfl, hS.keep⟩)
  refine zI rfl ?_
  refine zF fl_59_0 rfl (zI rfl (wl (y_load pl_9 rfl (hS.c (v := .string u.key))) rfl (zI rfl (wl (y_len_s Tryz.underlying9 rfl) rfl (zI rfl (wl (y_gtr rfl rfl) rfl (wl (y_pickF rfl rfl) rfl (zE (zIf rfl (fun hc14 => ?_) fun hc14 => ?_)))))))))
  · refine zQ ?_
    refine zR (zA rfl (zE (zV (z1 rfl ?_))))
    first
    | exact ⟨rfl, hS.keep⟩
    | (exfalso; omega)
    | (rw [show mayU u = 1 by unfold mayU; rw [if_pos (by omega)]]; exact ⟨rfl, hS.keep⟩)
    | (rw [show mayU u = 1 by unfold mayU; rw [if_neg (by omega), if_pos (by omega)]]; exact ⟨rfl, hS.keep⟩)
    | (rw [show mayU u = 5 by unfold mayU; rw [if_neg (by omega), if_neg (by omega), if_neg (by omega), if_neg (by omega), if_neg (by omega)]]; exact ⟨rfl, hS.keep⟩)
    | (rw [show mayU u = 1 by (unfold mayU; rw [if_neg (by omega), if_neg (by omega)]; (repeat' split) <;> first | rfl | (exfalso; omega) | (exfalso; simp_all; done) | (exfalso; simp_all; omega))]; exact ⟨rfl, hS.keep⟩)
    | (rw [show mayU u = 0 by (unfold mayU; rw [if_neg (by omega), if_neg (by omega)]; (repeat' split) <;> first | rfl | (exfalso; omega) | (exfalso; simp_all; done) | (exfalso; simp_all; omega))]; exact ⟨rfl, hS.keep⟩)
  refine zK ?_
  refine zQ (zQ (zR (zF fl_59_1 rfl (wl (y_load pl_3 rfl (hS.c (v := .int .i64 u.kind))) rfl (wl (y_lss rfl rfl) rfl (zM rfl (zWc (s := 18) rfl (fun hg18 => ?_) fun hg18 => ?_)))))))
  · refine zO rfl ?_
    refine zO rfl (zO rfl (wl (y_pickT rfl rfl) rfl (zE (wc_ifT rfl rfl (zQ (zR (zA rfl (zE (zV (z1 rfl ?_))))))))))
    first
    | exact ⟨rfl, hS.keep⟩
    | (exfalso; omega)
    | (rw [show mayU u = 1 by unfold mayU; rw [if_pos (by omega)]]; exact ⟨rfl, hS.keep⟩)
    | (rw [show mayU u = 1 by unfold mayU; rw [if_neg (by omega), if_pos (by omega)]]; exact ⟨rfl, hS.keep⟩)
    | (rw [show mayU u = 5 by unfold mayU; rw [if_neg (by omega), if_neg (by omega), if_neg (by omega), if_neg (by omega), if_neg (by omega)]]; exact ⟨rfl, hS.keep⟩)
    | (rw [show mayU u = 1 by (unfold mayU; rw [if_neg (by omega), if_neg (by omega)]; (repeat' split) <;> first | rfl | (exfalso; omega) | (exfalso; simp_all; done) | (exfalso; simp_all; omega))]; exact ⟨rfl, hS.keep⟩)
    | (rw [show mayU u = 0 by (unfold mayU; rw [if_neg (by omega), if_neg (by omega)]; (repeat' split) <;> first | rfl | (exfalso; omega) | (exfalso; simp_all; done) | (exfalso; simp_all; omega))]; exact ⟨rfl, hS.keep⟩)
  refine zI rfl ?_
  refine zF fl_59_1 rfl (zI rfl (wl (y_load pl_3 rfl (hS.c (v := .int .i64 u.kind))) rfl (zI rfl (wl (y_gtr rfl rfl) rfl (wl (y_pickF rfl rfl) rfl (zE (zIf rfl (fun hc22 => ?_) fun hc22 => ?_)))))))
  · refine zQ ?_
    refine zR (zA rfl (zE (zV (z1 rfl ?_))))
    first
    | exact ⟨rfl, hS.keep⟩
    | (exfalso; omega)
    | (rw [show mayU u = 1 by unfold mayU; rw [if_pos (by omega)]]; exact ⟨rfl, hS.keep⟩)
    | (rw [show mayU u = 1 by unfold mayU; rw [if_neg (by omega), if_pos (by omega)]]; exact ⟨rfl, hS.keep⟩)
    | (rw [show mayU u = 5 by unfold mayU; rw [if_neg (by omega), if_neg (by omega), if_neg (by omega), if_neg (by omega), if_neg (by omega)]]; exact ⟨rfl, hS.keep⟩)
    | (rw [show mayU u = 1 by (unfold mayU; rw [if_neg (by omega), if_neg (by omega)]; (repeat' split) <;> first | rfl | (exfalso; omega) | (exfalso; simp_all; done) | (exfalso; simp_all; omega))]; exact ⟨rfl, hS.keep⟩)
    | (rw [show mayU u = 0 by (unfold mayU; rw [if_neg (by omega), if_neg (by omega)]; (repeat' split) <;> first | rfl | (exfalso; omega) | (exfalso; simp_all; done) | (exfalso; simp_all; omega))]; exact ⟨rfl, hS.keep⟩)
  refine zK ?_
  refine wc_cut (α := Unit) (fun _ => [(1, .pointer (some ⟨b1, 0, none⟩)), (3, .bool (decide (u.kind = 1 ∨ u.kind = 3)))]) (fun _ w => St M w ([(b1, .cells (uv u).cells 59)] :: Ls)) ?_ ?_
  have hbz : ∀ b : Bool, (b = true ↔ u.kind = 1 ∨ u.kind = 3) → some (Value.bool b) = some (Value.bool (decide (u.kind = 1 ∨ u.kind = 3))) := fun b hb => by congr 2; rw [Bool.eq_iff_iff, hb, decide_eq_true_iff]
  · refine zR ?_
    refine zF fl_59_1 rfl (wl (y_load pl_3 rfl (hS.c (v := .int .i64 u.kind))) rfl (wl (y_eql rfl rfl) rfl (zM rfl (zWc (s := 26) rfl (fun hg26 => ?_) fun hg26 => ?_))))
    · refine zO rfl ?_
      refine zO rfl (zO rfl (wl (y_pickT rfl rfl) rfl (zA rfl (zE ?_))))
      first
      | exact ⟨(), sub_cons rfl (sub_cons (hbz _ (by rw [decide_eq_true_iff]; omega)) sub_nil), hS⟩
      | exact ⟨(), sub_cons rfl (sub_cons (hbz true (by simp only [true_iff]; omega)) sub_nil), hS⟩
    refine zI rfl ?_
    refine zF fl_59_1 rfl (zI rfl (wl (y_load pl_3 rfl (hS.c (v := .int .i64 u.kind))) rfl (zI rfl (wl (y_eql rfl rfl) rfl (wl (y_pickF rfl rfl) rfl (zA rfl (zE ?_)))))))
    first
    | exact ⟨(), sub_cons rfl (sub_cons (hbz _ (by rw [decide_eq_true_iff]; omega)) sub_nil), hS⟩
    | exact ⟨(), sub_cons rfl (sub_cons (hbz true (by simp only [true_iff]; omega)) sub_nil), hS⟩
  clear hS
  rintro _ w hS
  refine wc_cut (α := Unit) (fun _ => [(1, .pointer (some ⟨b1, 0, none⟩)), (3, .bool (decide (u.kind = 1 ∨ u.kind = 3))), (4, .bool (decide (u.kind = 2 ∨ u.kind = 4)))]) (fun _ w => St M w ([(b1, .cells (uv u).cells 59)] :: Ls)) ?_ ?_
  have hbz : ∀ b : Bool, (b = true ↔ u.kind = 2 ∨ u.kind = 4) → some (Value.bool b) = some (Value.bool (decide (u.kind = 2 ∨ u.kind = 4))) := fun b hb => by congr 2; rw [Bool.eq_iff_iff, hb, decide_eq_true_iff]
  · refine zR ?_
    refine zF fl_59_1 rfl (wl (y_load pl_3 rfl (hS.c (v := .int .i64 u.kind))) rfl (wl (y_eql rfl rfl) rfl (zM rfl (zWc (s := 34) rfl (fun hg34 => ?_) fun hg34 => ?_))))
    · refine zO rfl ?_
      refine zO rfl (zO rfl (wl (y_pickT rfl rfl) rfl (zA rfl (zE ?_))))
      first
      | exact ⟨(), sub_cons rfl (sub_cons rfl (sub_cons (hbz _ (by rw [decide_eq_true_iff]; omega)) sub_nil)), hS⟩
      | exact ⟨(), sub_cons rfl (sub_cons rfl (sub_cons (hbz true (by simp only [true_iff]; omega)) sub_nil)), hS⟩
    refine zI rfl ?_
    refine zF fl_59_1 rfl (zI rfl (wl (y_load pl_3 rfl (hS.c (v := .int .i64 u.kind))) rfl (zI rfl (wl (y_eql rfl rfl) rfl (wl (y_pickF rfl rfl) rfl (zA rfl (zE ?_)))))))
    first
    | exact ⟨(), sub_cons rfl (sub_cons rfl (sub_cons (hbz _ (by rw [decide_eq_true_iff]; omega)) sub_nil)), hS⟩
    | exact ⟨(), sub_cons rfl (sub_cons rfl (sub_cons (hbz true (by simp only [true_iff]; omega)) sub_nil)), hS⟩
  clear hS
  rintro _ w hS
  refine wc_cut (α := Unit) (fun _ => [(1, .pointer (some ⟨b1, 0, none⟩))]) (fun _ w => (¬ (u.kind = 1 ∨ u.kind = 3) → u.n = 0) ∧ (¬ (u.kind = 2 ∨ u.kind = 4) → u.s = ⟨#[]⟩) ∧ St M w ([(b1, .cells (uv u).cells 59)] :: Ls)) ?_ ?_
  · refine zQ ?_
    refine zR (zM rfl (wl (y_not rfl) rfl (zM rfl (zWc (s := 41) rfl (fun hg41 => ?_) fun hg41 => ?_))))
    · refine zI rfl ?_
      refine zF fl_59_2 rfl (zI rfl (wl (y_load pl_2 rfl (hS.c (v := .int .i64 u.n))) rfl (zI rfl (wl (y_neq rfl rfl) rfl (wl (y_pickT rfl rfl) rfl (zM rfl (zWc (s := 46) rfl (fun hg46 => ?_) fun hg46 => ?_)))))))
      · have hm : mayU u = 13 := by
          unfold mayU
          rw [if_neg (by omega), if_neg (by omega)]
          (repeat' split) <;> first | rfl | (exfalso; omega) | (exfalso; simp_all; done) | (exfalso; simp_all; omega)
        rw [hm]
        refine zO rfl (zO rfl (zO rfl (wl_offU rfl rfl rfl (wl_offU rfl rfl rfl (wl_offU rfl rfl rfl (zO rfl (wl (y_pickT rfl rfl) rfl (zE (wc_ifT rfl rfl (zQ (zR (zA rfl (zE (zV (z1 rfl ?_)))))))))))))))
        first
        | exact ⟨rfl, hS.keep⟩
        | (exfalso; omega)
        | (rw [show mayU u = 1 by unfold mayU; rw [if_pos (by omega)]]; exact ⟨rfl, hS.keep⟩)
        | (rw [show mayU u = 1 by unfold mayU; rw [if_neg (by omega), if_pos (by omega)]]; exact ⟨rfl, hS.keep⟩)
        | (rw [show mayU u = 5 by unfold mayU; rw [if_neg (by omega), if_neg (by omega), if_neg (by omega), if_neg (by omega), if_neg (by omega)]]; exact ⟨rfl, hS.keep⟩)
        | (rw [show mayU u = 1 by (unfold mayU; rw [if_neg (by omega), if_neg (by omega)]; (repeat' split) <;> first | rfl | (exfalso; omega) | (exfalso; simp_all; done) | (exfalso; simp_all; omega))]; exact ⟨rfl, hS.keep⟩)
        | (rw [show mayU u = 0 by (unfold mayU; rw [if_neg (by omega), if_neg (by omega)]; (repeat' split) <;> first | rfl | (exfalso; omega) | (exfalso; simp_all; done) | (exfalso; simp_all; omega))]; exact ⟨rfl, hS.keep⟩)
      refine zI rfl ?_
      refine zM rfl (zI rfl (wl (y_not rfl) rfl (zI rfl (zM rfl (zWc (s := 49) rfl (fun hg49 => ?_) fun hg49 => ?_)))))
      · refine zI rfl ?_
        refine zF fl_59_3 rfl (zI rfl (wl (y_load pl_9 rfl (hS.c (v := .string u.s))) rfl (zI rfl (wl (y_sneq rfl rfl) rfl (zI rfl (wl (y_pickT rfl rfl) rfl (wl (y_pickF rfl rfl) rfl (zE (zIf rfl (fun hc54 => ?_) fun hc54 => ?_)))))))))
        · have hm : mayU u = 13 := by
            unfold mayU
            rw [if_neg (by omega), if_neg (by omega)]
            (repeat' split) <;> first | rfl | (exfalso; omega) | (exfalso; simp_all; done) | (exfalso; simp_all; omega)
          rw [hm]
          refine zQ (zR (zA rfl (zE (zV (z1 rfl ?_)))))
          first
          | exact ⟨rfl, hS.keep⟩
          | (exfalso; omega)
          | (rw [show mayU u = 1 by unfold mayU; rw [if_pos (by omega)]]; exact ⟨rfl, hS.keep⟩)
          | (rw [show mayU u = 1 by unfold mayU; rw [if_neg (by omega), if_pos (by omega)]]; exact ⟨rfl, hS.keep⟩)
          | (rw [show mayU u = 5 by unfold mayU; rw [if_neg (by omega), if_neg (by omega), if_neg (by omega), if_neg (by omega), if_neg (by omega)]]; exact ⟨rfl, hS.keep⟩)
          | (rw [show mayU u = 1 by (unfold mayU; rw [if_neg (by omega), if_neg (by omega)]; (repeat' split) <;> first | rfl | (exfalso; omega) | (exfalso; simp_all; done) | (exfalso; simp_all; omega))]; exact ⟨rfl, hS.keep⟩)
          | (rw [show mayU u = 0 by (unfold mayU; rw [if_neg (by omega), if_neg (by omega)]; (repeat' split) <;> first | rfl | (exfalso; omega) | (exfalso; simp_all; done) | (exfalso; simp_all; omega))]; exact ⟨rfl, hS.keep⟩)
        refine zK ?_
        exact ⟨(), subR rfl, by first | omega | simp_all, by first | assumption | (intro h; first | exact absurd ‹_› h | assumption | omega | simp_all), hS⟩
      refine zO rfl ?_
      refine zO rfl (zO rfl (zI rfl (wl (y_pickF rfl rfl) rfl (wl (y_pickF rfl rfl) rfl (zE (wc_ifF rfl rfl (zK ?_)))))))
      exact ⟨(), subR rfl, by first | omega | simp_all, by first | assumption | (intro h; first | exact absurd ‹_› h | assumption | omega | simp_all), hS⟩
    refine zO rfl ?_
    refine zO rfl (zO rfl (wl (y_pickF rfl rfl) rfl (zM rfl (zI rfl (zM rfl (zI rfl (wl (y_not rfl) rfl (zI rfl (zM rfl (zWc (s := 49) rfl (fun hg49 => ?_) fun hg49 => ?_))))))))))
    · refine zI rfl ?_
      refine zF fl_59_3 rfl (zI rfl (wl (y_load pl_9 rfl (hS.c (v := .string u.s))) rfl (zI rfl (wl (y_sneq rfl rfl) rfl (zI rfl (wl (y_pickT rfl rfl) rfl (wl (y_pickF rfl rfl) rfl (zE (zIf rfl (fun hc54 => ?_) fun hc54 => ?_)))))))))
      · have hm : mayU u = 13 := by
          unfold mayU
          rw [if_neg (by omega), if_neg (by omega)]
          (repeat' split) <;> first | rfl | (exfalso; omega) | (exfalso; simp_all; done) | (exfalso; simp_all; omega)
        rw [hm]
        refine zQ (zR (zA rfl (zE (zV (z1 rfl ?_)))))
        first
        | exact ⟨rfl, hS.keep⟩
        | (exfalso; omega)
        | (rw [show mayU u = 1 by unfold mayU; rw [if_pos (by omega)]]; exact ⟨rfl, hS.keep⟩)
        | (rw [show mayU u = 1 by unfold mayU; rw [if_neg (by omega), if_pos (by omega)]]; exact ⟨rfl, hS.keep⟩)
        | (rw [show mayU u = 5 by unfold mayU; rw [if_neg (by omega), if_neg (by omega), if_neg (by omega), if_neg (by omega), if_neg (by omega)]]; exact ⟨rfl, hS.keep⟩)
        | (rw [show mayU u = 1 by (unfold mayU; rw [if_neg (by omega), if_neg (by omega)]; (repeat' split) <;> first | rfl | (exfalso; omega) | (exfalso; simp_all; done) | (exfalso; simp_all; omega))]; exact ⟨rfl, hS.keep⟩)
        | (rw [show mayU u = 0 by (unfold mayU; rw [if_neg (by omega), if_neg (by omega)]; (repeat' split) <;> first | rfl | (exfalso; omega) | (exfalso; simp_all; done) | (exfalso; simp_all; omega))]; exact ⟨rfl, hS.keep⟩)
      refine zK ?_
      exact ⟨(), subR rfl, by first | omega | simp_all, by first | assumption | (intro h; first | exact absurd ‹_› h | assumption | omega | simp_all), hS⟩
    refine zO rfl ?_
    refine zO rfl (zO rfl (zI rfl (wl (y_pickF rfl rfl) rfl (wl (y_pickF rfl rfl) rfl (zE (wc_ifF rfl rfl (zK ?_)))))))
    exact ⟨(), subR rfl, by first | omega | simp_all, by first | assumption | (intro h; first | exact absurd ‹_› h | assumption | omega | simp_all), hS⟩
  clear hS
  rintro _ w ⟨hn0, hs0, hS⟩
  refine zQ (zQ (zR (zF fl_59_2 rfl (wl (y_load pl_2 rfl (hS.c (v := .int .i64 u.n))) rfl (wl (y_lss rfl rfl) rfl (zM rfl (zWc (s := 58) rfl (fun hg58 => ?_) fun hg58 => ?_)))))))
  · refine zO rfl ?_
    refine zO rfl (zO rfl (wl (y_pickT rfl rfl) rfl (zM rfl (zO rfl (zO rfl (zO rfl (zO rfl (wl (y_pickT rfl rfl) rfl (zE (wc_ifT rfl rfl (zQ (zR (zA rfl (zE (zV (z1 rfl ?_))))))))))))))))
    first
    | exact ⟨rfl, hS.keep⟩
    | (exfalso; omega)
    | (rw [show mayU u = 1 by unfold mayU; rw [if_pos (by omega)]]; exact ⟨rfl, hS.keep⟩)
    | (rw [show mayU u = 1 by unfold mayU; rw [if_neg (by omega), if_pos (by omega)]]; exact ⟨rfl, hS.keep⟩)
    | (rw [show mayU u = 5 by unfold mayU; rw [if_neg (by omega), if_neg (by omega), if_neg (by omega), if_neg (by omega), if_neg (by omega)]]; exact ⟨rfl, hS.keep⟩)
    | (rw [show mayU u = 1 by (unfold mayU; rw [if_neg (by omega), if_neg (by omega)]; (repeat' split) <;> first | rfl | (exfalso; omega) | (exfalso; simp_all; done) | (exfalso; simp_all; omega))]; exact ⟨rfl, hS.keep⟩)
    | (rw [show mayU u = 0 by (unfold mayU; rw [if_neg (by omega), if_neg (by omega)]; (repeat' split) <;> first | rfl | (exfalso; omega) | (exfalso; simp_all; done) | (exfalso; simp_all; omega))]; exact ⟨rfl, hS.keep⟩)
  refine zI rfl ?_
  refine zF fl_59_2 rfl (zI rfl (wl (y_load pl_2 rfl (hS.c (v := .int .i64 u.n))) rfl (zI rfl (wl (y_gtr rfl rfl) rfl (wl (y_pickF rfl rfl) rfl (zM rfl (zWc (s := 63) rfl (fun hg63 => ?_) fun hg63 => ?_)))))))
  · refine zO rfl ?_
    refine zO rfl (zO rfl (zO rfl (wl (y_pickT rfl rfl) rfl (zE (wc_ifT rfl rfl (zQ (zR (zA rfl (zE (zV (z1 rfl ?_)))))))))))
    first
    | exact ⟨rfl, hS.keep⟩
    | (exfalso; omega)
    | (rw [show mayU u = 1 by unfold mayU; rw [if_pos (by omega)]]; exact ⟨rfl, hS.keep⟩)
    | (rw [show mayU u = 1 by unfold mayU; rw [if_neg (by omega), if_pos (by omega)]]; exact ⟨rfl, hS.keep⟩)
    | (rw [show mayU u = 5 by unfold mayU; rw [if_neg (by omega), if_neg (by omega), if_neg (by omega), if_neg (by omega), if_neg (by omega)]]; exact ⟨rfl, hS.keep⟩)
    | (rw [show mayU u = 1 by (unfold mayU; rw [if_neg (by omega), if_neg (by omega)]; (repeat' split) <;> first | rfl | (exfalso; omega) | (exfalso; simp_all; done) | (exfalso; simp_all; omega))]; exact ⟨rfl, hS.keep⟩)
    | (rw [show mayU u = 0 by (unfold mayU; rw [if_neg (by omega), if_neg (by omega)]; (repeat' split) <;> first | rfl | (exfalso; omega) | (exfalso; simp_all; done) | (exfalso; simp_all; omega))]; exact ⟨rfl, hS.keep⟩)
  refine zI rfl ?_
  refine zF fl_59_3 rfl (zI rfl (wl (y_load pl_9 rfl (hS.c (v := .string u.s))) rfl (zI rfl (wl (y_len_s Tryz.underlying9 rfl) rfl (zI rfl (wl (y_gtr rfl rfl) rfl (wl (y_pickF rfl rfl) rfl (zE (zIf rfl (fun hc68 => ?_) fun hc68 => ?_)))))))))
  · refine zQ ?_
    refine zR (zA rfl (zE (zV (z1 rfl ?_))))
    first
    | exact ⟨rfl, hS.keep⟩
    | (exfalso; omega)
    | (rw [show mayU u = 1 by unfold mayU; rw [if_pos (by omega)]]; exact ⟨rfl, hS.keep⟩)
    | (rw [show mayU u = 1 by unfold mayU; rw [if_neg (by omega), if_pos (by omega)]]; exact ⟨rfl, hS.keep⟩)
    | (rw [show mayU u = 5 by unfold mayU; rw [if_neg (by omega), if_neg (by omega), if_neg (by omega), if_neg (by omega), if_neg (by omega)]]; exact ⟨rfl, hS.keep⟩)
    | (rw [show mayU u = 1 by (unfold mayU; rw [if_neg (by omega), if_neg (by omega)]; (repeat' split) <;> first | rfl | (exfalso; omega) | (exfalso; simp_all; done) | (exfalso; simp_all; omega))]; exact ⟨rfl, hS.keep⟩)
    | (rw [show mayU u = 0 by (unfold mayU; rw [if_neg (by omega), if_neg (by omega)]; (repeat' split) <;> first | rfl | (exfalso; omega) | (exfalso; simp_all; done) | (exfalso; simp_all; omega))]; exact ⟨rfl, hS.keep⟩)
  refine zK ?_
  refine zQ (zR (zA rfl (zE (zV (z1 rfl ?_)))))
  first
  | exact ⟨rfl, hS.keep⟩
  | (exfalso; omega)
  | (rw [show mayU u = 1 by unfold mayU; rw [if_pos (by omega)]]; exact ⟨rfl, hS.keep⟩)
  | (rw [show mayU u = 1 by unfold mayU; rw [if_neg (by omega), if_pos (by omega)]]; exact ⟨rfl, hS.keep⟩)
  | (rw [show mayU u = 5 by unfold mayU; rw [if_neg (by omega), if_neg (by omega), if_neg (by omega), if_neg (by omega), if_neg (by omega)]]; exact ⟨rfl, hS.keep⟩)
  | (rw [show mayU u = 1 by (unfold mayU; rw [if_neg (by omega), if_neg (by omega)]; (repeat' split) <;> first | rfl | (exfalso; omega) | (exfalso; simp_all; done) | (exfalso; simp_all; omega))]; exact ⟨rfl, hS.keep⟩)
  | (rw [show mayU u = 0 by (unfold mayU; rw [if_neg (by omega), if_neg (by omega)]; (repeat' split) <;> first | rfl | (exfalso; omega) | (exfalso; simp_all; done) | (exfalso; simp_all; omega))]; exact ⟨rfl, hS.keep⟩)
end
end Go.Proofs.YtndahppmjdbifaaGreatDoor.Rou
set_option linter.unusedVariables false
set_option linter.unusedSimpArgs false
namespace Go.Proofs.YtndahppmjdbifaaGreatDoor.Rou
open Go Go.Proofs Eng Pre Pak Val Fra
theorem zag0 : zag 0 = 0 := by unfold zag; simp
theorem rsig_e {r : Rdr} (h : r.e ≠ 0) : rsig r = (0, r) := by
  unfold rsig; rw [rraw_e h]; simp only [zag0]
theorem ru4_err {r : Rdr} (h : (ru3 r).e ≠ 0) (ho : (ru3 r).ok) : ruR r = ru3 r ∧ ruU r = upd0 := by
  have h4 : (ru4 r).2.2 = ru3 r := by
    unfold ru4
    split
    · simp only [rsig_e h]
    split
    · simp only [rtext_e h ho]
    rfl
  refine ⟨by unfold ruR; exact h4, ?_⟩
  unfold ruU
  rw [h4, if_pos h]
theorem ru3_bad {r : Rdr} (hr : r.ok) (h : (ru2 r).2.e ≠ 0) : ru3 r = (ru2 r).2 := by
  unfold ru3; split
  · exact rfail_e h 1
  rfl
theorem ru3_none {r : Rdr} (h : (ru2 r).2.e = 0) (h0 : (ru2 r).1 = ⟨#[]⟩) : ru3 r = ⟨(ru2 r).2.b, (ru2 r).2.at_, 1⟩ := by
  unfold ru3; rw [if_pos h0, rfail_0 h]
theorem ru3_good {r : Rdr} (h0 : ¬ (ru2 r).1 = ⟨#[]⟩) : ru3 r = (ru2 r).2 := by
  unfold ru3; rw [if_neg h0]
theorem ru1_bad {r : Rdr} (h : (rnum r 5).2.e ≠ 0) : ru1 r = (rnum r 5).2 := by
  unfold ru1; split
  · exact rfail_e h 5
  rfl
theorem ru1_none {r : Rdr} (h : (rnum r 5).2.e = 0) (h0 : (rnum r 5).1 = 0) : ru1 r = ⟨(rnum r 5).2.b, (rnum r 5).2.at_, 5⟩ := by
  unfold ru1; rw [if_pos h0, rfail_0 h]
theorem ru1_good {r : Rdr} (h0 : ¬ (rnum r 5).1 = 0) : ru1 r = (rnum r 5).2 := by
  unfold ru1; rw [if_neg h0]
theorem ru2_err {r : Rdr} (hr : r.ok) (h : (ru1 r).e ≠ 0) : ruR r = ru1 r ∧ ruU r = upd0 := by
  have h2 : ru2 r = (ByteArray.empty, ru1 r) := by unfold ru2; exact rtext_e h (ru1_ok hr) _
  have h3 : ru3 r = ru1 r := by rw [ru3_bad hr (by rw [h2]; exact h), h2]
  have := ru4_err (r := r) (by rw [h3]; exact h) (ru3_ok hr)
  rw [h3] at this
  exact this
section
variable {M : Mem} {w : World} {Ls : List Chunk}
theorem r1zag_c (n : Nat) (hn : n < 18446744073709551616) (hS : St M w Ls) : CallsR Tryz.prog 196 [.int .u64 n].toArray w fun v w' => v = .int .i64 (zag n) ∧ St M w' Ls := by
  refine zC 16 Tryz.func196 rfl (zQ (zR (zA rfl (zE (zQ (zQ (zR (zM rfl (wl (y_geq rfl rfl) rfl (zE (zIf rfl (fun hc4 => ?_) fun hc4 => ?_)))))))))))
  · have hz : zag n = 0 := by unfold zag; rw [if_neg (by omega)]
    rw [hz]
    refine zQ (zR (zA rfl (zE (zV (z1 rfl ?_)))))
    exact ⟨rfl, hS⟩
  refine zK ?_
  refine zQ (zQ (zR (zM rfl (wl (y_rem (r := ((n % 2 : Nat) : Int)) rfl rfl (by decide) (by rw [Int.tmod_eq_emod_of_nonneg (by omega)]; omega)) rfl (wl (y_eql rfl rfl) rfl (zE (zIf rfl (fun hc7 => ?_) fun hc7 => ?_)))))))
  · have hz : zag n = -((n / 2 : Nat) : Int) - 1 := by unfold zag; rw [if_pos (by omega), if_pos (by omega)]
    rw [hz]
    refine zQ (zR (zM rfl (wl (y_quo (r := ((n / 2 : Nat) : Int)) rfl rfl (by decide) (by rw [Int.tdiv_eq_ediv_of_nonneg (by omega), show ((n : Nat) : Int) / 2 = ((n / 2 : Nat) : Int) by omega]; exact natwrap64 _ (by omega))) rfl (wl (y_conv (r := ((n / 2 : Nat) : Int)) Tryz.underlying190 Tryz.underlying2 rfl (w64 (by omega) (by omega))) rfl (wl (y_neg (r := -((n / 2 : Nat) : Int)) rfl (by rw [w64 (by omega) (by omega)]; omega)) rfl (wl (y_sub rfl rfl (w64 (by omega) (by omega))) rfl (zA rfl (zE (zV (z1 rfl ?_))))))))))
    exact ⟨rfl, hS⟩
  have hz : zag n = ((n / 2 : Nat) : Int) := by unfold zag; rw [if_pos (by omega), if_neg (by omega)]
  rw [hz]
  refine zK (zQ (zR (zM rfl (wl (y_quo (r := ((n / 2 : Nat) : Int)) rfl rfl (by decide) (by rw [Int.tdiv_eq_ediv_of_nonneg (by omega), show ((n : Nat) : Int) / 2 = ((n / 2 : Nat) : Int) by omega]; exact natwrap64 _ (by omega))) rfl (wl (y_conv (r := ((n / 2 : Nat) : Int)) Tryz.underlying190 Tryz.underlying2 rfl (w64 (by omega) (by omega))) rfl (zA rfl (zE (zV (z1 rfl ?_)))))))))
  exact ⟨rfl, hS⟩
theorem qsig_c {p : Nat} {r : Rdr} (h : r.ok) (hS : St M w ([(p, rdrQ r)] :: Ls)) :
    CallsR Tryz.prog 181 [.pointer (some ⟨p, 0, none⟩)].toArray w fun v w' => v = .int .i64 (rsig r).1 ∧ St M w' ([(p, rdrQ (rsig r).2)] :: Ls) := by
  have ho := rraw_ok h
  unfold rsig
  simp only
  refine zC 13 Tryz.func181 rfl (zQ (zR (zA rfl (zE (zQ (zR (zM rfl (wl_call (.cons rfl .nil) (qraw_c h hS) rfl ?_))))))))
  rintro _ w ⟨rfl, hS⟩
  refine zA rfl (zE (zQ (zQ (zR (zM rfl (zN rfl (zF fl_120_2 rfl (wl (y_load pl_3 rfl (hS.c (v := .int .i64 (rraw r).2.e))) rfl (wl (y_neq rfl rfl) rfl (zE (zIf rfl (fun hc10 => ?_) fun hc10 => ?_)))))))))))
  · have hv := rraw_v (r := r) (by omega)
    rw [hv, zag0]
    refine zQ (zR (zA rfl (zE (zV (z1 rfl ?_)))))
    exact ⟨rfl, hS⟩
  refine zK ?_
  refine zQ (zR (zM rfl (wl_call (.cons rfl .nil) (r1zag_c (rraw r).1 (by omega) hS) rfl ?_)))
  rintro _ w ⟨rfl, hS⟩
  refine zA rfl (zE (zV (z1 rfl ?_)))
  exact ⟨rfl, hS⟩
theorem q6read_c {p : Nat} {r : Rdr} (h : r.ok) (hS : St M w ([(p, rdrQ r)] :: Ls)) :
    CallsR Tryz.prog 150 [.pointer (some ⟨p, 0, none⟩)].toArray w fun v w' => v = uv (ruU r) ∧ St M w' ([(p, rdrQ (ruR r))] :: Ls) := by
  have o0 := rnum_ok h 5
  have o1 := ru1_ok h
  have o2 : (ru2 r).2.ok := by unfold ru2; exact (rtext_ok o1 16).1
  have o3 := ru3_ok h
  have hd2 : ru2 r = rtext (ru1 r) 16 := by unfold ru2; rfl
  have hd4 : ru4 r = if (rnum r 5).1 = 1 ∨ (rnum r 5).1 = 3 then ((rsig (ru3 r)).1, ByteArray.empty, (rsig (ru3 r)).2) else
    if (rnum r 5).1 = 2 ∨ (rnum r 5).1 = 4 then (0, (rtext (ru3 r) 32).1, (rtext (ru3 r) 32).2) else (0, ByteArray.empty, ru3 r) := by unfold ru4; rfl
  have hdU : ruU r = if (ru4 r).2.2.e ≠ 0 then upd0 else ⟨(ru2 r).1, (rnum r 5).1, (ru4 r).1, (ru4 r).2.1⟩ := by unfold ruU; rfl
  have hdR : ruR r = (ru4 r).2.2 := by unfold ruR; rfl
  refine zC 64 Tryz.func150 rfl (zQ (zR (a_alloc z_59 hS rfl fun b2 w hS => zE (zQ (zR (wl (y_build (is := []) (xs := []) (out := [_, _, _, _]) plc_59 z_59 .nil rfl) rfl (a_alloc z_59 hS rfl fun b3 w hS => zG (vs := [_, _, _, _]) sz_59 rfl hS fun w hS => zE (zQ (zR (zM rfl (wl_call (.cons rfl (.cons rfl .nil)) (qnum_c 5 (by decide) h (hS.pull [(p, rdrQ r)])) rfl ?_)))))))))))
  rintro _ w ⟨rfl, hS⟩
  refine zA rfl (zE (zQ (zQ (zR (zM rfl (zN rfl (zF fl_120_2 rfl (wl (y_load pl_3 rfl (hS.c (v := .int .i64 (rnum r 5).2.e))) rfl (wl (y_neq rfl rfl) rfl (zE (zIf rfl (fun hc14 => ?_) fun hc14 => ?_)))))))))))
  · have hb := ru1_bad (r := r) (by omega)
    obtain ⟨e1, e2⟩ := ru2_err h (by rw [hb]; omega)
    rw [e2, e1, hb]
    refine zQ (zR (wl (y_loadS st_59 sz_59 rfl (hS.cells (vs := [_, _, _, _]) rfl) rfl) rfl (zG (vs := [_, _, _, _]) sz_59 rfl hS fun w hS => zE (zV (wret (vs := [_]) (.cell rfl (loadVar_struct st_59 sz_59 (vs := [_, _, _, _]) rfl (hS.cells rfl)) .nil) ?_)))))
    first
    | exact ⟨rfl, hS.keep⟩
    | (simp only [zL, cells_agg, setCells] at hS
       first
       | exact ⟨rfl, by have h := hS.keep (T := [(p, .cells #[.string (rnum r 5).2.b, .int .i64 (rnum r 5).2.at_, .int .i64 5] 120)] :: Ls); exact h⟩
       | exact ⟨rfl, by have h := hS.keep (T := [(p, .cells #[.string (ru2 r).2.b, .int .i64 (ru2 r).2.at_, .int .i64 1] 120)] :: Ls); exact h⟩)
  refine zK ?_
  refine zQ (zQ (zR (zM rfl (wl (y_eql rfl rfl) rfl (zE (zIf rfl (fun hc17 => ?_) fun hc17 => ?_))))))
  · have hb := ru1_none (r := r) (by omega) (by omega)
    obtain ⟨e1, e2⟩ := ru2_err h (by rw [hb]; simp)
    rw [e2, e1, hb]
    refine zQ (zR (zM rfl (zN rfl (zF fl_120_2 rfl (zS sz_3 rfl hS fun w hS => zE (zQ (zR (wl (y_loadS st_59 sz_59 rfl (hS.cells (vs := [_, _, _, _]) rfl) rfl) rfl (zG (vs := [_, _, _, _]) sz_59 rfl hS fun w hS => zE (zV (wret (vs := [_]) (.cell rfl (loadVar_struct st_59 sz_59 (vs := [_, _, _, _]) rfl (hS.cells rfl)) .nil) ?_)))))))))))
    first
    | exact ⟨rfl, hS.keep⟩
    | (simp only [zL, cells_agg, setCells] at hS
       first
       | exact ⟨rfl, by have h := hS.keep (T := [(p, .cells #[.string (rnum r 5).2.b, .int .i64 (rnum r 5).2.at_, .int .i64 5] 120)] :: Ls); exact h⟩
       | exact ⟨rfl, by have h := hS.keep (T := [(p, .cells #[.string (ru2 r).2.b, .int .i64 (ru2 r).2.at_, .int .i64 1] 120)] :: Ls); exact h⟩)
  have hb := ru1_good (r := r) (by omega)
  rw [← hb] at hS
  refine zK (zQ (zR (zM rfl (wl_call (.cons rfl (.cons rfl .nil)) (qtext_c 16 (by decide) o1 (hS.pull [(p, rdrQ (ru1 r))])) rfl ?_))))
  rintro _ w ⟨rfl, hS⟩
  rw [← hd2] at hS ⊢
  refine zA rfl (zE (zQ (zQ (zR (zM rfl (zN rfl (zF fl_120_2 rfl (wl (y_load pl_3 rfl (hS.c (v := .int .i64 (ru2 r).2.e))) rfl (wl (y_neq rfl rfl) rfl (zE (zIf rfl (fun hc28 => ?_) fun hc28 => ?_)))))))))))
  · have hb3 := ru3_bad h (by omega)
    obtain ⟨e1, e2⟩ := ru4_err (r := r) (by rw [hb3]; omega) o3
    rw [e2, e1, hb3]
    refine zQ (zR (wl (y_loadS st_59 sz_59 rfl (hS.cells (vs := [_, _, _, _]) rfl) rfl) rfl (zG (vs := [_, _, _, _]) sz_59 rfl hS fun w hS => zE (zV (wret (vs := [_]) (.cell rfl (loadVar_struct st_59 sz_59 (vs := [_, _, _, _]) rfl (hS.cells rfl)) .nil) ?_)))))
    first
    | exact ⟨rfl, hS.keep⟩
    | (simp only [zL, cells_agg, setCells] at hS
       first
       | exact ⟨rfl, by have h := hS.keep (T := [(p, .cells #[.string (rnum r 5).2.b, .int .i64 (rnum r 5).2.at_, .int .i64 5] 120)] :: Ls); exact h⟩
       | exact ⟨rfl, by have h := hS.keep (T := [(p, .cells #[.string (ru2 r).2.b, .int .i64 (ru2 r).2.at_, .int .i64 1] 120)] :: Ls); exact h⟩)
  refine zK ?_
  refine zQ (zQ (zR (zM rfl (wl (y_seql rfl rfl) rfl (zE (zIf rfl (fun hc31 => ?_) fun hc31 => ?_))))))
  · have hb3 := ru3_none (r := r) (by omega) hc31
    obtain ⟨e1, e2⟩ := ru4_err (r := r) (by rw [hb3]; simp) o3
    rw [e2, e1, hb3]
    refine zQ (zR (zM rfl (zN rfl (zF fl_120_2 rfl (zS sz_3 rfl hS fun w hS => zE (zQ (zR (wl (y_loadS st_59 sz_59 rfl (hS.cells (vs := [_, _, _, _]) rfl) rfl) rfl (zG (vs := [_, _, _, _]) sz_59 rfl hS fun w hS => zE (zV (wret (vs := [_]) (.cell rfl (loadVar_struct st_59 sz_59 (vs := [_, _, _, _]) rfl (hS.cells rfl)) .nil) ?_)))))))))))
    first
    | exact ⟨rfl, hS.keep⟩
    | (simp only [zL, cells_agg, setCells] at hS
       first
       | exact ⟨rfl, by have h := hS.keep (T := [(p, .cells #[.string (rnum r 5).2.b, .int .i64 (rnum r 5).2.at_, .int .i64 5] 120)] :: Ls); exact h⟩
       | exact ⟨rfl, by have h := hS.keep (T := [(p, .cells #[.string (ru2 r).2.b, .int .i64 (ru2 r).2.at_, .int .i64 1] 120)] :: Ls); exact h⟩)
  have hb3 := ru3_good hc31
  rw [← hb3] at hS
  refine zK (zQ (zR (zM rfl (zM rfl (wl (y_build (is := [0, 1]) (xs := [_, _]) (out := [_, _, _, _]) plc_59 z_59 (.cons rfl (.cons rfl .nil)) rfl) rfl (a_alloc z_59 hS rfl fun b6 w hS => zG (vs := [_, _, _, _]) sz_59 rfl hS fun w hS => zE (wc_cut (α := Int × Rdr) (fun _ => [(0, .pointer (some ⟨p, 0, none⟩)), (2, .pointer (some ⟨b2, 0, none⟩)), (3, .pointer (some ⟨b3, 0, none⟩)), (4, .int .i64 (rnum r 5).1), (6, .pointer (some ⟨b6, 0, none⟩))]) (fun ⟨nn, q⟩ w => (nn, q) = (if (rnum r 5).1 = 1 ∨ (rnum r 5).1 = 3 then rsig (ru3 r) else (0, ru3 r)) ∧ St M w ([(b6, .cells #[.string (ru2 r).1, .int .i64 (rnum r 5).1, .int .i64 nn, .string ByteArray.empty] 59)] :: [(p, rdrQ q)] :: [(b3, .cells #[.string ByteArray.empty, .int .i64 0, .int .i64 0, .string ByteArray.empty] 59)] :: [(b2, .cells #[.string ByteArray.empty, .int .i64 0, .int .i64 0, .string ByteArray.empty] 59)] :: Ls)) ?_ ?_)))))))
  · refine zQ ?_
    refine zR (zM rfl (wl (y_eql rfl rfl) rfl (zM rfl (zWc (s := 41) rfl (fun hg41 => ?_) fun hg41 => ?_))))
    · refine zO rfl ?_
      refine zO rfl (wl (y_pickT rfl rfl) rfl (zE (wc_ifT rfl rfl (zR (zM rfl (wl_call (.cons rfl .nil) (qsig_c o3 (hS.pull [(p, rdrQ (ru3 r))])) rfl ?_))))))
      rintro _ w ⟨rfl, hS⟩
      refine zF fl_59_2 rfl (zS sz_2 rfl hS fun w hS => zE ?_)
      try simp only [zL, cells_agg, setCells] at hS
      first
      | exact ⟨((rsig (ru3 r)).1, (rsig (ru3 r)).2), sub_cons rfl (sub_cons rfl (sub_cons rfl (sub_cons rfl (subR rfl)))), by rw [if_pos (by omega)], hS.keep⟩
      | exact ⟨(0, ru3 r), sub_cons rfl (sub_cons rfl (sub_cons rfl (sub_cons rfl (subR rfl)))), by rw [if_neg (by omega)], hS.keep⟩
    refine zI rfl ?_
    refine zM rfl (zI rfl (wl (y_eql rfl rfl) rfl (wl (y_pickF rfl rfl) rfl (zE (zIf rfl (fun hc44 => ?_) fun hc44 => ?_)))))
    · refine zR ?_
      refine zM rfl (wl_call (.cons rfl .nil) (qsig_c o3 (hS.pull [(p, rdrQ (ru3 r))])) rfl ?_)
      rintro _ w ⟨rfl, hS⟩
      refine zF fl_59_2 rfl (zS sz_2 rfl hS fun w hS => zE ?_)
      try simp only [zL, cells_agg, setCells] at hS
      first
      | exact ⟨((rsig (ru3 r)).1, (rsig (ru3 r)).2), sub_cons rfl (sub_cons rfl (sub_cons rfl (sub_cons rfl (subR rfl)))), by rw [if_pos (by omega)], hS.keep⟩
      | exact ⟨(0, ru3 r), sub_cons rfl (sub_cons rfl (sub_cons rfl (sub_cons rfl (subR rfl)))), by rw [if_neg (by omega)], hS.keep⟩
    refine zK ?_
    try simp only [zL, cells_agg, setCells] at hS
    first
    | exact ⟨((rsig (ru3 r)).1, (rsig (ru3 r)).2), sub_cons rfl (sub_cons rfl (sub_cons rfl (sub_cons rfl (subR rfl)))), by rw [if_pos (by omega)], hS.keep⟩
    | exact ⟨(0, ru3 r), sub_cons rfl (sub_cons rfl (sub_cons rfl (sub_cons rfl (subR rfl)))), by rw [if_neg (by omega)], hS.keep⟩
  clear hS
  rintro ⟨nn, q⟩ w ⟨hq, hS⟩
  refine wc_cut (α := Int × ByteArray × Rdr) (fun _ => [(0, .pointer (some ⟨p, 0, none⟩)), (2, .pointer (some ⟨b2, 0, none⟩)), (3, .pointer (some ⟨b3, 0, none⟩)), (6, .pointer (some ⟨b6, 0, none⟩))]) (fun ⟨nn, ss, q⟩ w => ru4 r = (nn, ss, q) ∧ St M w ([(b6, .cells #[.string (ru2 r).1, .int .i64 (rnum r 5).1, .int .i64 nn, .string ss] 59)] :: [(p, rdrQ q)] :: [(b3, .cells #[.string ByteArray.empty, .int .i64 0, .int .i64 0, .string ByteArray.empty] 59)] :: [(b2, .cells #[.string ByteArray.empty, .int .i64 0, .int .i64 0, .string ByteArray.empty] 59)] :: Ls)) ?_ ?_
  · refine zQ ?_
    refine zR (zM rfl (wl (y_eql rfl rfl) rfl (zM rfl (zWc (s := 50) rfl (fun hg50 => ?_) fun hg50 => ?_))))
    · rw [if_neg (by omega)] at hq
      simp only [Prod.mk.injEq] at hq
      obtain ⟨rfl, rfl⟩ := hq
      refine zO rfl (zO rfl (wl (y_pickT rfl rfl) rfl (zE (wc_ifT rfl rfl (zR (zM rfl (wl_call (.cons rfl (.cons rfl .nil)) (qtext_c 32 (by decide) o3 (hS.pull [(p, rdrQ (ru3 r))])) rfl ?_)))))))
      rintro _ w ⟨rfl, hS⟩
      refine zF fl_59_3 rfl (zS sz_9 rfl hS fun w hS => zE ?_)
      try simp only [zL, cells_agg, setCells] at hS
      first
      | exact ⟨(0, (rtext (ru3 r) 32).1, (rtext (ru3 r) 32).2), sub_cons rfl (sub_cons rfl (sub_cons rfl (subR rfl))), by rw [hd4, if_neg (by omega), if_pos (by omega)], hS.keep⟩
      | exact ⟨(nn, ByteArray.empty, q), sub_cons rfl (sub_cons rfl (sub_cons rfl (subR rfl))), by
          rw [hd4]
          split at hq
          · rename_i hk; rw [if_pos hk, ← hq]
          rename_i hk; rw [if_neg hk, if_neg (by omega)]; simp only [Prod.mk.injEq] at hq; rw [hq.1, hq.2], hS.keep⟩
    refine zI rfl ?_
    refine zM rfl (zI rfl (wl (y_eql rfl rfl) rfl (wl (y_pickF rfl rfl) rfl (zE (zIf rfl (fun hc53 => ?_) fun hc53 => ?_)))))
    · rw [if_neg (by omega)] at hq
      simp only [Prod.mk.injEq] at hq
      obtain ⟨rfl, rfl⟩ := hq
      refine zR (zM rfl (wl_call (.cons rfl (.cons rfl .nil)) (qtext_c 32 (by decide) o3 (hS.pull [(p, rdrQ (ru3 r))])) rfl ?_))
      rintro _ w ⟨rfl, hS⟩
      refine zF fl_59_3 rfl (zS sz_9 rfl hS fun w hS => zE ?_)
      try simp only [zL, cells_agg, setCells] at hS
      first
      | exact ⟨(0, (rtext (ru3 r) 32).1, (rtext (ru3 r) 32).2), sub_cons rfl (sub_cons rfl (sub_cons rfl (subR rfl))), by rw [hd4, if_neg (by omega), if_pos (by omega)], hS.keep⟩
      | exact ⟨(nn, ByteArray.empty, q), sub_cons rfl (sub_cons rfl (sub_cons rfl (subR rfl))), by
          rw [hd4]
          split at hq
          · rename_i hk; rw [if_pos hk, ← hq]
          rename_i hk; rw [if_neg hk, if_neg (by omega)]; simp only [Prod.mk.injEq] at hq; rw [hq.1, hq.2], hS.keep⟩
    refine zK ?_
    try simp only [zL, cells_agg, setCells] at hS
    first
    | exact ⟨(0, (rtext (ru3 r) 32).1, (rtext (ru3 r) 32).2), sub_cons rfl (sub_cons rfl (sub_cons rfl (subR rfl))), by rw [hd4, if_neg (by omega), if_pos (by omega)], hS.keep⟩
    | exact ⟨(nn, ByteArray.empty, q), sub_cons rfl (sub_cons rfl (sub_cons rfl (subR rfl))), by
        rw [hd4]
        split at hq
        · rename_i hk; rw [if_pos hk, ← hq]
        rename_i hk; rw [if_neg hk, if_neg (by omega)]; simp only [Prod.mk.injEq] at hq; rw [hq.1, hq.2], hS.keep⟩
  clear hS
  rintro ⟨nn, ss, q⟩ w ⟨h4, hS⟩
  rw [hdR, hdU, h4]
  simp only
  refine zQ (zQ (zR (zM rfl (zN rfl (zF fl_120_2 rfl (wl (y_load pl_3 rfl (hS.c (v := .int .i64 q.e))) rfl (wl (y_neq rfl rfl) rfl (zE (zIf rfl (fun hc61 => ?_) fun hc61 => ?_)))))))))
  · rw [if_pos (by omega)]
    refine zQ (zR (wl (y_loadS st_59 sz_59 rfl (hS.cells (vs := [_, _, _, _]) rfl) rfl) rfl (zG (vs := [_, _, _, _]) sz_59 rfl hS fun w hS => zE (zV (wret (vs := [_]) (.cell rfl (loadVar_struct st_59 sz_59 (vs := [_, _, _, _]) rfl (hS.cells rfl)) .nil) ?_)))))
    first
    | exact ⟨rfl, hS.keep⟩
    | (simp only [zL, cells_agg, setCells] at hS
       first
       | exact ⟨rfl, by have h := hS.keep (T := [(p, .cells #[.string (rnum r 5).2.b, .int .i64 (rnum r 5).2.at_, .int .i64 5] 120)] :: Ls); exact h⟩
       | exact ⟨rfl, by have h := hS.keep (T := [(p, .cells #[.string (ru2 r).2.b, .int .i64 (ru2 r).2.at_, .int .i64 1] 120)] :: Ls); exact h⟩)
  rw [if_neg (by omega)]
  refine zK (zQ (zR (wl (y_loadS st_59 sz_59 rfl (hS.cells (vs := [_, _, _, _]) rfl) rfl) rfl (zG (vs := [_, _, _, _]) sz_59 rfl hS fun w hS => zE (zV (wret (vs := [_]) (.cell rfl (loadVar_struct st_59 sz_59 (vs := [_, _, _, _]) rfl (hS.cells rfl)) .nil) ?_))))))
  first
  | exact ⟨rfl, hS.keep⟩
  | (simp only [zL, cells_agg, setCells] at hS
     first
     | exact ⟨rfl, by have h := hS.keep (T := [(p, .cells #[.string (rnum r 5).2.b, .int .i64 (rnum r 5).2.at_, .int .i64 5] 120)] :: Ls); exact h⟩
     | exact ⟨rfl, by have h := hS.keep (T := [(p, .cells #[.string (ru2 r).2.b, .int .i64 (ru2 r).2.at_, .int .i64 1] 120)] :: Ls); exact h⟩)
end
end Go.Proofs.YtndahppmjdbifaaGreatDoor.Rou
set_option linter.unusedVariables false
set_option linter.unusedSimpArgs false
namespace Go.Proofs.YtndahppmjdbifaaGreatDoor.Rou
open Go Go.Proofs Eng Pre Pak Val Fra
section
variable {M : Mem} {w : World} {Ls : List Chunk}
theorem r7may_c (r : Rnd) (s : Value) (hs : Rd M encU s r.ups) (hS : St M w Ls) : CallsR Tryz.prog 147 [rvS r s].toArray w fun v w' => v = .int .i64 (mayR r) ∧ St M w' Ls := by
  have hs0 := hs
  obtain ⟨sa, sc, rfl⟩ := (hs.holds hS).slice
  have h1 : ∀ (h : ¬ ((1 ≤ r.o ∧ r.o ≤ 64) ∧ (1 ≤ r.n ∧ r.n ≤ 1099511627776) ∧ 1 ≤ (r.ups.length : Int) ∧ (r.ups.length : Int) ≤ 8)), mayR r = 1 := by
    intro h
    unfold mayR
    split
    · rfl
    split
    · rfl
    rw [if_pos (by omega)]
  refine zC 49 Tryz.func147 rfl (zQ (zR (a_box rfl hS rfl fun b1 w hS => zA rfl (zE (zQ (zR (zF fl_48_2 rfl (wl (y_load pl_46 rfl (hS.c (v := .slice sa r.ups.length sc))) rfl (wl (y_len_sl Tryz.underlying46 rfl) rfl (zA rfl (zE (zQ (zQ (zR (zF fl_48_0 rfl (wl (y_load pl_3 rfl (hS.c (v := .int .i64 r.o))) rfl (wl (y_lss rfl rfl) rfl (zM rfl (zWc (s := 12) rfl (fun hg12 => ?_) fun hg12 => ?_)))))))))))))))))))
  · rw [h1 (by omega)]
    refine zO rfl (zO rfl (zO rfl (wl (y_pickT rfl rfl) rfl (zM rfl (zO rfl (zO rfl (zO rfl (wl (y_pickT rfl rfl) rfl (zM rfl (zO rfl (zO rfl (zO rfl (wl (y_pickT rfl rfl) rfl (zM rfl (zO rfl (zO rfl (wl (y_pickT rfl rfl) rfl (zM rfl (zO rfl (zO rfl (wl (y_pickT rfl rfl) rfl (zE (wc_ifT rfl rfl (zQ (zR (zA rfl (zE (zV (z1 rfl ?_)))))))))))))))))))))))))))))
    exact ⟨rfl, hS.keep⟩
  refine zI rfl ?_
  refine zF fl_48_0 rfl (zI rfl (wl (y_load pl_3 rfl (hS.c (v := .int .i64 r.o))) rfl (zI rfl (wl (y_gtr rfl rfl) rfl (wl (y_pickF rfl rfl) rfl (zM rfl (zWc (s := 17) rfl (fun hg17 => ?_) fun hg17 => ?_)))))))
  · rw [h1 (by omega)]
    refine zO rfl (zO rfl (zO rfl (wl (y_pickT rfl rfl) rfl (zM rfl (zO rfl (zO rfl (zO rfl (wl (y_pickT rfl rfl) rfl (zM rfl (zO rfl (zO rfl (wl (y_pickT rfl rfl) rfl (zM rfl (zO rfl (zO rfl (wl (y_pickT rfl rfl) rfl (zE (wc_ifT rfl rfl (zQ (zR (zA rfl (zE (zV (z1 rfl ?_))))))))))))))))))))))))
    exact ⟨rfl, hS.keep⟩
  refine zI rfl ?_
  refine zF fl_48_1 rfl (zI rfl (wl (y_load pl_3 rfl (hS.c (v := .int .i64 r.n))) rfl (zI rfl (wl (y_lss rfl rfl) rfl (wl (y_pickF rfl rfl) rfl (zM rfl (zWc (s := 22) rfl (fun hg22 => ?_) fun hg22 => ?_)))))))
  · rw [h1 (by omega)]
    refine zO rfl (zO rfl (zO rfl (wl (y_pickT rfl rfl) rfl (zM rfl (zO rfl (zO rfl (wl (y_pickT rfl rfl) rfl (zM rfl (zO rfl (zO rfl (wl (y_pickT rfl rfl) rfl (zE (wc_ifT rfl rfl (zQ (zR (zA rfl (zE (zV (z1 rfl ?_)))))))))))))))))))
    exact ⟨rfl, hS.keep⟩
  refine zI rfl ?_
  refine zF fl_48_1 rfl (zI rfl (wl (y_load pl_3 rfl (hS.c (v := .int .i64 r.n))) rfl (zI rfl (wl (y_gtr rfl rfl) rfl (wl (y_pickF rfl rfl) rfl (zM rfl (zWc (s := 27) rfl (fun hg27 => ?_) fun hg27 => ?_)))))))
  · rw [h1 (by omega)]
    refine zO rfl (zO rfl (wl (y_pickT rfl rfl) rfl (zM rfl (zO rfl (zO rfl (wl (y_pickT rfl rfl) rfl (zE (wc_ifT rfl rfl (zQ (zR (zA rfl (zE (zV (z1 rfl ?_))))))))))))))
    exact ⟨rfl, hS.keep⟩
  refine zI rfl ?_
  refine zM rfl (zI rfl (wl (y_lss rfl rfl) rfl (wl (y_pickF rfl rfl) rfl (zM rfl (zWc (s := 31) rfl (fun hg31 => ?_) fun hg31 => ?_)))))
  · rw [h1 (by omega)]
    refine zO rfl (zO rfl (wl (y_pickT rfl rfl) rfl (zE (wc_ifT rfl rfl (zQ (zR (zA rfl (zE (zV (z1 rfl ?_))))))))))
    exact ⟨rfl, hS.keep⟩
  refine zI rfl ?_
  refine zM rfl (zI rfl (wl (y_gtr rfl rfl) rfl (wl (y_pickF rfl rfl) rfl (zE (zIf rfl (fun hc34 => ?_) fun hc34 => ?_)))))
  · rw [h1 (by omega)]
    refine zQ (zR (zA rfl (zE (zV (z1 rfl ?_)))))
    exact ⟨rfl, hS.keep⟩
  have hm : mayR r = firstBad r.ups := by unfold mayR; rw [if_neg (by omega), if_neg (by omega), if_neg (by omega)]
  rw [hm]
  refine zK (zQ (zQ (zR (zA rfl (zE (zB (wc_loop (α := Nat) (fun i => [(1, .pointer (some ⟨b1, 0, none⟩)), (3, .int .i64 r.ups.length), (4, .int .i64 i)]) (fun i w => i ≤ r.ups.length ∧ firstBad r.ups = firstBad (r.ups.drop i) ∧ St M w ([(b1, .cells (rvS r (.slice sa r.ups.length sc)).cells 48)] :: Ls)) (fun i => r.ups.length - i) 0 (sub_cons rfl (sub_cons rfl (subR rfl))) ⟨by omega, rfl, hS.keep⟩ ?_)))))))
  clear hS
  rintro i w ⟨hi, hfb, hS⟩
  refine zQ (zQ (zR (zM rfl (zM rfl (wl (y_lss rfl rfl) rfl (zE (zIf rfl (fun hc37 => ?_) fun hc37 => ?_)))))))
  · refine zK ?_
    refine zQ (zB (zQ ?_))
    have hi' : i < r.ups.length := by omega
    obtain ⟨u, hu⟩ : ∃ u, r.ups[i]? = some u := ⟨_, List.getElem?_eq_getElem hi'⟩
    have hdr : r.ups.drop i = u :: r.ups.drop (i + 1) := by
      obtain ⟨_, he⟩ := List.getElem?_eq_some_iff.1 hu
      rw [← he, ← List.drop_eq_getElem_cons hi']
    obtain ⟨bb, off, c', hse, hce⟩ := (hs0.holds hS).at hu
    simp only [Value.slice.injEq] at hse
    have hSk := hS
    obtain ⟨rfl, _, rfl⟩ := hse
    replace hS := hSk
    refine zR (zF fl_48_2 rfl (wl (y_load pl_46 rfl (hS.c (v := .slice (some ⟨bb, off, none⟩) r.ups.length sc))) rfl (zM rfl (wl (y_ixa_sl Tryz.underlying46 sz_59 rfl rfl (by omega) (by omega)) rfl (wl ((y_loadS st_59 sz_59 rfl (vs := encU.f u) hce rfl).val (show _ = uv u from rfl)) rfl (wl_call (.cons rfl .nil) (r4may_c u hS) rfl ?_))))))
    rintro _ w ⟨rfl, hS⟩
    refine zA rfl (zE (zQ (zR (zM rfl (wl (y_neq rfl rfl) rfl (zE (zIf rfl (fun hc47 => ?_) fun hc47 => ?_)))))))
    · rw [hfb, hdr]
      simp only [firstBad]
      rw [if_pos (by omega)]
      refine zQ (zR (zM rfl (zA rfl (zE (zV (z1 rfl ?_))))))
      exact ⟨rfl, hS.keep⟩
    rw [hdr] at hfb
    simp only [firstBad] at hfb
    rw [if_neg (by omega)] at hfb
    refine zK (zR (zM rfl (wl (y_add rfl rfl (w64 (by omega) (by omega))) rfl (zA rfl (zE ?_)))))
    exact ⟨i + 1, by omega, sub_cons rfl (sub_cons rfl (subR rfl)), by omega, hfb, hS.keep⟩
  obtain rfl : i = r.ups.length := by omega
  rw [List.drop_length] at hfb
  rw [hfb]
  refine wc_exit (zQ (zR (zA rfl (zE (zV (z1 rfl ?_))))))
  exact ⟨rfl, hS.keep⟩
theorem r7fits_c (l : List Upd) (mtu : Int) (s : Value) (hm : -9223372036854775000 ≤ mtu ∧ mtu ≤ 9223372036854775807) (hs : Rd M encU s l) (hS : St M w Ls) : CallsR Tryz.prog 90 [s, .int .i64 mtu].toArray w fun v w' => v = .bool (fits l mtu) ∧ St M w' Ls := by
  have hs0 := hs
  obtain ⟨sa, sc, rfl⟩ := (hs.holds hS).slice
  have fin : ∀ b : Bool, (b = true ↔ mayR ⟨64, 1099511627776, l⟩ = 0 ∧ (64 ≤ mtu ∧ mtu ≤ 1400) ∧ ((rbytes ⟨64, 1099511627776, l⟩).length : Int) ≤ mtu - 40) → b = fits l mtu := by
    intro b hb
    unfold fits
    rw [Bool.eq_iff_iff, hb, decide_eq_true_iff]
  refine zC 27 Tryz.func90 rfl (zQ (zR (zA rfl (zE (zQ (zR (zM rfl (wl (y_build (is := [0, 1, 2]) (xs := [_, _, _]) (out := [_, _, _]) plc_48 z_48 (.cons rfl (.cons rfl (.cons rfl .nil))) rfl) rfl (a_alloc z_48 hS rfl fun b5 w hS => zG (vs := [_, _, _]) sz_48 rfl hS fun w hS => zE (zQ (zR (zM rfl (wl (y_geq rfl rfl) rfl (zM rfl (zWc (s := 10) rfl (fun hg10 => ?_) fun hg10 => ?_)))))))))))))))
  · refine zI rfl ?_
    refine zM rfl (zI rfl (wl (y_leq rfl rfl) rfl (wl (y_pickT rfl rfl) rfl (zM rfl (zWc (s := 14) rfl (fun hg14 => ?_) fun hg14 => ?_)))))
    · refine zI rfl ?_
      refine wl ((y_loadS st_48 sz_48 rfl (vs := [.int .i64 64, .int .i64 1099511627776, .slice sa l.length sc]) (hS.cells rfl) rfl).val (show _ = rvS ⟨64, 1099511627776, l⟩ (.slice sa l.length sc) from rfl)) rfl (zI rfl (wl_call (.cons rfl .nil) (r7may_c ⟨64, 1099511627776, l⟩ _ hs0 hS) rfl ?_))
      rintro _ w ⟨rfl, hS⟩
      refine zI rfl (wl (y_eql rfl rfl) rfl (wl (y_pickT rfl rfl) rfl (zM rfl (zWc (s := 19) rfl (fun hg19 => ?_) fun hg19 => ?_))))
      · refine zI rfl ?_
        refine wl ((y_loadS st_48 sz_48 rfl (vs := [.int .i64 64, .int .i64 1099511627776, .slice sa l.length sc]) (hS.cells rfl) rfl).val (show _ = rvS ⟨64, 1099511627776, l⟩ (.slice sa l.length sc) from rfl)) rfl (zI rfl (wl_call (.cons rfl .nil) (r7bytes_c ⟨64, 1099511627776, l⟩ _ hs0 (by omega) hS) rfl ?_))
        rintro _ w ⟨rfl, hS⟩
        have hbl := str_len (rbytes ⟨64, 1099511627776, l⟩)
        have hrl := rbytes_length (r := ⟨64, 1099511627776, l⟩) (by omega)
        refine zI rfl (wl (y_len_s Tryz.underlying9 rfl) rfl (zI rfl (zM rfl (zI rfl (wl (y_sub rfl rfl (w64 (by omega) (by omega))) rfl (zI rfl (wl (y_leq rfl rfl) rfl (wl (y_pickT rfl rfl) rfl (zA rfl (zE (zV (z1 rfl ?_))))))))))))
        first
        | exact ⟨congrArg Value.bool (fin _ (by rw [decide_eq_true_iff]; omega)), hS.keep⟩
        | exact ⟨congrArg Value.bool (fin _ (by simp only [Bool.false_eq_true, false_iff]; omega)), hS.keep⟩
      refine zO rfl ?_
      refine zO rfl (zO rfl (zO rfl (zO rfl (zO rfl (wl (y_pickF rfl rfl) rfl (zA rfl (zE (zV (z1 rfl ?_)))))))))
      first
      | exact ⟨congrArg Value.bool (fin _ (by rw [decide_eq_true_iff]; omega)), hS.keep⟩
      | exact ⟨congrArg Value.bool (fin _ (by simp only [Bool.false_eq_true, false_iff]; omega)), hS.keep⟩
    refine zO rfl ?_
    refine zO rfl (zO rfl (wl (y_pickF rfl rfl) rfl (zM rfl (zO rfl (zO rfl (zO rfl (zO rfl (zO rfl (zO rfl (wl (y_pickF rfl rfl) rfl (zA rfl (zE (zV (z1 rfl ?_))))))))))))))
    first
    | exact ⟨congrArg Value.bool (fin _ (by rw [decide_eq_true_iff]; omega)), hS.keep⟩
    | exact ⟨congrArg Value.bool (fin _ (by simp only [Bool.false_eq_true, false_iff]; omega)), hS.keep⟩
  refine zO rfl ?_
  refine zO rfl (wl (y_pickF rfl rfl) rfl (zM rfl (zO rfl (zO rfl (zO rfl (wl (y_pickF rfl rfl) rfl (zM rfl (zO rfl (zO rfl (zO rfl (zO rfl (zO rfl (zO rfl (wl (y_pickF rfl rfl) rfl (zA rfl (zE (zV (z1 rfl ?_))))))))))))))))))
  first
  | exact ⟨congrArg Value.bool (fin _ (by rw [decide_eq_true_iff]; omega)), hS.keep⟩
  | exact ⟨congrArg Value.bool (fin _ (by simp only [Bool.false_eq_true, false_iff]; omega)), hS.keep⟩
end
end Go.Proofs.YtndahppmjdbifaaGreatDoor.Rou
set_option linter.unusedVariables false
set_option linter.unusedSimpArgs false
namespace Go.Proofs.YtndahppmjdbifaaGreatDoor.Rou
open Go Go.Proofs Eng Pre Pak Val Fra
section
variable {α : Type} {P : Program} {n : Nat} {E : Env} {w w' : World} {T : TypeId} {v : Value} {M : Mem} {Ls Ls' : List Chunk} {pos : String} {af : Array Edge} {d : Nat} {l : List Oper} {ops : Array Oper} {KE : Env → World → Prop}
theorem a_bslice0 {U e : TypeId} {m : Nat} {z : Value} {vs : List Value} {ps : List (Nat × Operand)} (A : Enc α) (xs : List α) (hU : P.underlying U = some (.slice e)) (hk : Size P e A.k) (hz : Zero P e z) (hzk : z.cells.size = A.k)
    (hv : Evs E (ps.map (·.2)) vs) (hi : ps.map (·.1) = List.range m) (hm : xs.length = m) (hc : vs.map (fun v => v.cells.toList) = xs.map A.f) (hbig : m * A.k ≤ 16777216) (hS : St M w Ls) (hd : Nat.blt d n = true)
    (h : ∀ b w', St M w' ([(b, .cells (xs.flatMap A.f).toArray e)] :: Ls) → WL P n ops KE l ((d, .slice (some ⟨b, 0, none⟩) m m) :: E) w') : WL P n ops KE (⟨some d, .buildSlice U m ps.toArray, T, pos, af, none⟩ :: l) E w := by
  subst hm
  exact wl (x_bslice hU hk hz hzk hv hi rfl (map_hc hc) hbig) hd (h _ _ (hS.new _))
end
def encI : Enc Int := ⟨1, fun n => [.int .i64 n], fun _ => rfl, by simp [oneC]⟩
theorem rsome_e {r : Rdr} (h : r.e ≠ 0) (lim : Nat) : rsome r lim = (0, r) := by
  unfold rsome; rw [rnum_e h]; simp [rfail_e h]
theorem rsome_v {r : Rdr} {lim : Nat} (h : (rsome r lim).2.e ≠ 0) : (rsome r lim).1 = 0 := by
  unfold rsome at h ⊢
  simp only at h ⊢
  split at h
  · assumption
  exact rnum_v h
theorem ruR_e {r : Rdr} (hr : r.ok) (h : r.e ≠ 0) : ruR r = r := by
  have h1 : ru1 r = r := by rw [ru1_bad (by rw [rnum_e h]; exact h), rnum_e h]
  have := ru2_err (r := r) hr (by rw [h1]; exact h)
  rw [h1] at this
  exact this.1
theorem rups_e {r : Rdr} (hr : r.ok) (h : r.e ≠ 0) : ∀ k, (rups r k).2 = r
  | 0 => rfl
  | k + 1 => by simp only [rups]; rw [rups_e hr h k, ruR_e hr h]
theorem rups_add (r : Rdr) (j : Nat) : ∀ k, (rups r (j + k)).2 = (rups (rups r j).2 k).2
  | 0 => rfl
  | k + 1 => by
    show ruR (rups r (j + k)).2 = ruR (rups (rups r j).2 k).2
    rw [rups_add r j k]
def hrd (b : ByteArray) : Nat → Rdr
  | 0 => ⟨b, 0, 0⟩
  | 1 => (gr1 b).2
  | 2 => (gr2 b).2
  | _ => (gr3 b).2
def hvl (b : ByteArray) : Nat → Nat
  | 0 => (gr1 b).1
  | 1 => (gr2 b).1
  | _ => (gr3 b).1
def hvs (b : ByteArray) : Nat → List Value
  | 0 => [.int .i64 64, .int .i64 1099511627776, .int .i64 8]
  | 1 => [.int .i64 (gr1 b).1, .int .i64 1099511627776, .int .i64 8]
  | 2 => [.int .i64 (gr1 b).1, .int .i64 (gr2 b).1, .int .i64 8]
  | _ => [.int .i64 (gr1 b).1, .int .i64 (gr2 b).1, .int .i64 (gr3 b).1]
theorem head_step (b : ByteArray) {i : Nat} (hi : i < 3) : ∃ lim : Nat, (hvs b i)[i]? = some (.int .i64 lim) ∧ lim ≤ 1152921504606846976 ∧ rsome (hrd b i) lim = (hvl b i, hrd b (i + 1)) ∧ (hvs b i).set i (.int .i64 (hvl b i)) = hvs b (i + 1) := by
  rcases i with _ | _ | _ | i
  · exact ⟨64, rfl, by decide, by show rsome ⟨b, 0, 0⟩ 64 = ((gr1 b).1, (gr1 b).2); unfold gr1; rfl, rfl⟩
  · exact ⟨1099511627776, rfl, by decide, by show rsome (gr1 b).2 1099511627776 = ((gr2 b).1, (gr2 b).2); unfold gr2; rfl, rfl⟩
  · exact ⟨8, rfl, by decide, by show rsome (gr2 b).2 8 = ((gr3 b).1, (gr3 b).2); unfold gr3; rfl, rfl⟩
  omega
theorem hvs_length (b : ByteArray) (i : Nat) : (hvs b i).length = 3 := by
  rcases i with _ | _ | _ | i <;> rfl
theorem hrd_ok {b : ByteArray} (hb : b.size ≤ 140737488351232) (i : Nat) : (hrd b i).ok := by
  obtain ⟨h1, h2, h3, _, _⟩ := gr_ok b hb
  rcases i with _ | _ | _ | i
  · exact ⟨Nat.zero_le _, hb⟩
  · exact h1
  · exact h2
  exact h3
theorem gre_head {b : ByteArray} (hb : b.size ≤ 140737488351232) {i : Nat} (hi : i ≤ 3) (h : (hrd b i).e ≠ 0) : gre b = (hrd b i).e := by
  obtain ⟨h1, h2, h3, _, h4⟩ := gr_ok b hb
  have key : (gr3 b).2.e ≠ 0 → gre b = (gr3 b).2.e := by
    intro h
    have hv : (gr3 b).1 = 0 := by unfold gr3 at h ⊢; exact rsome_v h
    have hg4 : (gr4 b).2 = (gr3 b).2 := by unfold gr4; rw [hv] <;> rfl
    unfold gre
    rw [hg4, rend_e h]
  have key2 : (gr2 b).2.e ≠ 0 → gre b = (gr2 b).2.e := by
    intro h
    have e3 : gr3 b = (0, (gr2 b).2) := by unfold gr3; exact rsome_e h 8
    rw [key (by rw [e3]; exact h), e3]
  rcases i with _ | _ | _ | _ | i
  · exact absurd rfl h
  · have e2 : gr2 b = (0, (gr1 b).2) := by unfold gr2; exact rsome_e h _
    rw [key2 (by rw [e2]; exact h), e2] <;> rfl
  · exact key2 h
  · exact key h
  omega
theorem gre_ups {b : ByteArray} (hb : b.size ≤ 140737488351232) {j : Nat} (hj : j ≤ (gr3 b).1) (h : (rups (gr3 b).2 j).2.e ≠ 0) : gre b = (rups (gr3 b).2 j).2.e := by
  obtain ⟨h1, h2, h3, _, h4⟩ := gr_ok b hb
  have ho := (rups_ok h3 j).1
  have e : (gr4 b).2 = (rups (gr3 b).2 j).2 := by
    unfold gr4
    obtain ⟨k, hk⟩ : ∃ k, (gr3 b).1 = j + k := ⟨(gr3 b).1 - j, by omega⟩
    rw [hk, rups_add, rups_e ho h]
  unfold gre
  rw [e, rend_e h]
section
variable {M : Mem} {w : World} {Ls : List Chunk}
theorem q7get_c (b : ByteArray) (hb : b.size ≤ 140737488351232) (hS : St M w Ls) :
    CallsR Tryz.prog 94 [.string b].toArray w fun v w' => ∃ M' s', v = .tuple [rvS (grr b) s', .int .i64 (gre b)].toArray ∧ Mle M M' ∧ Rd M' encU s' (grr b).ups ∧ St M' w' Ls := by
  obtain ⟨g1, g2, g3, g8, g4⟩ := gr_ok b hb
  have hgrr : grr b = if gre b = 0 then ⟨(gr1 b).1, (gr2 b).1, (gr4 b).1⟩ else ⟨0, 0, []⟩ := by unfold grr; rfl
  have hbad : gre b ≠ 0 → grr b = ⟨0, 0, []⟩ := fun h => by rw [hgrr, if_neg h]
  refine zC 94 Tryz.func94 rfl (zQ (zR (a_alloc z_48 hS rfl fun b2 w hS => zA rfl (zE (zQ (zR (wl (y_build (is := []) (xs := []) (out := [_, _, _]) plc_48 z_48 .nil rfl) rfl (a_alloc z_48 hS rfl fun b4 w hS => zG (vs := [_, _, _]) sz_48 rfl hS fun w hS => zE (zQ (zR (zM rfl (wl (y_build (is := [0]) (xs := [_]) (out := [_, _, _]) plc_120 z_120 (.cons rfl .nil) rfl) rfl (a_box rfl hS rfl fun b15 w hS => zA rfl (zE (zQ (zR (a_bslice0 encI [64, 1099511627776, 8] Tryz.underlying203 sz_3 z_3 rfl (.cons rfl (.cons rfl (.cons rfl .nil))) rfl rfl rfl (by decide) hS rfl fun b6 w hS => zA rfl (zE (zQ (zQ (zR (zA rfl (zE (zB (wc_loop (α := Nat) (fun i => [(2, .pointer (some ⟨b2, 0, none⟩)), (4, .pointer (some ⟨b4, 0, none⟩)), (5, .pointer (some ⟨b15, 0, none⟩)), (6, .slice (some ⟨b6, 0, none⟩) 3 3), (7, .int .i64 i)]) (fun i w => i ≤ 3 ∧ (hrd b i).e = 0 ∧ St M w ([(b6, .cells (hvs b i).toArray 3)] :: [(b15, rdrQ (hrd b i))] :: [(b4, .cells #[.int .i64 0, .int .i64 0, .slice none 0 0] 48)] :: [(b2, .cells #[.int .i64 0, .int .i64 0, .slice none 0 0] 48)] :: Ls)) (fun i => 3 - i) 0 (sub_cons rfl (sub_cons rfl (sub_cons rfl (sub_cons rfl (subR rfl))))) ⟨by omega, rfl, hS⟩ ?_)))))))))))))))))))))))))
  clear hS
  rintro i w ⟨hi, he0, hS⟩
  refine zQ (zQ (zR (zM rfl (wl (y_lss rfl rfl) rfl (zE (zIf rfl (fun hc18 => ?_) fun hc18 => ?_))))))
  · refine zK ?_
    refine zQ (zB (zQ ?_))
    obtain ⟨lim, l1, l2, l3, l4⟩ := head_step b (i := i) (by omega)
    have hlen := hvs_length b i
    have hok := hrd_ok hb i
    have hx1 : (rnum (hrd b i) lim).1 = hvl b i := by have := congrArg Prod.fst l3; unfold rsome at this; exact this
    have hx2 : (if (rnum (hrd b i) lim).1 = 0 then rfail (rnum (hrd b i) lim).2 1 else (rnum (hrd b i) lim).2) = hrd b (i + 1) := by have := congrArg Prod.snd l3; unfold rsome at this; exact this
    have hget : (hvs b (i + 1))[i]? = some (.int .i64 (hvl b i)) := by rw [← l4, List.getElem?_set_self (by omega)]
    have hset : (hvs b i).toArray.setIfInBounds (0 + ((i : Nat) : Int).toNat * 1) (.int .i64 (hvl b i)) = (hvs b (i + 1)).toArray := by
      rw [show 0 + ((i : Nat) : Int).toNat * 1 = i by omega, List.setIfInBounds_toArray, l4]
    refine zR (zM rfl (zM rfl (zM rfl (zM rfl (zM rfl (wl (y_ixa_sl Tryz.underlying203 sz_3 rfl rfl (by omega) (by omega)) rfl (wl (y_load pl_3 rfl (hS.cell (v := .int .i64 lim) (by rw [show 0 + ((i : Nat) : Int).toNat * 1 = i by omega]; simpa using l1))) rfl (wl_call (.cons rfl (.cons rfl .nil)) (qnum_c lim l2 hok (hS.pull [(b15, rdrQ (hrd b i))])) rfl ?_))))))))
    rintro _ w ⟨rfl, hS⟩
    rw [hx1]
    refine wl (y_ixa_sl Tryz.underlying203 sz_3 rfl rfl (by omega) (by omega)) rfl (a_store sz_3 rfl rfl rfl hS (by simp [hlen]; omega) fun w hS => ?_)
    rw [hset] at hS
    refine zE (wc_cut (α := Unit) (fun _ => [(2, .pointer (some ⟨b2, 0, none⟩)), (4, .pointer (some ⟨b4, 0, none⟩)), (5, .pointer (some ⟨b15, 0, none⟩)), (6, .slice (some ⟨b6, 0, none⟩) 3 3), (7, .int .i64 i)]) (fun _ w => St M w ([(b6, .cells (hvs b (i + 1)).toArray 3)] :: [(b15, rdrQ (hrd b (i + 1)))] :: [(b4, .cells #[.int .i64 0, .int .i64 0, .slice none 0 0] 48)] :: [(b2, .cells #[.int .i64 0, .int .i64 0, .slice none 0 0] 48)] :: Ls)) ?_ ?_)
    · refine zQ ?_
      refine zR (zM rfl (zN rfl (zF fl_120_2 rfl (wl (y_load pl_3 rfl (hS.c (v := .int .i64 (rnum (hrd b i) lim).2.e))) rfl (wl (y_eql rfl rfl) rfl (zM rfl (zWc (s := 35) rfl (fun hg35 => ?_) fun hg35 => ?_)))))))
      · refine zI rfl ?_
        refine zM rfl (zI rfl (zM rfl (zI rfl (wl (y_ixa_sl Tryz.underlying203 sz_3 rfl rfl (by omega) (by omega)) rfl (zI rfl (wl (y_load pl_3 rfl (hS.cell (v := .int .i64 (hvl b i)) (by rw [show 0 + ((i : Nat) : Int).toNat * 1 = i by omega]; simpa using hget))) rfl (zI rfl (wl (y_eql rfl rfl) rfl (wl (y_pickT rfl rfl) rfl (zE (zIf rfl (fun hc41 => ?_) fun hc41 => ?_)))))))))))
        · rw [if_pos (by omega), rfail_0 (by omega)] at hx2
          refine zR (zM rfl (zN rfl (zF fl_120_2 rfl (zS sz_3 rfl hS fun w hS => zE ?_))))
          first
          | exact ⟨(), sub_cons rfl (sub_cons rfl (sub_cons rfl (sub_cons rfl (subR rfl)))), hS.keep⟩
          | (rw [← hx2]
             exact ⟨(), sub_cons rfl (sub_cons rfl (sub_cons rfl (sub_cons rfl (subR rfl)))), by
               have h := hS.keep (T := [(b6, .cells (hvs b (i + 1)).toArray 3)] :: [(b15, (Obj.cells (#[Value.string (rnum (hrd b i) lim).2.b, .int .i64 (rnum (hrd b i) lim).2.at_, .int .i64 (rnum (hrd b i) lim).2.e].setIfInBounds (0 + 2) (.int .i64 1)) 120))] :: [(b4, .cells #[.int .i64 0, .int .i64 0, .slice none 0 0] 48)] :: [(b2, .cells #[.int .i64 0, .int .i64 0, .slice none 0 0] 48)] :: Ls)
               exact h⟩)
        rw [if_neg (by omega)] at hx2
        rw [hx2] at hS
        refine zK ?_
        first
        | exact ⟨(), sub_cons rfl (sub_cons rfl (sub_cons rfl (sub_cons rfl (subR rfl)))), hS.keep⟩
        | (rw [← hx2]
           exact ⟨(), sub_cons rfl (sub_cons rfl (sub_cons rfl (sub_cons rfl (subR rfl)))), by
             have h := hS.keep (T := [(b6, .cells (hvs b (i + 1)).toArray 3)] :: [(b15, (Obj.cells (#[Value.string (rnum (hrd b i) lim).2.b, .int .i64 (rnum (hrd b i) lim).2.at_, .int .i64 (rnum (hrd b i) lim).2.e].setIfInBounds (0 + 2) (.int .i64 1)) 120))] :: [(b4, .cells #[.int .i64 0, .int .i64 0, .slice none 0 0] 48)] :: [(b2, .cells #[.int .i64 0, .int .i64 0, .slice none 0 0] 48)] :: Ls)
             exact h⟩)
      rw [show (rnum (hrd b i) lim).2 = hrd b (i + 1) by rw [← hx2]; split <;> first | rw [rfail_e (by omega)] | rfl] at hS
      refine zO rfl (zO rfl (zO rfl (zO rfl (zO rfl (wl (y_pickF rfl rfl) rfl (zE (wc_ifF rfl rfl (zK ?_))))))))
      first
      | exact ⟨(), sub_cons rfl (sub_cons rfl (sub_cons rfl (sub_cons rfl (subR rfl)))), hS.keep⟩
      | (rw [← hx2]
         exact ⟨(), sub_cons rfl (sub_cons rfl (sub_cons rfl (sub_cons rfl (subR rfl)))), by
           have h := hS.keep (T := [(b6, .cells (hvs b (i + 1)).toArray 3)] :: [(b15, (Obj.cells (#[Value.string (rnum (hrd b i) lim).2.b, .int .i64 (rnum (hrd b i) lim).2.at_, .int .i64 (rnum (hrd b i) lim).2.e].setIfInBounds (0 + 2) (.int .i64 1)) 120))] :: [(b4, .cells #[.int .i64 0, .int .i64 0, .slice none 0 0] 48)] :: [(b2, .cells #[.int .i64 0, .int .i64 0, .slice none 0 0] 48)] :: Ls)
           exact h⟩)
    clear hS
    rintro _ w hS
    refine zQ (zR (zM rfl (zN rfl (zF fl_120_2 rfl (wl (y_load pl_3 rfl (hS.c (v := .int .i64 (hrd b (i + 1)).e))) rfl (wl (y_neq rfl rfl) rfl (zE (zIf rfl (fun hc49 => ?_) fun hc49 => ?_))))))))
    · have hge := gre_head hb (i := i + 1) (by omega) (by omega)
      rw [hbad (by omega), hge]
      refine zQ (zW hS (fun w => CellsAt w b4 0 [.int .i64 0, .int .i64 0, .slice none 0 0] ∧ w.cell? ⟨b15, 2, none⟩ = some (.int .i64 (hrd b (i + 1)).e)) [6] wide_ rfl fun w hS => zPm 1 2 rfl (zPn 2 6 rfl (zPf 3 14 fl_120_2 rfl (zD 0 15 rfl ⟨hS.cells rfl, hS.c⟩ (fun w hS => y_loadS st_48 sz_48 rfl hS.1 rfl) (zD 4 31 rfl ⟨hS.cells rfl, hS.c⟩ (fun w hS => y_load pl_3 rfl hS.2) (zU 5 63 rfl (zG (vs := [_, _, _]) sz_48 rfl hS fun w hS => zE ⟨fun _ _ => ⟨hS.cells rfl, hS.c⟩, zPa 6 127 rfl (zH (zV (wret (vs := [_, _]) (.cell rfl (loadVar_struct st_48 sz_48 (vs := [_, _, _]) rfl (hS.cells rfl)) (.tmp rfl .nil)) ?_)))⟩)))))))
      first
      | exact ⟨M', _, rfl, hM, hrd, hS.keep⟩
      | exact ⟨M, _, rfl, Mle.refl _, Rd.nil, hS.keep⟩
    refine zK ?_
    refine zR (zM rfl (wl (y_add rfl rfl (w64 (by omega) (by omega))) rfl (zA rfl (zE ?_))))
    exact ⟨i + 1, by omega, sub_cons rfl (sub_cons rfl (sub_cons rfl (sub_cons rfl (subR rfl)))), by omega, by omega, hS⟩
  obtain rfl : i = 3 := by omega
  replace he0 : (gr3 b).2.e = 0 := he0
  refine wc_exit (zQ (zW hS (fun w => w.cell? ⟨b6, 0, none⟩ = some (.int .i64 (gr1 b).1) ∧ w.cell? ⟨b6, 1, none⟩ = some (.int .i64 (gr2 b).1)) [8] wide_ rfl fun w hS => zPm 0 1 rfl (zP 1 3 rfl (fun w => y_ixa_sl Tryz.underlying203 sz_3 rfl rfl (by omega) (by omega)) (zPm 3 11 rfl (zP 4 27 rfl (fun w => y_ixa_sl Tryz.underlying203 sz_3 rfl rfl (by omega) (by omega)) (zD 2 31 rfl ⟨hS.c, hS.c⟩ (fun w hS => y_load pl_3 rfl hS.1) (zD 5 63 rfl ⟨hS.c, hS.c⟩ (fun w hS => y_load pl_3 rfl hS.2) (zP 6 127 rfl (fun w => y_build (is := [0, 1]) (xs := [_, _]) (out := [_, _, _]) plc_48 z_48 (.cons rfl (.cons rfl .nil)) rfl) (zU 7 255 rfl (a_alloc z_48 hS rfl fun b8 w hS => zE ⟨fun _ _ => ⟨hS.c, hS.c⟩, zU 8 511 rfl (zG (vs := [_, _, _]) sz_48 rfl hS fun w hS => zE ⟨fun _ _ => ⟨hS.c, hS.c⟩, zH (zQ (zQ (zR (zA rfl (zE (zB (wc_loop (α := Nat × Value × Chunk) (fun ⟨j, _, _⟩ => [(2, .pointer (some ⟨b2, 0, none⟩)), (4, .pointer (some ⟨b4, 0, none⟩)), (5, .pointer (some ⟨b15, 0, none⟩)), (6, .slice (some ⟨b6, 0, none⟩) 3 3), (8, .pointer (some ⟨b8, 0, none⟩)), (9, .int .i64 j)]) (fun ⟨j, s, Ho⟩ w => j ≤ (gr3 b).1 ∧ (rups (gr3 b).2 j).2.e = 0 ∧ Own 59 encU s (rups (gr3 b).2 j).1 Ho ∧ St M w (Ho :: [(b8, .cells #[.int .i64 (gr1 b).1, .int .i64 (gr2 b).1, s] 48)] :: [(b6, .cells (hvs b 3).toArray 3)] :: [(b15, rdrQ (rups (gr3 b).2 j).2)] :: [(b4, .cells #[.int .i64 0, .int .i64 0, .slice none 0 0] 48)] :: [(b2, .cells #[.int .i64 0, .int .i64 0, .slice none 0 0] 48)] :: Ls)) (fun ⟨j, _, _⟩ => (gr3 b).1 - j) (0, .slice none 0 0, []) (sub_cons rfl (sub_cons rfl (sub_cons rfl (sub_cons rfl (sub_cons rfl (subR rfl)))))) ⟨by omega, he0, .nil, St.nil hS⟩ ?_)))))))⟩)⟩))))))))))
  clear hS
  rintro ⟨j, s, Ho⟩ w ⟨hj, hej, ho, hS⟩
  obtain ⟨sa, sc, rfl⟩ := ho.slice
  have hro := rups_ok g3 j
  have hro1 := rups_ok g3 (j + 1)
  refine zQ (zQ (zR (zM rfl (zM rfl (wl (y_ixa_sl Tryz.underlying203 sz_3 rfl rfl (by omega) (by omega)) rfl (wl (y_load pl_3 rfl (hS.c (v := .int .i64 (gr3 b).1))) rfl (wl (y_lss rfl rfl) rfl (zE (zIf rfl (fun hc66 => ?_) fun hc66 => ?_)))))))))
  · refine zK ?_
    refine zQ (zB (zQ (zR (zM rfl (wl_call (.cons rfl .nil) (q6read_c hro.1 (hS.pull [(b15, rdrQ (rups (gr3 b).2 j).2)])) rfl ?_)))))
    rintro _ w ⟨rfl, hS⟩
    rw [show ruR (rups (gr3 b).2 j).2 = (rups (gr3 b).2 (j + 1)).2 from rfl] at hS
    refine a_alloc z_59 hS rfl fun b10 w hS => zG (vs := [_, _, _, _]) sz_59 rfl hS fun w hS => zE (zQ (zQ (zR (zM rfl (zN rfl (zF fl_120_2 rfl (wl (y_load pl_3 rfl (hS.c (v := .int .i64 (rups (gr3 b).2 (j + 1)).2.e))) rfl (wl (y_neq rfl rfl) rfl (zE (zIf rfl (fun hc75 => ?_) fun hc75 => ?_))))))))))
    · have hge := gre_ups hb (j := j + 1) (by omega) (by omega)
      rw [hbad (by omega), hge]
      refine zQ (zW hS (fun w => CellsAt w b4 0 [.int .i64 0, .int .i64 0, .slice none 0 0] ∧ w.cell? ⟨b15, 2, none⟩ = some (.int .i64 (rups (gr3 b).2 (j + 1)).2.e)) [6] wide_ rfl fun w hS => zPm 1 2 rfl (zPn 2 6 rfl (zPf 3 14 fl_120_2 rfl (zD 0 15 rfl ⟨hS.cells rfl, hS.c⟩ (fun w hS => y_loadS st_48 sz_48 rfl hS.1 rfl) (zD 4 31 rfl ⟨hS.cells rfl, hS.c⟩ (fun w hS => y_load pl_3 rfl hS.2) (zU 5 63 rfl (zG (vs := [_, _, _]) sz_48 rfl hS fun w hS => zE ⟨fun _ _ => ⟨hS.cells rfl, hS.c⟩, zPa 6 127 rfl (zH (zV (wret (vs := [_, _]) (.cell rfl (loadVar_struct st_48 sz_48 (vs := [_, _, _]) rfl (hS.cells rfl)) (.tmp rfl .nil)) ?_)))⟩)))))))
      first
      | exact ⟨M', _, rfl, hM, hrd, hS.keep⟩
      | exact ⟨M, _, rfl, Mle.refl _, Rd.nil, hS.keep⟩
    refine zK ?_
    refine zR (zF fl_48_2 rfl (wl (y_load pl_46 rfl (hS.c (v := .slice sa (rups (gr3 b).2 j).1.length sc))) rfl (wl ((y_loadS st_59 sz_59 rfl (vs := encU.f (ruU (rups (gr3 b).2 j).2)) (hS.cells rfl) rfl).val (show _ = uv (ruU (rups (gr3 b).2 j).2) from rfl)) rfl (a_bslice encU [ruU (rups (gr3 b).2 j).2] Tryz.underlying46 sz_59 z_59 rfl (.cons rfl .nil) rfl rfl rfl (by decide) hS rfl fun u1 Hu w hou hS => a_append Tryz.underlying46 Tryz.underlying46 sz_59 z_59 rfl by_59 (by decide) rfl rfl ho (hou.holds hS) hS (by rw [hro.2]; simp; omega) rfl fun s2 H2 w ho2 hS => ?_))))
    obtain ⟨sa2, sc2, rfl⟩ := ho2.slice
    refine zF fl_48_2 rfl (zS sz_46 rfl hS fun w hS => zE (zR (zM rfl (wl (y_add rfl rfl (w64 (by omega) (by omega))) rfl (zA rfl (zE ?_))))))
    simp only [zL, cells_agg, setCells] at hS
    exact ⟨(j + 1, _, H2), by simp only; omega, sub_cons rfl (sub_cons rfl (sub_cons rfl (sub_cons rfl (sub_cons rfl (subR rfl))))), by omega, by omega, ho2, hS.keep⟩
  obtain hje : j = (gr3 b).1 := by omega
  have hg4 : gr4 b = rups (gr3 b).2 j := by unfold gr4; rw [hje]
  have hge : gre b = (rend (rups (gr3 b).2 j).2).e := by unfold gre; rw [hg4]
  refine wc_exit (zQ (zQ (zR (zM rfl (wl_call (.cons rfl .nil) (qend_c hro.1 (hS.pull [(b15, rdrQ (rups (gr3 b).2 j).2)])) rfl ?_)))))
  rintro _ w ⟨rfl, hS⟩
  rw [← hge]
  refine zA rfl (zE (zQ (zR (zM rfl (wl (y_neq rfl rfl) rfl (zE (zIf rfl (fun hc90 => ?_) fun hc90 => ?_)))))))
  · rw [hbad (by omega)]
    refine zQ (zR (wl (y_loadS st_48 sz_48 rfl (hS.cells (vs := [_, _, _]) rfl) rfl) rfl (zM rfl (zG (vs := [_, _, _]) sz_48 rfl hS fun w hS => zA rfl (zE (zV (wret (vs := [_, _]) (.cell rfl (loadVar_struct st_48 sz_48 (vs := [_, _, _]) rfl (hS.cells rfl)) (.tmp rfl .nil)) ?_)))))))
    first
    | exact ⟨M', _, rfl, hM, hrd, hS.keep⟩
    | exact ⟨M, _, rfl, Mle.refl _, Rd.nil, hS.keep⟩
  have hz : gre b = 0 := by omega
  have hgr : grr b = ⟨(gr1 b).1, (gr2 b).1, (rups (gr3 b).2 j).1⟩ := by rw [hgrr, if_pos hz, hg4]
  rw [hz, hgr]
  obtain ⟨M', hM, hH, hS⟩ := (hS.pull Ho).freeze
  have hrd := ho.rd hH
  refine zK (zQ (zR (wl (y_loadS st_48 sz_48 rfl (hS.cells (vs := [_, _, _]) rfl) rfl) rfl (zG (vs := [_, _, _]) sz_48 rfl hS fun w hS => zA rfl (zE (zV (wret (vs := [_, _]) (.cell rfl (loadVar_struct st_48 sz_48 (vs := [_, _, _]) rfl (hS.cells rfl)) (.tmp rfl .nil)) ?_)))))))
  first
  | exact ⟨M', _, rfl, hM, hrd, hS.keep⟩
  | exact ⟨M, _, rfl, Mle.refl _, Rd.nil, hS.keep⟩
end
end Go.Proofs.YtndahppmjdbifaaGreatDoor.Rou
set_option linter.unusedVariables false
set_option linter.unusedSimpArgs false
namespace Go.Proofs.YtndahppmjdbifaaGreatDoor.Eng
open Go Go.RowKit
def mem0 (w : World) : Mem := ⟨fun b => w.heap[b]?, w.os, w.output, w.tape⟩
theorem st0 (w : World) : St (mem0 w) w [] := ⟨fun b o h => h, by simp, by simp, by simp, rfl, rfl, rfl⟩
theorem below_of {M : Mem} {w w' : World} {Ls : List Chunk} (h : St M w' Ls) (hm : Mle (mem0 w) M) : Below w.heap.size w w' := by
  have hk : ∀ k, k < w.heap.size → w'.heap[k]? = w.heap[k]? := by
    intro k hk
    have h1 : w.heap[k]? = some w.heap[k] := by simp [hk]
    rw [h1]
    exact h.imm k _ (hm.1 k _ h1)
  refine ⟨h.io.1.trans hm.2.1, h.io.2.2.trans hm.2.2.2, h.io.2.1.trans hm.2.2.1, ?_, hk⟩
  rcases Nat.lt_or_ge 0 w.heap.size with h0 | h0
  · have := hk (w.heap.size - 1) (by omega)
    rcases Nat.lt_or_ge (w.heap.size - 1) w'.heap.size with h1 | h1
    · omega
    rw [Array.getElem?_eq_none h1] at this
    have h2 : w.heap[w.heap.size - 1]? = some (w.heap[w.heap.size - 1]'(by omega)) := by simp [h0]
    rw [h2] at this; cases this
  omega
theorem trodAll_below {H : Type} {enc : TypeId × Value → H} {P : Program} (hl : laidOutB P = true) {W W' : World} (hb : Below W.heap.size W W') :
    ∀ {ts : List TypeId} {vs : List Value} {ds : List (DataW H)} {ps : List MemPlace}, ts.all (fun t => P.readableRec t && decide (t < P.types.size)) = true → (∀ x ∈ ps, x.block < W.heap.size) →
    DataW.TrodAll enc P W 0 (fun _ => true) true ts vs ds ps → DataW.TrodAll enc P W' 0 (fun b => decide (b < W.heap.size)) true ts vs ds ps
  | [], vs, ds, ps, _, _, h => by
    obtain ⟨rfl, rfl, rfl⟩ := ChangeShapes.trodAll_nil h
    exact ChangeShapes.trodAll_mk0
  | t :: ts, vs, ds, ps, ht, hlt, h => by
    obtain ⟨v, vs', d, ds', p, q, rfl, rfl, rfl, h1, h2⟩ := ChangeShapes.trodAll_cons h
    simp only [List.all_cons, Bool.and_eq_true, decide_eq_true_eq] at ht
    exact Go.trodAll_cons_mk (Below.trod hl ht.1.1 ht.1.2 h1 hb fun x hx => hlt x (List.mem_append_left _ hx)) (trodAll_below hl hb ht.2 (fun x hx => hlt x (List.mem_append_right _ hx)) h2)
theorem law_post {H : Type} {enc : TypeId × Value → H} {P : Program} {f : Func} {s : ChangeSpec} {W W' : World} {args : Array Value} {ds gs : List (DataW H)} {before : List MemPlace} {tb : TypeId}
    (hl : laidOutB P = true) (hp : f.params.toList.all (fun t => P.readableRec t && decide (t < P.types.size)) = true) (hv : varsRowed P s.vars = true) (hr : f.resultTypes = #[tb]) (hb : P.underlying tb = some .bool)
    (hW : DataW.Whole enc P f.params.toList s.vars false W args.toList ds gs before) (hspec : s.fn H (ds ++ gs) = { results := [.lit (.bool true)], args := ds, vars := gs }) (hB : Below W.heap.size W W') :
    s.post enc P f false true false false W args (.bool true) W' := by
  have hlt := hW.lt
  obtain ⟨p, q, hA, hV, rfl, hfz, hnd⟩ := hW
  refine ⟨ds, gs, p ++ q, [], p, q, ⟨p, q, hA, hV, rfl, hfz, hnd⟩, ?_, ?_, ?_, hB.frame _, fun h => by cases h⟩
  · rw [hspec, hr]
    exact Go.trodAll_cons_mk (shut_bool hb true) ChangeShapes.trodAll_mk0
  · rw [hspec]
    exact trodAll_below hl hB hp (fun x hx => hlt x (List.mem_append_left _ hx)) hA
  rw [hspec]
  exact Below.trodVars hl hB hv hV
end Go.Proofs.YtndahppmjdbifaaGreatDoor.Eng
set_option linter.unusedVariables false
set_option linter.unusedSimpArgs false
namespace Go.Proofs.YtndahppmjdbifaaGreatDoor.Eng
open Go Go.RowKit Go.WideShapes
inductive Lf
  | int (k : IntKind)
  | str
  | boo
def LfOk : Lf → Value → Prop
  | .int k, v => ∃ n, v = .int k n ∧ (Lit.int k n).wf = true
  | .str, v => ∃ s : ByteArray, v = .string s ∧ s.size ≤ maxLen
  | .boo, v => ∃ b, v = .bool b
inductive Lvs (P : Program) : List (TypeId × Nat) → List (Nat × Lf) → Prop
  | nil : Lvs P [] []
  | int {t o : Nat} {k : IntKind} {rest : List (TypeId × Nat)} {ls : List (Nat × Lf)} : P.underlying t = some (.int k) → Lvs P rest ls → Lvs P ((t, o) :: rest) ((o, .int k) :: ls)
  | str {t o : Nat} {rest : List (TypeId × Nat)} {ls : List (Nat × Lf)} : P.underlying t = some .string → Lvs P rest ls → Lvs P ((t, o) :: rest) ((o, .str) :: ls)
  | boo {t o : Nat} {rest : List (TypeId × Nat)} {ls : List (Nat × Lf)} : P.underlying t = some .bool → Lvs P rest ls → Lvs P ((t, o) :: rest) ((o, .boo) :: ls)
  | st {t o : Nat} {fs : List Field} {rest : List (TypeId × Nat)} {ls : List (Nat × Lf)} : P.underlying t = some (.struct fs.toArray) → fs.all (fun f => Nat.ble (f.offset + P.cellsOf f.type) (P.cellsOf t)) = true → Lvs P (fs.map (fun f => (f.type, o + f.offset)) ++ rest) ls → Lvs P ((t, o) :: rest) ls
theorem cut_one {cs : List Value} {o c : Nat} {v : Value} (h : (cs.drop o).take c = [v]) : cs[o]? = some v := by
  have h1 : ((cs.drop o).take c)[0]? = some v := by rw [h] <;> rfl
  rw [List.getElem?_take] at h1
  split at h1
  · simpa using h1
  cases h1
section
variable {H : Type} {enc : TypeId × Value → H} {P : Program} {w : World} {base : Nat} {spare : Nat → Bool} {held : Bool}
theorem Lvs.of {L : List (TypeId × Nat)} {ls : List (Nat × Lf)} (hl : Lvs P L ls) {cs : List Value} (h : ∀ p ∈ L, ∃ fuel x, DataW.trod enc P w base spare held fuel p.1 ((cs.drop p.2).take (P.cellsOf p.1)) = some x) : ∀ q ∈ ls, ∃ v, cs[q.1]? = some v ∧ LfOk q.2 v := by
  induction hl with
  | nil => intro q hq; cases hq
  | int ht _ ih =>
    intro q hq
    rcases List.mem_cons.1 hq with rfl | hq
    · obtain ⟨fuel, x, hx⟩ := h _ List.mem_cons_self
      obtain ⟨n, h1, _, h3⟩ := DataW.trod_int ht hx
      exact ⟨_, cut_one h1, n, rfl, h3⟩
    exact ih (fun p hp => h p (List.mem_cons_of_mem _ hp)) q hq
  | str ht _ ih =>
    intro q hq
    rcases List.mem_cons.1 hq with rfl | hq
    · obtain ⟨fuel, x, hx⟩ := h _ List.mem_cons_self
      obtain ⟨s, h1, _, h3⟩ := DataW.trod_string ht hx
      exact ⟨_, cut_one h1, s, rfl, h3⟩
    exact ih (fun p hp => h p (List.mem_cons_of_mem _ hp)) q hq
  | boo ht _ ih =>
    intro q hq
    rcases List.mem_cons.1 hq with rfl | hq
    · obtain ⟨fuel, x, hx⟩ := h _ List.mem_cons_self
      obtain ⟨b, h1, _⟩ := DataW.trod_bool ht hx
      exact ⟨_, cut_one h1, b, rfl⟩
    exact ih (fun p hp => h p (List.mem_cons_of_mem _ hp)) q hq
  | @st t o fs rest ls ht hf _ ih =>
    refine ih fun p hp => ?_
    rcases List.mem_append.1 hp with hp | hp
    · obtain ⟨fuel, x, hx⟩ := h _ List.mem_cons_self
      obtain ⟨xs, n, _, _, _, hlen, hall⟩ := DataW.trod_struct ht hx
      obtain ⟨f, hfm, rfl⟩ := List.mem_map.1 hp
      obtain ⟨i, hi⟩ := List.getElem?_of_mem hfm
      have hle : f.offset + P.cellsOf f.type ≤ P.cellsOf t := Nat.le_of_ble_eq_true (List.all_eq_true.1 hf f hfm)
      have h1 := hall i f (by simpa using hi)
      have hil : i < xs.length := by rw [hlen]; simpa using (List.getElem?_eq_some_iff.1 hi).1
      rw [List.getElem?_eq_getElem hil] at h1
      refine ⟨n, xs[i], ?_⟩
      rw [← h1]
      congr 1
      simp only []
      rw [List.drop_take, List.take_take, List.drop_drop, Nat.min_eq_left (by omega)]
    exact h p (List.mem_cons_of_mem _ hp)
theorem open_st {r : Reach} {b0 t : Nat} {fs : Array Field} {v : Value} {d : DataW H} {p : List MemPlace} {ls : List (Nat × Lf)} (ht : P.underlying t = some (.struct fs)) (hL : Lvs P [(t, 0)] ls) (hv : Value.okWide P w r b0 t v) (h : DataW.Trod enc P w base spare held t v d p) :
    ∃ cs : List Value, v = .agg cs.toArray ∧ cs.length = P.cellsOf t ∧ ∀ q ∈ ls, ∃ u, cs[q.1]? = some u ∧ LfOk q.2 u := by
  obtain ⟨cs, rfl, hsz⟩ := okWide_struct ht hv
  obtain ⟨fuel, hf⟩ := h
  have hf' : DataW.trod enc P w base spare held fuel t cs.toList = some (d, p) := hf
  refine ⟨cs.toList, by simp, by simpa using hsz, hL.of (enc := enc) (w := w) (base := base) (spare := spare) (held := held) ?_⟩
  intro q hq
  simp only [List.mem_singleton] at hq
  subst hq
  refine ⟨fuel, (d, p), ?_⟩
  simp only [List.drop_zero]
  rw [List.take_of_length_le (by simpa using Nat.le_of_eq hsz)]
  exact hf'
theorem spot_none {a : Addr} {v : Value} (h : w.cell? a = some v) : a = ⟨a.block, a.off, none⟩ ∧ ∃ cs e fz, w.heap[a.block]? = some (.cells cs e fz) ∧ cs[a.off]? = some v := by
  unfold World.cell? at h
  split at h
  · rename_i cs e fz hh
    split at h
    · cases h
    rename_i hs
    refine ⟨?_, cs, e, fz, hh, h⟩
    cases a; simp at hs; simp [hs]
  cases h
theorem Enc.flat_inv {α : Type} {A : Enc α} : ∀ {xs : List α} {j : Nat} {v : Value}, (xs.flatMap A.f)[j]? = some v → ∃ i x r, xs[i]? = some x ∧ (A.f x)[r]? = some v ∧ j = i * A.k + r
  | [], j, v, h => by simp at h
  | x :: xs, j, v, h => by
    simp only [List.flatMap_cons] at h
    by_cases hj : j < (A.f x).length
    · rw [List.getElem?_append_left hj] at h
      exact ⟨0, x, j, rfl, h, by simp⟩
    rw [List.getElem?_append_right (by omega)] at h
    obtain ⟨i, y, r, h1, h2, h3⟩ := Enc.flat_inv h
    refine ⟨i + 1, y, r, by simpa using h1, h2, ?_⟩
    rw [A.len] at h3 hj
    rw [Nat.add_mul, Nat.one_mul]
    omega
theorem open_sl' {α : Type} (A : Enc α) {t e fuel : Nat} {v : Value} {x : DataW H × List MemPlace} {ls : List (Nat × Lf)} (ht : P.underlying t = some (.slice e)) (hk : P.cellsOf e = A.k) (hk0 : 0 < A.k) (hL : Lvs P [(e, 0)] ls)
    (hA : ∀ cs : List Value, cs.length = A.k → (∀ q ∈ ls, ∃ u, cs[q.1]? = some u ∧ LfOk q.2 u) → ∃ x, A.f x = cs)
    (h : DataW.trod enc P w base (fun _ => true) held fuel t [v] = some x) :
    ∃ xs : List α, Rd (mem0 w) A v xs ∧ xs.length ≤ maxLen := by
  obtain ⟨a, len, cap, hvs⟩ := Joins.slice_form ht h
  simp only [List.cons.injEq, and_true] at hvs
  subst hvs
  have hf' := h
  rcases Deep.open_slice ht hf' with ⟨hcs, _⟩ | ⟨a', len', cap', m, n, D, Pl, hcs, hb, hlc, hcm, hm, _, hel⟩
  · simp only [List.cons.injEq, Value.slice.injEq, and_true] at hcs
    obtain ⟨rfl, rfl, rfl⟩ := hcs
    exact ⟨[], ⟨_, _, rfl, .inl rfl⟩, Nat.zero_le _⟩
  simp only [List.cons.injEq, Value.slice.injEq, and_true] at hcs
  obtain ⟨rfl, rfl, rfl⟩ := hcs
  simp only [if_true] at hm
  subst hm
  have one : ∀ i, i < len → ∃ x, w.cells? base (a'.add (i * A.k)) A.k = some (A.f x) := by
    intro i hi
    obtain ⟨cs', h1, h2⟩ := hel i (by omega)
    rw [hk] at h1
    obtain ⟨_, hlen, _⟩ := World.cells?_some h1
    obtain ⟨x, rfl⟩ := hA cs' hlen (hL.of (enc := enc) (w := w) (base := base) (spare := fun _ => true) (held := held) fun q hq => by
      simp only [List.mem_singleton] at hq
      subst hq
      refine ⟨n, (D i, Pl i), ?_⟩
      simp only [List.drop_zero]
      rw [List.take_of_length_le (by rw [hk]; exact Nat.le_of_eq hlen)]
      exact h2)
    exact ⟨x, h1⟩
  have build : ∀ n, n ≤ len → ∃ xs : List α, xs.length = n ∧ ∀ i x, xs[i]? = some x → w.cells? base (a'.add (i * A.k)) A.k = some (A.f x) := by
    intro n
    induction n with
    | zero => exact fun _ => ⟨[], rfl, fun i x hx => by simp at hx⟩
    | succ n ih =>
      intro hn
      obtain ⟨xs, h1, h2⟩ := ih (by omega)
      obtain ⟨x, hx⟩ := one n (by omega)
      refine ⟨xs ++ [x], by simp [h1], fun i y hy => ?_⟩
      rcases Nat.lt_or_ge i n with hi | hi
      · rw [List.getElem?_append_left (by omega)] at hy; exact h2 i y hy
      rw [List.getElem?_append_right (by omega)] at hy
      have : i - xs.length = 0 := by
        rcases Nat.eq_zero_or_pos (i - xs.length) with h | h
        · exact h
        rw [List.getElem?_eq_none (by simp; omega)] at hy; cases hy
      rw [this] at hy
      simp only [List.getElem?_cons_zero, Option.some.injEq] at hy
      subst hy
      rw [show i = n by omega]; exact hx
  obtain ⟨xs, hxl, hx⟩ := build len (Nat.le_refl _)
  refine ⟨xs, ⟨some a', _, by rw [hxl], ?_⟩, by omega⟩
  cases xs with
  | nil => exact .inl rfl
  | cons x0 xs0 =>
    right
    have h0 := hx 0 x0 rfl
    rw [Nat.zero_mul] at h0
    obtain ⟨_, _, hc0⟩ := World.cells?_some h0
    have hv0 : ∃ v0, (A.f x0)[0]? = some v0 := ⟨_, List.getElem?_eq_getElem (by rw [A.len]; exact hk0)⟩
    obtain ⟨v0, hv0⟩ := hv0
    have hcell := (hc0 0 hk0).trans hv0
    have hadd0 : (a'.add 0).add 0 = a' := by simp [Addr.add]
    rw [hadd0] at hcell
    obtain ⟨hsp, cs, e', fz, hh, _⟩ := spot_none hcell
    refine ⟨a'.block, a'.off, cs, e', fz, by rw [← hsp], hh, fun j v hj => ?_⟩
    obtain ⟨i, x, r, h1, h2, rfl⟩ := Enc.flat_inv hj
    have hi := hx i x h1
    obtain ⟨_, _, hci⟩ := World.cells?_some hi
    have hr : r < A.k := by rw [← A.len x]; exact (List.getElem?_eq_some_iff.1 h2).1
    have hc := (hci r hr).trans h2
    rw [hsp, Addr.add_mk, Addr.add_mk] at hc
    unfold World.cell? at hc
    rw [hh] at hc
    simp only [Option.isSome_none, Bool.false_eq_true, if_false] at hc
    rw [← hc]
    congr 1
    omega
theorem open_sl {α : Type} (A : Enc α) {r : Reach} {b0 t e : Nat} {v : Value} {d : DataW H} {p : List MemPlace} {ls : List (Nat × Lf)} (ht : P.underlying t = some (.slice e)) (hk : P.cellsOf e = A.k) (hk0 : 0 < A.k) (hL : Lvs P [(e, 0)] ls)
    (hA : ∀ cs : List Value, cs.length = A.k → (∀ q ∈ ls, ∃ u, cs[q.1]? = some u ∧ LfOk q.2 u) → ∃ x, A.f x = cs)
    (hv : Value.okWide P w r b0 t v) (h : DataW.Trod enc P w base (fun _ => true) held t v d p) :
    ∃ xs : List α, Rd (mem0 w) A v xs ∧ xs.length ≤ maxLen := by
  obtain ⟨a, len, cap, rfl⟩ := okWide_slice ht hv
  obtain ⟨fuel, hf⟩ := h
  exact open_sl' A ht hk hk0 hL hA (show DataW.trod enc P w base (fun _ => true) held fuel t [.slice a len cap] = some (d, p) from hf)
end
end Go.Proofs.YtndahppmjdbifaaGreatDoor.Eng
set_option linter.unusedVariables false
set_option linter.unusedSimpArgs false
set_option maxRecDepth 100000
namespace Go.Proofs.YtndahppmjdbifaaGreatDoor.Nod
open Go Go.Proofs Go.RowKit Eng Pre Val
def laidBits : List (String × DataW Unit) := [("chapbook/prefix.bits", Rows.laid_chapbook_prefix_bits)]
theorem gBits : Tryz.prog.globalNamed "chapbook/prefix.bits" = some 0 := by kernel_rfl
theorem tBits : (Tryz.prog.globals[0]?).map (·.type) = some 263 := by kernel_rfl
theorem cellsBits : Tryz.prog.cellsOf 263 = 4 := by kernel_rfl
theorem cellsU64 : Tryz.prog.cellsOf 252 = 1 := by kernel_rfl
theorem bits_of {W : World} (h : laidMetH Tryz.prog laidBits W) : Bits (mem0 W) := by
  rw [MakeChecks.laidMetH_plain _ _ _ (by kernel_rfl)] at h
  obtain ⟨ps, ⟨g0, t0, cs0, f0, p0, q0, hg0, ht0, hv0, hd0, _, _⟩, _, _⟩ := h
  obtain rfl := Option.some.inj (gBits.symm.trans hg0)
  obtain rfl := Option.some.inj (tBits.symm.trans ht0)
  obtain ⟨xs, m1, rfl, hx1, hlen, hn, hel⟩ := DataW.trod_array Tryz.underlying263 hd0
  rw [cellsBits] at hlen
  have hcells : ∃ T fz, W.heap[0]? = some (.cells cs0 T fz) := by
    simp only [World.var?, hg0, Option.bind_some] at hv0
    split at hv0
    · rename_i c e fz hh; cases hv0; exact ⟨e, fz, hh⟩
    cases hv0
  obtain ⟨T, fz, hh⟩ := hcells
  refine ⟨T, fz, ?_⟩
  have hone : ∀ i, i < 4 → ∃ n x, cs0.toList[i]? = some (.int .u64 n) ∧ xs[i]? = some x ∧ x.1 = .lit (.int .u64 n) := by
    intro i hi
    have h1 := hel i hi
    rw [List.getElem?_eq_getElem (by omega)] at h1
    obtain ⟨n, e1, e2, _⟩ := DataW.trod_int Tryz.underlying252 h1
    rw [cellsU64, Nat.mul_one] at e1
    exact ⟨n, _, cut_one e1, List.getElem?_eq_getElem (by omega), by rw [e2]⟩
  simp only [Prod.mk.injEq, Rows.laid_chapbook_prefix_bits, DataW.agg.injEq] at hx1
  obtain ⟨n0, x0, a0, b0, c0⟩ := hone 0 (by decide)
  obtain ⟨n1, x1, a1, b1, c1⟩ := hone 1 (by decide)
  obtain ⟨n2, x2, a2, b2, c2⟩ := hone 2 (by decide)
  obtain ⟨n3, x3, a3, b3, c3⟩ := hone 3 (by decide)
  have hm := hx1.1
  have k0 := congrArg (fun l => l[0]?) hm
  have k1 := congrArg (fun l => l[1]?) hm
  have k2 := congrArg (fun l => l[2]?) hm
  have k3 := congrArg (fun l => l[3]?) hm
  simp only [List.getElem?_map, b0, b1, b2, b3, Option.map_some, c0, c1, c2, c3, List.getElem?_cons_zero, List.getElem?_cons_succ, Option.some.injEq, DataW.lit.injEq, Lit.int.injEq, true_and] at k0 k1 k2 k3
  subst k0 k1 k2 k3
  show W.heap[0]? = _
  rw [hh]
  congr 2
  obtain ⟨l⟩ := cs0
  simp only at hlen a0 a1 a2 a3
  match l, hlen with
  | [y0, y1, y2, y3], _ =>
    simp only [List.getElem?_cons_zero, List.getElem?_cons_succ, Option.some.injEq] at a0 a1 a2 a3
    subst a0 a1 a2 a3
    rfl
theorem bits_met (os : Os) (args : Array Value) : laidMetH Tryz.prog laidBits ((World.doorLaid Tryz.prog 400 os).forCall (fun _ _ => 0) ⟨#[], args, []⟩).memory :=
  laidMetH_of_parts3 (fuel := 8) (laidMet_of_run' 8 (by kernel_rfl) (by kernel_rfl)) (by kernel_rfl) (by kernel_rfl)
section
variable {H : Type} {enc : TypeId × Value → H} {w : World} {base : Nat} {held : Bool}
theorem lvs_cfg : Lvs Tryz.prog [(23, 0)] [(0, .int .i64), (1, .int .i64), (2, .int .i64), (3, .int .i64), (4, .int .i64), (5, .int .i64)] :=
  .st Tryz.underlying23 (by kernel_rfl) (.int Tryz.underlying3 (.int Tryz.underlying3 (.int Tryz.underlying3 (.int Tryz.underlying3 (.int Tryz.underlying3 (.int Tryz.underlying3 .nil))))))
theorem open_cfg {r : Reach} {b0 : Nat} {v : Value} {d : DataW H} {p : List MemPlace} {spare : Nat → Bool} (hv : Value.okWide Tryz.prog w r b0 23 v) (h : DataW.Trod enc Tryz.prog w base spare held 23 v d p) : ∃ c, v = cfgV c := by
  obtain ⟨cs, rfl, hl, hq⟩ := open_st Tryz.underlying23 lvs_cfg hv h
  rw [show Tryz.prog.cellsOf 23 = 6 by kernel_rfl] at hl
  match cs, hl with
  | [y0, y1, y2, y3, y4, y5], _ =>
    simp only [List.mem_cons, List.not_mem_nil, or_false, forall_eq_or_imp, forall_eq, List.getElem?_cons_zero, List.getElem?_cons_succ, Option.some.injEq, exists_eq_left', LfOk] at hq
    obtain ⟨⟨n0, rfl, _⟩, ⟨n1, rfl, _⟩, ⟨n2, rfl, _⟩, ⟨n3, rfl, _⟩, ⟨n4, rfl, _⟩, ⟨n5, rfl, _⟩⟩ := hq
    exact ⟨⟨n0, n1, n2, n3, n4, n5⟩, rfl⟩
theorem lvs_act : Lvs Tryz.prog [(61, 0)] [(0, .int .i64), (1, .str), (2, .int .i64), (3, .int .i64), (4, .str), (5, .str)] :=
  .st Tryz.underlying61 (by kernel_rfl) (.int Tryz.underlying3 (.st Tryz.underlying59 (by kernel_rfl) (.str Tryz.underlying9 (.int Tryz.underlying3 (.int Tryz.underlying2 (.str Tryz.underlying9 (.str Tryz.underlying9 .nil)))))))
theorem act_of (cs : List Value) (hl : cs.length = encA.k) (hq : ∀ q ∈ [(0, Lf.int .i64), (1, .str), (2, .int .i64), (3, .int .i64), (4, .str), (5, .str)], ∃ u, cs[q.1]? = some u ∧ LfOk q.2 u) : ∃ x, encA.f x = cs := by
  replace hl : cs.length = 6 := hl
  match cs, hl with
  | [y0, y1, y2, y3, y4, y5], _ =>
    simp only [List.mem_cons, List.not_mem_nil, or_false, forall_eq_or_imp, forall_eq, List.getElem?_cons_zero, List.getElem?_cons_succ, Option.some.injEq, exists_eq_left', LfOk] at hq
    obtain ⟨⟨n0, rfl, _⟩, ⟨n1, rfl, _⟩, ⟨n2, rfl, _⟩, ⟨n3, rfl, _⟩, ⟨n4, rfl, _⟩, ⟨n5, rfl, _⟩⟩ := hq
    exact ⟨⟨n0, ⟨n1, n2, n3, n4⟩, n5⟩, rfl⟩
theorem cellsAct : Tryz.prog.cellsOf 61 = 6 := by kernel_rfl
theorem open_acts {r : Reach} {b0 : Nat} {v : Value} {d : DataW H} {p : List MemPlace} (hv : Value.okWide Tryz.prog w r b0 24 v) (h : DataW.Trod enc Tryz.prog w base (fun _ => true) held 24 v d p) : ∃ l, Rd (mem0 w) encA v l := by
  obtain ⟨xs, hx, _⟩ := open_sl encA Tryz.underlying24 cellsAct (by decide) lvs_act act_of hv h
  exact ⟨xs, hx⟩
end
end Go.Proofs.YtndahppmjdbifaaGreatDoor.Nod
set_option linter.unusedVariables false
set_option linter.unusedSimpArgs false
namespace Go.Proofs.YtndahppmjdbifaaGreatDoor.Ref
open Go Go.Proofs Eng Snd Lnk
def encS : Enc ByteArray := ⟨1, fun b => [.string b], fun _ => rfl, by simp [oneC]⟩
def Rdc {α : Type} (M : Mem) (A : Enc α) (s : Value) (xs : List α) : Prop := Rd M A s xs ∧ ∃ a c, s = .slice a xs.length c ∧ xs.length ≤ c
theorem Rdc.mono {α : Type} {A : Enc α} {M M' : Mem} {s : Value} {xs : List α} (h : Rdc M A s xs) (hm : Mle M M') : Rdc M' A s xs := ⟨h.1.mono hm, h.2⟩
theorem Rdc.nil {α : Type} {A : Enc α} {M : Mem} : Rdc M A (.slice none 0 0) [] := ⟨Rd.nil, none, 0, rfl, Nat.le_refl _⟩
theorem _root_.Go.Proofs.YtndahppmjdbifaaGreatDoor.Eng.Own.rdc {α : Type} {A : Enc α} {M : Mem} {e : TypeId} {s : Value} {xs : List α} {H : Chunk} (h : Own e A s xs H) (hM : ∀ b o, (b, o) ∈ H → M b = some o) : Rdc M A s xs := by
  obtain ⟨a, c, rfl⟩ := h.slice
  exact ⟨h.rd hM, a, c, rfl, h.cap.2⟩
abbrev rsO (m : Snd) (s : Value) : Obj := .cells #[.int .i64 m.win, .int .i64 m.last, s, .int .i64 m.acked] 206
def IsRS (M : Mem) (p : Nat) (m : Snd) (H : Chunk) : Prop := ∃ s, Rdc M encS s m.all ∧ H = [(p, rsO m s)]
theorem IsRS.mono {M M' : Mem} {p : Nat} {m : Snd} {H : Chunk} (h : IsRS M p m H) (hm : Mle M M') : IsRS M' p m H := by
  obtain ⟨s, h1, h2⟩ := h
  exact ⟨s, h1.mono hm, h2⟩
abbrev rrO (m : Rcv) (s : Value) : Obj := .cells #[.int .i64 m.room, s, .int .i64 m.popped] 202
def IsRR (M : Mem) (p : Nat) (m : Rcv) (H : Chunk) : Prop := ∃ s, Rdc M encS s m.all ∧ H = [(p, rrO m s)]
theorem IsRR.mono {M M' : Mem} {p : Nat} {m : Rcv} {H : Chunk} (h : IsRR M p m H) (hm : Mle M M') : IsRR M' p m H := by
  obtain ⟨s, h1, h2⟩ := h
  exact ⟨s, h1.mono hm, h2⟩
section
variable {M : Mem} {w : World} {Ls : List Chunk}
theorem r10clamp_c (n lo hi : Int) (h : lo ≤ hi) (hS : St M w Ls) : CallsR Tryz.prog 195 [.int .i64 n, .int .i64 lo, .int .i64 hi].toArray w fun v w' => v = .int .i64 (min (max n lo) hi) ∧ St M w' Ls := by
  refine zC 16 Tryz.func195 rfl (zQ (zR (zA rfl (zE (zQ (zQ (zR (zM rfl (zM rfl (wl (y_lss rfl rfl) rfl (zE (zIf rfl (fun hc9 => ?_) fun hc9 => ?_))))))))))))
  · refine zQ ?_
    refine zR (zM rfl (zA rfl (zE (zV (z1 rfl ?_)))))
    exact ⟨congrArg (Value.int .i64) (by omega), hS⟩
  refine zK ?_
  refine zQ (zQ (zR (zM rfl (zM rfl (wl (y_gtr rfl rfl) rfl (zE (zIf rfl (fun hc13 => ?_) fun hc13 => ?_)))))))
  · refine zQ ?_
    refine zR (zM rfl (zA rfl (zE (zV (z1 rfl ?_)))))
    exact ⟨congrArg (Value.int .i64) (by omega), hS⟩
  refine zK ?_
  refine zQ (zR (zM rfl (zA rfl (zE (zV (z1 rfl ?_))))))
  exact ⟨congrArg (Value.int .i64) (by omega), hS⟩
theorem r10new_c (win last : Int) (hS : St M w Ls) : CallsR Tryz.prog 179 [.int .i64 win, .int .i64 last].toArray w fun v w' => ∃ p H, v = .pointer (some ⟨p, 0, none⟩) ∧ IsRS M p (Snd.new win last) H ∧ St M w' (H :: Ls) := by
  have e1 : min (max win 1) 16 = (((min (max win 1) 16).toNat : Nat) : Int) := by omega
  have e2 : min (max last 0) 1125899906842624 = (((min (max last 0) 1125899906842624).toNat : Nat) : Int) := by omega
  refine zC 11 Tryz.func179 rfl (zQ (zR (zA rfl (zE (zQ (zR (zM rfl (wl_call (.cons rfl (.cons rfl (.cons rfl .nil))) (r10clamp_c win 1 16 (by decide) hS) rfl ?_))))))))
  rintro _ w ⟨rfl, hS⟩
  rw [e1]
  refine zM rfl (wl_call (.cons rfl (.cons rfl (.cons rfl .nil))) (r10clamp_c last 0 1125899906842624 (by decide) hS) rfl ?_)
  rintro _ w ⟨rfl, hS⟩
  rw [e2]
  refine wl (y_build (is := [0, 1]) (xs := [_, _]) (out := [_, _, _, _]) plc_206 z_206 (.cons rfl (.cons rfl .nil)) rfl) rfl (a_box rfl hS rfl fun b10 w hS => zA rfl (zE (zV (z1 rfl ?_))))
  exact ⟨_, _, rfl, ⟨.slice none 0 0, Rdc.nil, rfl⟩, hS⟩
theorem r10offer_c {p : Nat} {m : Snd} {H : Chunk} (d : ByteArray) (hl : m.all.length ≤ 137438953472) (hm : m.ok) (hb : IsRS M p m H) (hS : St M w (H :: Ls)) :
    CallsR Tryz.prog 98 [.pointer (some ⟨p, 0, none⟩), .string d].toArray w fun v w' => ∃ k M' H', Mle M M' ∧ v = .tuple [.int .i64 k, .int .i64 m.offerE].toArray ∧ IsRS M' p (m.offer d) H' ∧ St M' w' (H' :: Ls) := by
  have hb0 := hb
  obtain ⟨s, ho, rfl⟩ := hb
  obtain ⟨h1, h2, h3, h4, h5, h6⟩ := hm
  obtain ⟨ho, sa, sc, rfl, hcap⟩ := ho
  refine zC 48 Tryz.func98 rfl (zQ (zR (zA rfl (zA rfl (zE (zQ (zQ (zW hS (fun w => w.cell? ⟨p, 2, none⟩ = some (.slice sa m.all.length sc) ∧ w.cell? ⟨p, 3, none⟩ = some (.int .i64 m.acked) ∧ w.cell? ⟨p, 0, none⟩ = some (.int .i64 m.win)) [] wide_ rfl fun w hS => zPm 0 1 rfl (zPn 1 3 rfl (zPf 2 7 fl_206_2 rfl (zPm 5 39 rfl (zPn 6 103 rfl (zPf 7 231 fl_206_3 rfl (zPm 10 1255 rfl (zPn 11 3303 rfl (zPf 12 7399 fl_206_0 rfl (zD 3 7407 rfl ⟨hS.c, hS.c, hS.c⟩ (fun w hS => y_load pl_83 rfl hS.1) (zP 4 7423 rfl (fun w => y_len_sl Tryz.underlying83 rfl) (zD 8 7679 rfl ⟨hS.c, hS.c, hS.c⟩ (fun w hS => y_load pl_3 rfl hS.2.1) (zP 9 8191 rfl (fun w => y_sub rfl rfl (w64 (by omega) (by omega))) (zD 13 16383 rfl ⟨hS.c, hS.c, hS.c⟩ (fun w hS => y_load pl_3 rfl hS.2.2) (zP 14 32767 rfl (fun w => y_geq rfl rfl) (zH (zIf rfl (fun hc20 => ?_) fun hc20 => ?_))))))))))))))))))))))))
  · have he : m.offerE = 7 := by unfold Snd.offerE; rw [if_pos (by omega)]
    have hq : m.offer d = m := by unfold Snd.offer; rw [if_neg (by omega)]
    rw [he, hq]
    refine zQ (zR (zA rfl (zA rfl (zE (zV (z2 rfl ?_))))))
    first
    | exact ⟨_, M, _, Mle.refl _, rfl, hb0, hS.keep⟩
    | (simp only [zL, cells_agg, setCells] at hS
       exact ⟨_, M1, _, hM1, rfl, ⟨_, hr2, rfl⟩, hS.keep⟩)
  refine zK ?_
  refine zQ (zQ (zW hS (fun w => w.cell? ⟨p, 2, none⟩ = some (.slice sa m.all.length sc) ∧ w.cell? ⟨p, 1, none⟩ = some (.int .i64 m.last)) [] wide_ rfl fun w hS => zPm 0 1 rfl (zPn 1 3 rfl (zPf 2 7 fl_206_2 rfl (zPm 5 39 rfl (zPn 6 103 rfl (zPf 7 231 fl_206_1 rfl (zD 3 239 rfl ⟨hS.c, hS.c⟩ (fun w hS => y_load pl_83 rfl hS.1) (zP 4 255 rfl (fun w => y_len_sl Tryz.underlying83 rfl) (zD 8 511 rfl ⟨hS.c, hS.c⟩ (fun w hS => y_load pl_3 rfl hS.2) (zP 9 1023 rfl (fun w => y_geq rfl rfl) (zH (zIf rfl (fun hc30 => ?_) fun hc30 => ?_)))))))))))))
  · have he : m.offerE = 8 := by unfold Snd.offerE; rw [if_neg (by omega), if_pos (by omega)]
    have hq : m.offer d = m := by unfold Snd.offer; rw [if_neg (by omega)]
    rw [he, hq]
    refine zQ (zR (zA rfl (zA rfl (zE (zV (z2 rfl ?_))))))
    first
    | exact ⟨_, M, _, Mle.refl _, rfl, hb0, hS.keep⟩
    | (simp only [zL, cells_agg, setCells] at hS
       exact ⟨_, M1, _, hM1, rfl, ⟨_, hr2, rfl⟩, hS.keep⟩)
  have he : m.offerE = 0 := by unfold Snd.offerE; rw [if_neg (by omega), if_neg (by omega)]
  have hq : m.offer d = ⟨m.win, m.last, m.all ++ [d], m.acked⟩ := by unfold Snd.offer; rw [if_pos he]
  rw [he, hq]
  refine zK (zQ (zR (zM rfl (a_bslice encS [] (vs := []) (ps := []) Tryz.underlying83 sz_9 z_9 rfl .nil rfl rfl rfl (by decide) hS rfl fun u Hu w hou hS => zM rfl (zN rfl (zF fl_206_2 rfl (wl (y_load pl_83 rfl (hS.c (v := .slice sa m.all.length sc))) rfl (a_append Tryz.underlying83 Tryz.underlying83 sz_9 z_9 rfl by_9 (by decide) rfl rfl hou (ho.holds hS) hS (by simp; omega) rfl fun s1 H1 w ho1 hS => ?_))))))))
  rw [List.nil_append] at ho1
  refine zM rfl (a_bslice encS [d] Tryz.underlying83 sz_9 z_9 rfl (.cons rfl .nil) rfl rfl rfl (by decide) hS rfl fun u2 Hu2 w hou2 hS => a_append Tryz.underlying83 Tryz.underlying83 sz_9 z_9 rfl by_9 (by decide) rfl rfl ho1 (hou2.holds hS) ((hS.pull Hu2).pull H1) (by simp; omega) rfl fun s2 H2 w ho2 hS => ?_)
  obtain ⟨M1, hM1, hF, hS⟩ := hS.freeze
  have hr2 := ho2.rdc hF
  obtain ⟨sa2, sc2, rfl⟩ := ho2.slice
  refine zN rfl (zF fl_206_2 rfl (zS sz_83 rfl hS fun w hS => zE (zQ (zR (zM rfl (zN rfl (zF fl_206_2 rfl (wl (y_load pl_83 rfl (hS.c (v := .slice sa2 (m.all ++ [d]).length sc2))) rfl (wl (y_len_sl Tryz.underlying83 rfl) rfl (zA rfl (zA rfl (zE (zV (z2 rfl ?_))))))))))))))
  first
  | exact ⟨_, M, _, Mle.refl _, rfl, hb0, hS.keep⟩
  | (simp only [zL, cells_agg, setCells] at hS
     exact ⟨_, M1, _, hM1, rfl, ⟨_, hr2, rfl⟩, hS.keep⟩)
theorem r10ack_c {p : Nat} {m : Snd} {H : Chunk} (n : Int) (hm : m.ok) (hb : IsRS M p m H) (hS : St M w (H :: Ls)) :
    CallsR Tryz.prog 151 [.pointer (some ⟨p, 0, none⟩), .int .i64 n].toArray w fun v w' => ∃ k H', v = .int .i64 k ∧ IsRS M p (m.ack n) H' ∧ St M w' (H' :: Ls) := by
  have hb0 := hb
  obtain ⟨s, ho, rfl⟩ := hb
  obtain ⟨h1, h2, h3, h4, h5, h6⟩ := hm
  obtain ⟨ho, sa, sc, rfl, hcap⟩ := ho
  refine zC 32 Tryz.func151 rfl (zQ (zR (zA rfl (zE (zQ (zQ (zR (zM rfl (zM rfl (zN rfl (zF fl_206_2 rfl (wl (y_load pl_83 rfl (hS.c (v := .slice sa m.all.length sc))) rfl (wl (y_len_sl Tryz.underlying83 rfl) rfl (wl (y_gtr rfl rfl) rfl (zM rfl (zWc (s := 13) rfl (fun hg13 => ?_) fun hg13 => ?_))))))))))))))))
  · have hq : m.ack n = m := by unfold Snd.ack; rw [if_pos (by omega)]
    rw [hq]
    refine zO rfl (zO rfl (zO rfl (zO rfl (zO rfl (zO rfl (wl (y_pickT rfl rfl) rfl (zE (wc_ifT rfl rfl (zQ (zR (zA rfl (zE (zV (z1 rfl ?_))))))))))))))
    first
    | exact ⟨_, _, rfl, hb0, hS.keep⟩
    | (simp only [zL, cells_agg, setCells] at hS
       exact ⟨_, _, rfl, ⟨_, ⟨ho, _, _, rfl, hcap⟩, rfl⟩, hS.keep⟩)
  refine zI rfl ?_
  refine zM rfl (zI rfl (zM rfl (zI rfl (zN rfl (zI rfl (zF fl_206_3 rfl (zI rfl (wl (y_load pl_3 rfl (hS.c (v := .int .i64 m.acked))) rfl (zI rfl (wl (y_leq rfl rfl) rfl (wl (y_pickF rfl rfl) rfl (zE (zIf rfl (fun hc20 => ?_) fun hc20 => ?_)))))))))))))
  · have hq : m.ack n = m := by unfold Snd.ack; rw [if_pos (by omega)]
    rw [hq]
    refine zQ (zR (zA rfl (zE (zV (z1 rfl ?_)))))
    first
    | exact ⟨_, _, rfl, hb0, hS.keep⟩
    | (simp only [zL, cells_agg, setCells] at hS
       exact ⟨_, _, rfl, ⟨_, ⟨ho, _, _, rfl, hcap⟩, rfl⟩, hS.keep⟩)
  have hq : m.ack n = ⟨m.win, m.last, m.all, n.toNat⟩ := by unfold Snd.ack; rw [if_neg (by omega)]
  obtain ⟨k, rfl⟩ : ∃ k : Nat, n = k := ⟨n.toNat, by omega⟩
  rw [Int.toNat_natCast] at hq
  rw [hq]
  refine zK (zQ (zR (zM rfl (zM rfl (zN rfl (zF fl_206_3 rfl (wl (y_load pl_3 rfl (hS.c (v := .int .i64 m.acked))) rfl (wl (y_sub rfl rfl (w64 (by omega) (by omega))) rfl (zA rfl (zE (zQ (zR (zM rfl (zM rfl (zN rfl (zF fl_206_3 rfl (zS sz_3 rfl hS fun w hS => zE (zQ (zR (zM rfl (zA rfl (zE (zV (z1 rfl ?_))))))))))))))))))))))))
  first
  | exact ⟨_, _, rfl, hb0, hS.keep⟩
  | (simp only [zL, cells_agg, setCells] at hS
     exact ⟨_, _, rfl, ⟨_, ⟨ho, _, _, rfl, hcap⟩, rfl⟩, hS.keep⟩)
theorem r10left_c {p : Nat} {m : Snd} {H : Chunk} (hm : m.ok) (hb : IsRS M p m H) (hS : St M w (H :: Ls)) :
    CallsR Tryz.prog 102 [.pointer (some ⟨p, 0, none⟩)].toArray w fun v w' => ∃ H', Own 9 encS v (m.all.drop m.acked) H' ∧ St M w' (H' :: H :: Ls) := by
  obtain ⟨s, ho, rfl⟩ := hb
  obtain ⟨h1, h2, h3, h4, h5, h6⟩ := hm
  obtain ⟨ho, sa, sc, rfl, hcap⟩ := ho
  refine zC 14 Tryz.func102 rfl (zQ (zR (zA rfl (zE (zQ (zW hS (fun w => w.cell? ⟨p, 2, none⟩ = some (.slice sa m.all.length sc) ∧ w.cell? ⟨p, 3, none⟩ = some (.int .i64 m.acked)) [] wide_ rfl fun w hS => zPm 1 2 rfl (zPn 2 6 rfl (zPf 3 14 fl_206_2 rfl (zPm 5 46 rfl (zPn 6 110 rfl (zPf 7 238 fl_206_3 rfl (zD 4 254 rfl ⟨hS.c, hS.c⟩ (fun w hS => y_load pl_83 rfl hS.1) (zD 8 510 rfl ⟨hS.c, hS.c⟩ (fun w hS => y_load pl_3 rfl hS.2) (zP 9 1022 rfl (fun w => y_slFrom (lv := m.acked) Tryz.underlying83 sz_9 rfl rfl (by omega) (by omega) (by omega)) (zU 0 1023 rfl (a_bslice encS [] (vs := []) (ps := []) Tryz.underlying83 sz_9 z_9 rfl .nil rfl rfl rfl (by decide) hS rfl fun u Hu w hou hS => zE ⟨fun _ _ => ⟨hS.c, hS.c⟩, zU 10 2047 rfl (a_append Tryz.underlying83 Tryz.underlying83 sz_9 z_9 rfl by_9 (by decide) rfl rfl hou ((ho.holds hS).cut h4 hcap) hS (by simp; omega) rfl fun s1 H1 w ho1 hS => ?_)⟩))))))))))))))))
  rw [List.nil_append] at ho1
  refine zE ⟨fun _ _ => ⟨hS.c, hS.c⟩, zPa 11 4095 rfl (zH (zV (z1 rfl ?_)))⟩
  exact ⟨_, ho1, hS.keep⟩
end
end Go.Proofs.YtndahppmjdbifaaGreatDoor.Ref
set_option linter.unusedVariables false
set_option linter.unusedSimpArgs false
namespace Go.Proofs.YtndahppmjdbifaaGreatDoor.Ref
open Go Go.Proofs Eng Snd Lnk Fra
section
variable {M : Mem} {w : World} {Ls : List Chunk}
theorem r11new_c (room : Int) (hS : St M w Ls) : CallsR Tryz.prog 180 [.int .i64 room].toArray w fun v w' => ∃ p H, v = .pointer (some ⟨p, 0, none⟩) ∧ IsRR M p (Rcv.new room) H ∧ St M w' (H :: Ls) := by
  refine zC 10 Tryz.func180 rfl (zQ (zR (zA rfl (zE (zQ (zQ (zR (zM rfl (wl (y_lss rfl rfl) rfl (zE (zIf rfl (fun hc4 => ?_) fun hc4 => ?_)))))))))))
  · refine zR ?_
    refine zA rfl (zE (wc_cut (α := Unit) (fun _ => [(0, .int .i64 ((min (max room 1) 16).toNat : Nat))]) (fun _ w => St M w Ls) ?_ ?_))
    · refine zQ ?_
      refine zR (zM rfl (wl (y_gtr rfl rfl) rfl (zE (zIf rfl (fun hc6 => ?_) fun hc6 => ?_))))
      · refine zR ?_
        refine zA rfl (zE ?_)
        exact ⟨(), sub_cons (congrArg (fun n : Int => some (Value.int .i64 n)) (by omega)) sub_nil, hS⟩
      refine zK ?_
      exact ⟨(), sub_cons (congrArg (fun n : Int => some (Value.int .i64 n)) (by omega)) sub_nil, hS⟩
    clear hS
    rintro _ w hS
    refine zQ (zR (zM rfl (wl (y_build (is := [0]) (xs := [_]) (out := [_, _, _]) plc_202 z_202 (.cons rfl .nil) rfl) rfl (a_box rfl hS rfl fun b9 w hS => zA rfl (zE (zV (z1 rfl ?_)))))))
    exact ⟨_, _, rfl, ⟨.slice none 0 0, Rdc.nil, rfl⟩, hS⟩
  refine zK ?_
  refine wc_cut (α := Unit) (fun _ => [(0, .int .i64 ((min (max room 1) 16).toNat : Nat))]) (fun _ w => St M w Ls) ?_ ?_
  · refine zQ ?_
    refine zR (zM rfl (wl (y_gtr rfl rfl) rfl (zE (zIf rfl (fun hc6 => ?_) fun hc6 => ?_))))
    · refine zR ?_
      refine zA rfl (zE ?_)
      exact ⟨(), sub_cons (congrArg (fun n : Int => some (Value.int .i64 n)) (by omega)) sub_nil, hS⟩
    refine zK ?_
    exact ⟨(), sub_cons (congrArg (fun n : Int => some (Value.int .i64 n)) (by omega)) sub_nil, hS⟩
  clear hS
  rintro _ w hS
  refine zQ (zR (zM rfl (wl (y_build (is := [0]) (xs := [_]) (out := [_, _, _]) plc_202 z_202 (.cons rfl .nil) rfl) rfl (a_box rfl hS rfl fun b9 w hS => zA rfl (zE (zV (z1 rfl ?_)))))))
  exact ⟨_, _, rfl, ⟨.slice none 0 0, Rdc.nil, rfl⟩, hS⟩
theorem r11hear_c {p : Nat} {m : Rcv} {H : Chunk} (seq : Int) (hseq : seq ≤ 9223372036854775807) (d : ByteArray) (hl : m.all.length ≤ 137438953472) (hm : m.ok) (hb : IsRR M p m H) (hS : St M w (H :: Ls)) :
    CallsR Tryz.prog 152 [.pointer (some ⟨p, 0, none⟩), .int .i64 seq, .string d].toArray w fun v w' => ∃ M' H', Mle M M' ∧ v = .bool (m.hears seq) ∧ IsRR M' p (m.hear seq d) H' ∧ St M' w' (H' :: Ls) := by
  have hb0 := hb
  obtain ⟨s, ho, rfl⟩ := hb
  obtain ⟨k1, k2, k3, k4, k5⟩ := hm
  obtain ⟨ho, sa, sc, rfl, hcap⟩ := ho
  have hw : m.wait = m.all.length - m.popped := rfl
  have hno : ∀ h : m.hears seq = false, m.hear seq d = m := fun h => by unfold Rcv.hear; rw [h] <;> rfl
  refine zC 48 Tryz.func152 rfl (zQ (zR (zA rfl (zE (zQ (zQ (zW hS (fun w => w.cell? ⟨p, 1, none⟩ = some (.slice sa m.all.length sc) ∧ w.cell? ⟨p, 2, none⟩ = some (.int .i64 m.popped) ∧ w.cell? ⟨p, 0, none⟩ = some (.int .i64 m.room)) [] wide_ rfl fun w hS => zPm 0 1 rfl (zPn 1 3 rfl (zPf 2 7 fl_202_1 rfl (zPm 5 39 rfl (zPn 6 103 rfl (zPf 7 231 fl_202_2 rfl (zPm 10 1255 rfl (zPn 11 3303 rfl (zPf 12 7399 fl_202_0 rfl (zD 3 7407 rfl ⟨hS.c, hS.c, hS.c⟩ (fun w hS => y_load pl_83 rfl hS.1) (zP 4 7423 rfl (fun w => y_len_sl Tryz.underlying83 rfl) (zD 8 7679 rfl ⟨hS.c, hS.c, hS.c⟩ (fun w hS => y_load pl_3 rfl hS.2.1) (zP 9 8191 rfl (fun w => y_sub rfl rfl (w64 (by omega) (by omega))) (zD 13 16383 rfl ⟨hS.c, hS.c, hS.c⟩ (fun w hS => y_load pl_3 rfl hS.2.2) (zP 14 32767 rfl (fun w => y_geq rfl rfl) (zPm 15 65535 rfl (zDc (s := 22) rfl (fun hg22 => ?_) fun hg22 => ?_)))))))))))))))))))))))
  · have hh : m.hears seq = false := by unfold Rcv.hears; exact decide_eq_false (fun h => by omega)
    rw [hno hh, hh]
    refine zDO 16 131071 rfl (zDO 17 262143 rfl (zP 18 524287 rfl (fun w => y_pickT rfl rfl) (zPm 19 1048575 rfl (zDO 20 2097151 rfl (zDO 21 4194303 rfl (zDO 22 8388607 rfl (zDO 23 16777215 rfl (zDO 24 33554431 rfl (zDO 25 67108863 rfl (zDO 26 134217727 rfl (zDO 27 268435455 rfl (zP 28 536870911 rfl (fun w => y_pickT rfl rfl) (zH (wc_ifT rfl rfl (zQ (zR (zA rfl (zE (zV (z1 rfl ?_))))))))))))))))))))
    first
    | exact ⟨M, _, Mle.refl _, rfl, hb0, hS.keep⟩
    | (simp only [zL, cells_agg, setCells] at hS
       exact ⟨M1, _, hM1, rfl, ⟨_, hr2, rfl⟩, hS.keep⟩)
  refine zPG 16 131071 rfl (fun w => y_move rfl) ?_
  refine zPG 17 262143 rfl (fun w => y_lss rfl rfl) (zP 18 524287 rfl (fun w => y_pickF rfl rfl) (zPm 19 1048575 rfl (zDc (s := 26) rfl (fun hg26 => ?_) fun hg26 => ?_)))
  · have hh : m.hears seq = false := by unfold Rcv.hears; exact decide_eq_false (fun h => by omega)
    rw [hno hh, hh]
    refine zDO 20 2097151 rfl (zDO 21 4194303 rfl (zDO 22 8388607 rfl (zDO 23 16777215 rfl (zDO 24 33554431 rfl (zDO 25 67108863 rfl (zDO 26 134217727 rfl (zDO 27 268435455 rfl (zP 28 536870911 rfl (fun w => y_pickT rfl rfl) (zH (wc_ifT rfl rfl (zQ (zR (zA rfl (zE (zV (z1 rfl ?_))))))))))))))))
    first
    | exact ⟨M, _, Mle.refl _, rfl, hb0, hS.keep⟩
    | (simp only [zL, cells_agg, setCells] at hS
       exact ⟨M1, _, hM1, rfl, ⟨_, hr2, rfl⟩, hS.keep⟩)
  refine zPG 20 2097151 rfl (fun w => y_move rfl) ?_
  refine zPG 21 4194303 rfl (fun w => y_sub rfl rfl (w64 (by omega) (by omega))) (zPG 22 8388607 rfl (fun w => y_move rfl) (zPG 23 16777215 rfl (fun w => y_nil rfl) (zPG 24 33554431 rfl (fun w => y_fld fl_202_1 rfl) (zDG 25 67108863 rfl ⟨hS.c, hS.c, hS.c⟩ (fun w hS => y_load pl_83 rfl hS.1) (zPG 26 134217727 rfl (fun w => y_len_sl Tryz.underlying83 rfl) (zPG 27 268435455 rfl (fun w => y_neq rfl rfl) (zP 28 536870911 rfl (fun w => y_pickF rfl rfl) (zH (zIf rfl (fun hc35 => ?_) fun hc35 => ?_)))))))))
  · have hh : m.hears seq = false := by unfold Rcv.hears; exact decide_eq_false (fun h => by omega)
    rw [hno hh, hh]
    refine zQ (zR (zA rfl (zE (zV (z1 rfl ?_)))))
    first
    | exact ⟨M, _, Mle.refl _, rfl, hb0, hS.keep⟩
    | (simp only [zL, cells_agg, setCells] at hS
       exact ⟨M1, _, hM1, rfl, ⟨_, hr2, rfl⟩, hS.keep⟩)
  have hh : m.hears seq = true := by unfold Rcv.hears; exact decide_eq_true ⟨by omega, by omega⟩
  have hq : m.hear seq d = ⟨m.room, m.all ++ [d], m.popped⟩ := by unfold Rcv.hear; rw [hh] <;> rfl
  rw [hq, hh]
  refine zK (zQ (zR (zM rfl (a_bslice encS [] (vs := []) (ps := []) Tryz.underlying83 sz_9 z_9 rfl .nil rfl rfl rfl (by decide) hS rfl fun u Hu w hou hS => zM rfl (zN rfl (zF fl_202_1 rfl (wl (y_load pl_83 rfl (hS.c (v := .slice sa m.all.length sc))) rfl (a_append Tryz.underlying83 Tryz.underlying83 sz_9 z_9 rfl by_9 (by decide) rfl rfl hou (ho.holds hS) hS (by simp; omega) rfl fun s1 H1 w ho1 hS => ?_))))))))
  rw [List.nil_append] at ho1
  refine zM rfl (a_bslice encS [d] Tryz.underlying83 sz_9 z_9 rfl (.cons rfl .nil) rfl rfl rfl (by decide) hS rfl fun u2 Hu2 w hou2 hS => a_append Tryz.underlying83 Tryz.underlying83 sz_9 z_9 rfl by_9 (by decide) rfl rfl ho1 (hou2.holds hS) ((hS.pull Hu2).pull H1) (by simp; omega) rfl fun s2 H2 w ho2 hS => ?_)
  obtain ⟨M1, hM1, hF, hS⟩ := hS.freeze
  have hr2 := ho2.rdc hF
  obtain ⟨sa2, sc2, rfl⟩ := ho2.slice
  refine zN rfl (zF fl_202_1 rfl (zS sz_83 rfl hS fun w hS => zE (zQ (zR (zA rfl (zE (zV (z1 rfl ?_))))))))
  first
  | exact ⟨M, _, Mle.refl _, rfl, hb0, hS.keep⟩
  | (simp only [zL, cells_agg, setCells] at hS
     exact ⟨M1, _, hM1, rfl, ⟨_, hr2, rfl⟩, hS.keep⟩)
theorem r11pop_c {p : Nat} {m : Rcv} {H : Chunk} (hm : m.ok) (hb : IsRR M p m H) (hS : St M w (H :: Ls)) :
    CallsR Tryz.prog 93 [.pointer (some ⟨p, 0, none⟩)].toArray w fun v w' => ∃ H', v = m.popV ∧ IsRR M p m.pop H' ∧ St M w' (H' :: Ls) := by
  have hb0 := hb
  obtain ⟨s, ho, rfl⟩ := hb
  obtain ⟨k1, k2, k3, k4, k5⟩ := hm
  obtain ⟨ho, sa, sc, rfl, hcap⟩ := ho
  have ho0 := ho
  by_cases hlt : m.popped < m.all.length
  · obtain ⟨d, hd⟩ : ∃ d, m.all[m.popped]? = some d := ⟨_, List.getElem?_eq_getElem hlt⟩
    have hv : m.popV = .tuple [.string d, .bool true].toArray := by unfold Rcv.popV; rw [hd]
    have hq : m.pop = ⟨m.room, m.all, m.popped + 1⟩ := by unfold Rcv.pop; rw [if_pos hlt]
    rw [hv, hq]
    obtain ⟨bb, off, c', hse, hce⟩ := (ho.holds hS).at hd
    simp only [Value.slice.injEq] at hse
    have hSk := hS
    obtain ⟨rfl, _, rfl⟩ := hse
    replace hS := hSk
    refine zC 33 Tryz.func93 rfl (zQ (zR (zA rfl (zA rfl (zE (zQ (zQ (zW hS (fun w => w.cell? ⟨p, 2, none⟩ = some (.int .i64 m.popped) ∧ w.cell? ⟨p, 1, none⟩ = some (.slice (some ⟨bb, off, none⟩) m.all.length sc)) [] wide_ rfl fun w hS => zPm 0 1 rfl (zPn 1 3 rfl (zPf 2 7 fl_202_2 rfl (zPm 4 23 rfl (zPn 5 55 rfl (zPf 6 119 fl_202_1 rfl (zD 3 127 rfl ⟨hS.c, hS.c⟩ (fun w hS => y_load pl_3 rfl hS.1) (zD 7 255 rfl ⟨hS.c, hS.c⟩ (fun w hS => y_load pl_83 rfl hS.2) (zP 8 511 rfl (fun w => y_len_sl Tryz.underlying83 rfl) (zP 9 1023 rfl (fun w => y_geq rfl rfl) (zH (wc_ifF rfl (decide_eq_false (by omega)) (zK (zQ (zR (zM rfl (zM rfl (zN rfl (zF fl_202_2 rfl (wl (y_load pl_3 rfl (hS.c (v := .int .i64 m.popped))) rfl (wl ((y_add rfl rfl (w64 (by omega) (by omega))).val (u := .int .i64 ((m.popped + 1 : Nat) : Int)) (congrArg (Value.int .i64) (by omega))) rfl (zN rfl (zF fl_202_2 rfl (zS sz_3 rfl hS fun w hS => zE (zQ (zW hS (fun w => w.cell? ⟨p, 1, none⟩ = some (.slice (some ⟨bb, off, none⟩) m.all.length sc) ∧ w.cell? ⟨p, 2, none⟩ = some (.int .i64 ((m.popped + 1 : Nat) : Int)) ∧ CellsAt w bb (off + m.popped * encS.k) (encS.f d)) [] wide_ rfl fun w hS => zPm 0 1 rfl (zPn 1 3 rfl (zPf 2 7 fl_202_1 rfl (zPm 4 23 rfl (zPn 5 55 rfl (zPf 6 119 fl_202_2 rfl (zD 3 127 rfl ⟨hS.c, hS.c, (ho.holds hS).cells hd⟩ (fun w hS => y_load pl_83 rfl hS.1) (zD 7 255 rfl ⟨hS.c, hS.c, (ho.holds hS).cells hd⟩ (fun w hS => y_load pl_3 rfl hS.2.1) (zP 8 511 rfl (fun w => (y_sub rfl rfl (w64 (by omega) (by omega))).val (u := .int .i64 (m.popped : Nat)) (congrArg (Value.int .i64) (by omega))) (zP 9 1023 rfl (fun w => y_ixa_sl Tryz.underlying83 sz_9 rfl rfl (by omega) (by omega)) (zD 10 2047 rfl ⟨hS.c, hS.c, (ho.holds hS).cells hd⟩ (fun w hS => y_load pl_9 rfl hS.2.2.one) (zPa 11 4095 rfl (zPa 12 8191 rfl (zH (zV (z2 rfl ?_))))))))))))))))))))))))))))))))))))))))))))))))
    simp only [zL, cells_agg, setCells] at hS
    exact ⟨_, rfl, ⟨_, ⟨ho0, _, _, rfl, hcap⟩, rfl⟩, hS.keep⟩
  have hn : m.all[m.popped]? = none := List.getElem?_eq_none (by omega)
  have hv : m.popV = .tuple [.string ⟨#[]⟩, .bool false].toArray := by unfold Rcv.popV; rw [hn]
  have hq : m.pop = m := by unfold Rcv.pop; rw [if_neg hlt]
  rw [hv, hq]
  refine zC 33 Tryz.func93 rfl (zQ (zR (zA rfl (zA rfl (zE (zQ (zQ (zW hS (fun w => w.cell? ⟨p, 2, none⟩ = some (.int .i64 m.popped) ∧ w.cell? ⟨p, 1, none⟩ = some (.slice sa m.all.length sc)) [] wide_ rfl fun w hS => zPm 0 1 rfl (zPn 1 3 rfl (zPf 2 7 fl_202_2 rfl (zPm 4 23 rfl (zPn 5 55 rfl (zPf 6 119 fl_202_1 rfl (zD 3 127 rfl ⟨hS.c, hS.c⟩ (fun w hS => y_load pl_3 rfl hS.1) (zD 7 255 rfl ⟨hS.c, hS.c⟩ (fun w hS => y_load pl_83 rfl hS.2) (zP 8 511 rfl (fun w => y_len_sl Tryz.underlying83 rfl) (zP 9 1023 rfl (fun w => y_geq rfl rfl) (zH (wc_ifT rfl (decide_eq_true (by omega)) (zQ (zR (zA rfl (zA rfl (zE (zV (z2 rfl ?_))))))))))))))))))))))))))
  exact ⟨_, rfl, hb0, hS.keep⟩
theorem r11look_c {p : Nat} {m : Rcv} {H : Chunk} (hm : m.ok) (hb : IsRR M p m H) (hS : St M w (H :: Ls)) :
    CallsR Tryz.prog 101 [.pointer (some ⟨p, 0, none⟩)].toArray w fun v w' => ∃ H', Own 9 encS v (m.all.drop m.popped) H' ∧ St M w' (H' :: H :: Ls) := by
  obtain ⟨s, ho, rfl⟩ := hb
  obtain ⟨k1, k2, k3, k4, k5⟩ := hm
  obtain ⟨ho, sa, sc, rfl, hcap⟩ := ho
  have hw : m.wait = m.all.length - m.popped := rfl
  refine zC 14 Tryz.func101 rfl (zQ (zR (zA rfl (zE (zQ (zW hS (fun w => w.cell? ⟨p, 1, none⟩ = some (.slice sa m.all.length sc) ∧ w.cell? ⟨p, 2, none⟩ = some (.int .i64 m.popped)) [] wide_ rfl fun w hS => zPm 1 2 rfl (zPn 2 6 rfl (zPf 3 14 fl_202_1 rfl (zPm 5 46 rfl (zPn 6 110 rfl (zPf 7 238 fl_202_2 rfl (zD 4 254 rfl ⟨hS.c, hS.c⟩ (fun w hS => y_load pl_83 rfl hS.1) (zD 8 510 rfl ⟨hS.c, hS.c⟩ (fun w hS => y_load pl_3 rfl hS.2) (zP 9 1022 rfl (fun w => y_slFrom (lv := m.popped) Tryz.underlying83 sz_9 rfl rfl (by omega) (by omega) (by omega)) (zU 0 1023 rfl (a_bslice encS [] (vs := []) (ps := []) Tryz.underlying83 sz_9 z_9 rfl .nil rfl rfl rfl (by decide) hS rfl fun u Hu w hou hS => zE ⟨fun _ _ => ⟨hS.c, hS.c⟩, zU 10 2047 rfl (a_append Tryz.underlying83 Tryz.underlying83 sz_9 z_9 rfl by_9 (by decide) rfl rfl hou ((ho.holds hS).cut k3 hcap) hS (by simp; omega) rfl fun s1 H1 w ho1 hS => ?_)⟩))))))))))))))))
  rw [List.nil_append] at ho1
  refine zE ⟨fun _ _ => ⟨hS.c, hS.c⟩, zPa 11 4095 rfl (zH (zV (z1 rfl ?_)))⟩
  exact ⟨_, ho1, hS.keep⟩
end
abbrev rlQ (ps pr : Nat) (ep win room : Int) (pas : Bool) : Obj := .cells #[.int .i64 ep, .pointer (some ⟨ps, 0, none⟩), .pointer (some ⟨pr, 0, none⟩), .int .i64 win, .int .i64 room, .bool pas] 140
abbrev rlO (ps pr : Nat) (m : Lnk) : Obj := rlQ ps pr m.ep m.win m.room m.pas
def IsRL (M : Mem) (p : Nat) (m : Lnk) (H : Chunk) : Prop := ∃ ps pr Hs Hr, IsRS M ps m.s Hs ∧ IsRR M pr m.r Hr ∧ H = (p, rlO ps pr m) :: (Hs ++ Hr)
theorem IsRL.mono {M M' : Mem} {p : Nat} {m : Lnk} {H : Chunk} (h : IsRL M p m H) (hm : Mle M M') : IsRL M' p m H := by
  obtain ⟨ps, pr, Hs, Hr, h1, h2, h3⟩ := h
  exact ⟨ps, pr, Hs, Hr, h1.mono hm, h2.mono hm, h3⟩
section
variable {M : Mem} {w : World} {Ls : List Chunk}
theorem r12fresh_c {p : Nat} {a b : Value} {e win room : Int} {pas : Bool} (ep : Int) (hS : St M w ([(p, .cells #[.int .i64 e, a, b, .int .i64 win, .int .i64 room, .bool pas] 140)] :: Ls)) :
    CallsR Tryz.prog 145 [.pointer (some ⟨p, 0, none⟩), .int .i64 ep].toArray w fun v w' => ∃ H', v = .tuple #[] ∧ IsRL M p (Lnk.new ep win room pas) H' ∧ St M w' (H' :: Ls) := by
  refine zC 28 Tryz.func145 rfl (zQ (zQ (zR (zM rfl (wl (y_lss rfl rfl) rfl (zE (zIf rfl (fun hc5 => ?_) fun hc5 => ?_)))))))
  · refine zR ?_
    refine zA rfl (zE (wc_cut (α := Unit) (fun _ => [(0, .pointer (some ⟨p, 0, none⟩)), (1, .int .i64 (epc ep))]) (fun _ w => St M w ([(p, .cells #[.int .i64 e, a, b, .int .i64 win, .int .i64 room, .bool pas] 140)] :: Ls)) ?_ ?_))
    · refine zQ ?_
      refine zR (zM rfl (wl (y_gtr rfl rfl) rfl (zE (zIf rfl (fun hc7 => ?_) fun hc7 => ?_))))
      · refine zR ?_
        refine zA rfl (zE ?_)
        exact ⟨(), sub_cons rfl (sub_cons (congrArg (fun n : Int => some (Value.int .i64 n)) (by unfold epc; omega)) sub_nil), hS⟩
      refine zK ?_
      exact ⟨(), sub_cons rfl (sub_cons (congrArg (fun n : Int => some (Value.int .i64 n)) (by unfold epc; omega)) sub_nil), hS⟩
    clear hS
    rintro _ w hS
    refine zQ (zR (zM rfl (zM rfl (zN rfl (zF fl_140_0 rfl (zS sz_3 rfl hS fun w hS => zE (zQ (zR (zM rfl (zM rfl (zN rfl (zF fl_140_3 rfl (wl (y_load pl_3 rfl (hS.c (v := .int .i64 win))) rfl (wl_call (.cons rfl (.cons rfl .nil)) (r10new_c win 1125899906842624 hS) rfl ?_))))))))))))))
    rintro _ w ⟨ps, Hs, rfl, hs, hS⟩
    refine zN rfl (zF fl_140_1 rfl (zS sz_137 rfl hS fun w hS => zE (zR (zM rfl (zM rfl (zN rfl (zF fl_140_4 rfl (wl (y_load pl_3 rfl (hS.c (v := .int .i64 room))) rfl (wl_call (.cons rfl .nil) (r11new_c room hS) rfl ?_)))))))))
    rintro _ w ⟨pr, Hr, rfl, hr, hS⟩
    refine zN rfl (zF fl_140_2 rfl (zS sz_138 rfl hS fun w hS => zE (wretN (vs := []) .nil ?_)))
    simp only [zL, cells_agg, setCells] at hS
    exact ⟨_, rfl, ⟨ps, pr, Hs, Hr, hs, hr, rfl⟩, (by have h := hS.keep (T := ((p, rlQ ps pr (epc ep) win room pas) :: (Hs ++ Hr)) :: Ls); exact h)⟩
  refine zK ?_
  refine wc_cut (α := Unit) (fun _ => [(0, .pointer (some ⟨p, 0, none⟩)), (1, .int .i64 (epc ep))]) (fun _ w => St M w ([(p, .cells #[.int .i64 e, a, b, .int .i64 win, .int .i64 room, .bool pas] 140)] :: Ls)) ?_ ?_
  · refine zQ ?_
    refine zR (zM rfl (wl (y_gtr rfl rfl) rfl (zE (zIf rfl (fun hc7 => ?_) fun hc7 => ?_))))
    · refine zR ?_
      refine zA rfl (zE ?_)
      exact ⟨(), sub_cons rfl (sub_cons (congrArg (fun n : Int => some (Value.int .i64 n)) (by unfold epc; omega)) sub_nil), hS⟩
    refine zK ?_
    exact ⟨(), sub_cons rfl (sub_cons (congrArg (fun n : Int => some (Value.int .i64 n)) (by unfold epc; omega)) sub_nil), hS⟩
  clear hS
  rintro _ w hS
  refine zQ (zR (zM rfl (zM rfl (zN rfl (zF fl_140_0 rfl (zS sz_3 rfl hS fun w hS => zE (zQ (zR (zM rfl (zM rfl (zN rfl (zF fl_140_3 rfl (wl (y_load pl_3 rfl (hS.c (v := .int .i64 win))) rfl (wl_call (.cons rfl (.cons rfl .nil)) (r10new_c win 1125899906842624 hS) rfl ?_))))))))))))))
  rintro _ w ⟨ps, Hs, rfl, hs, hS⟩
  refine zN rfl (zF fl_140_1 rfl (zS sz_137 rfl hS fun w hS => zE (zR (zM rfl (zM rfl (zN rfl (zF fl_140_4 rfl (wl (y_load pl_3 rfl (hS.c (v := .int .i64 room))) rfl (wl_call (.cons rfl .nil) (r11new_c room hS) rfl ?_)))))))))
  rintro _ w ⟨pr, Hr, rfl, hr, hS⟩
  refine zN rfl (zF fl_140_2 rfl (zS sz_138 rfl hS fun w hS => zE (wretN (vs := []) .nil ?_)))
  simp only [zL, cells_agg, setCells] at hS
  exact ⟨_, rfl, ⟨ps, pr, Hs, Hr, hs, hr, rfl⟩, (by have h := hS.keep (T := ((p, rlQ ps pr (epc ep) win room pas) :: (Hs ++ Hr)) :: Ls); exact h)⟩
theorem r12new_c (ep win room : Int) (pas : Bool) (hS : St M w Ls) : CallsR Tryz.prog 86 [.int .i64 ep, .int .i64 win, .int .i64 room, .bool pas].toArray w fun v w' => ∃ p H, v = .pointer (some ⟨p, 0, none⟩) ∧ IsRL M p (Lnk.new ep win room pas) H ∧ St M w' (H :: Ls) := by
  refine zC 19 Tryz.func86 rfl (zQ (zR (zA rfl (zE (zQ (zR (zM rfl (zM rfl (zM rfl (wl (y_build (is := [3, 4, 5]) (xs := [_, _, _]) (out := [_, _, _, _, _, _]) plc_140 z_140 (.cons rfl (.cons rfl (.cons rfl .nil))) rfl) rfl (a_box rfl hS rfl fun b14 w hS => zA rfl (zE (zQ (zR (zM rfl (zM rfl (wl_call (.cons rfl (.cons rfl .nil)) (r12fresh_c ep hS) rfl ?_)))))))))))))))))
  rintro _ w ⟨H, rfl, hl, hS⟩
  refine zE (zQ (zR (zM rfl (zA rfl (zE (zV (z1 rfl ?_)))))))
  exact ⟨_, _, rfl, hl, hS⟩
def HearO (m : Lnk) (f : Frm) (a : Bool) (k : Lnk) : Prop := k.ok ∧ k.r.all.length ≤ 137438953472 ∧ a = m.anew f ∧ (f.ep = k.ep → m.hear f = k.hear2 f) ∧ (¬ f.ep = k.ep → m.anew f = false ∧ m.hear f = k)
theorem hearO_same {m : Lnk} {f : Frm} (hm : m.ok) (hl : m.r.all.length ≤ 137438953472) (h : ¬ f.ep > m.ep ∨ m.pas = false) : HearO m f false m := by
  have ha : m.anew f = false := by
    unfold Lnk.anew
    rcases h with h | h
    · rw [decide_eq_false h] <;> rfl
    rw [h, Bool.and_false]
  refine ⟨hm, hl, ha.symm, fun he => ?_, fun he => ⟨ha, ?_⟩⟩
  · unfold Lnk.hear; rw [if_neg (by omega), if_neg (by omega)]
  unfold Lnk.hear
  split
  · rfl
  split
  · rename_i h1 h2
    rcases h with h | h
    · exact absurd h2 h
    rw [h] <;> rfl
  omega
theorem hearO_new {m : Lnk} {f : Frm} (hep : f.ep ≤ 1099511627776) (h : f.ep > m.ep) (hp : m.pas = true) : HearO m f true (m.fresh f.ep) := by
  have he : (((m.fresh f.ep).ep : Nat) : Int) = f.ep := by unfold Lnk.fresh epc; simp only; omega
  refine ⟨Lnk.fresh_ok _ _, by unfold Lnk.fresh Rcv.new; simp, ?_, fun _ => ?_, fun hn => absurd he.symm hn⟩
  · unfold Lnk.anew; rw [decide_eq_true h, hp] <;> rfl
  unfold Lnk.hear; rw [if_neg (by omega), if_pos h, if_pos hp]
theorem r12hear_c {p : Nat} {m : Lnk} {H : Chunk} (f : Frm) (hl : m.r.all.length ≤ 137438953472) (hm : m.ok) (hep : f.ep ≤ 1099511627776) (hseq : 0 ≤ f.seq ∧ f.seq ≤ 9223372036854775807) (hb : IsRL M p m H) (hS : St M w (H :: Ls)) :
    CallsR Tryz.prog 97 [.pointer (some ⟨p, 0, none⟩), fv f].toArray w fun v w' => ∃ M' H', Mle M M' ∧ v = .bool (m.anew f) ∧ IsRL M' p (m.hear f) H' ∧ St M' w' (H' :: Ls) := by
  have hb0 := hb
  obtain ⟨ps, pr, Hs, Hr, hs, hr, rfl⟩ := hb
  replace hS := hS.un2
  refine zC 50 Tryz.func97 rfl (zQ (zR (a_box rfl hS rfl fun b3 w hS => zA rfl (zE (zQ (zR (zA rfl (zE (wc_cut (α := Bool × Lnk × Chunk) (fun ⟨a, _⟩ => [(0, .pointer (some ⟨p, 0, none⟩)), (3, .pointer (some ⟨b3, 0, none⟩)), (5, .bool a)]) (fun ⟨a, k, H⟩ w => HearO m f a k ∧ IsRL M p k H ∧ St M w (H :: [(b3, .cells (fv f).cells 42)] :: Ls)) ?_ ?_)))))))))
  · refine zQ ?_
    refine zW hS (fun w => w.cell? ⟨b3, 0, none⟩ = some (.int .i64 f.ep) ∧ w.cell? ⟨p, 0, none⟩ = some (.int .i64 m.ep) ∧ w.cell? ⟨p, 5, none⟩ = some (.bool m.pas)) [] wide_ rfl fun w hS => zPf 0 1 fl_42_0 rfl (zPm 2 5 rfl (zPn 3 13 rfl (zPf 4 29 fl_140_0 rfl (zD 1 31 rfl ⟨hS.c, hS.c, hS.c⟩ (fun w hS => y_load pl_3 rfl hS.1) (zD 5 63 rfl ⟨hS.c, hS.c, hS.c⟩ (fun w hS => y_load pl_3 rfl hS.2.1) (zP 6 127 rfl (fun w => y_gtr rfl rfl) (zPm 7 255 rfl (zDc (s := 13) rfl (fun hg13 => ?_) fun hg13 => ?_))))))))
    · refine zPG 8 511 rfl (fun w => y_move rfl) ?_
      refine zPG 9 1023 rfl (fun w => y_nil rfl) (zPG 10 2047 rfl (fun w => y_fld fl_140_5 rfl) (zDG 11 4095 rfl ⟨hS.c, hS.c, hS.c⟩ (fun w hS => y_load pl_4 rfl hS.2.2) (zP 12 8191 rfl (fun w => y_pickT rfl rfl) (zH (zIf rfl (fun hc18 => ?_) fun hc18 => ?_)))))
      · have hn := hearO_new (m := m) hep (by omega) hc18
        refine zQ (zR (zM rfl (zF fl_42_0 rfl (wl (y_load pl_3 rfl (hS.c (v := .int .i64 f.ep))) rfl (wl_call (.cons rfl (.cons rfl .nil)) (r12fresh_c f.ep (hS.pull [(p, rlO ps pr m)])) rfl ?_)))))
        rintro _ w ⟨H1, rfl, hl1, hS⟩
        refine zE (zR (zA rfl (zE ?_)))
        first
        | exact ⟨(true, _, H1), sub_cons rfl (sub_cons rfl (subR rfl)), hn, hl1, hS.keep⟩
        | exact ⟨(false, m, _), sub_cons rfl (sub_cons rfl (subR rfl)), hn, hb0, (by have h := hS.keep (T := ((p, rlO ps pr m) :: (Hs ++ Hr)) :: [(b3, .cells (fv f).cells 42)] :: Ls); exact h)⟩
      have hn := hearO_same (f := f) hm hl (.inr hc18)
      refine zK ?_
      first
      | exact ⟨(true, _, H1), sub_cons rfl (sub_cons rfl (subR rfl)), hn, hl1, hS.keep⟩
      | exact ⟨(false, m, _), sub_cons rfl (sub_cons rfl (subR rfl)), hn, hb0, (by have h := hS.keep (T := ((p, rlO ps pr m) :: (Hs ++ Hr)) :: [(b3, .cells (fv f).cells 42)] :: Ls); exact h)⟩
    have hn := hearO_same (f := f) hm hl (.inl (by omega))
    refine zDO 8 511 rfl (zDO 9 1023 rfl (zDO 10 2047 rfl (zDO 11 4095 rfl (zP 12 8191 rfl (fun w => y_pickF rfl rfl) (zH (wc_ifF rfl rfl (zK ?_)))))))
    first
    | exact ⟨(true, _, H1), sub_cons rfl (sub_cons rfl (subR rfl)), hn, hl1, hS.keep⟩
    | exact ⟨(false, m, _), sub_cons rfl (sub_cons rfl (subR rfl)), hn, hb0, (by have h := hS.keep (T := ((p, rlO ps pr m) :: (Hs ++ Hr)) :: [(b3, .cells (fv f).cells 42)] :: Ls); exact h)⟩
  clear hS hb0 hs hr
  rintro ⟨a, k, H⟩ w ⟨⟨hk, hkl, ha, hq1, hq2⟩, hb, hS⟩
  have hb0 := hb
  have hSH := hS
  obtain ⟨ps, pr, Hs, Hr, hs, hr, rfl⟩ := hb
  replace hS := hS.un2
  refine zQ (zQ (zW hS (fun w => w.cell? ⟨b3, 0, none⟩ = some (.int .i64 f.ep) ∧ w.cell? ⟨p, 0, none⟩ = some (.int .i64 k.ep)) [] wide_ rfl fun w hS => zPf 0 1 fl_42_0 rfl (zPm 2 5 rfl (zPn 3 13 rfl (zPf 4 29 fl_140_0 rfl (zD 1 31 rfl ⟨hS.c, hS.c⟩ (fun w hS => y_load pl_3 rfl hS.1) (zD 5 63 rfl ⟨hS.c, hS.c⟩ (fun w hS => y_load pl_3 rfl hS.2) (zP 6 127 rfl (fun w => y_neq rfl rfl) (zH (zIf rfl (fun hc29 => ?_) fun hc29 => ?_))))))))))
  · obtain ⟨q1, q2⟩ := hq2 (by omega)
    rw [q1, q2]
    refine zQ (zR (zA rfl (zE (zV (z1 rfl ?_)))))
    first
    | exact ⟨M, _, Mle.refl _, rfl, hb0, (by have h := hS.keep (T := ((p, rlO ps pr k) :: (Hs ++ Hr)) :: Ls); exact h)⟩
    | exact ⟨M, _, Mle.refl _, congrArg Value.bool ha, ⟨ps, pr, Hs1, Hr, hs1, hr, rfl⟩, (by have h := hS.keep (T := ((p, rlO ps pr k) :: (Hs1 ++ Hr)) :: Ls); exact h)⟩
    | exact ⟨M1, _, hM1, congrArg Value.bool ha, ⟨ps, pr, Hs1, Hr1, hs1.mono hM1, hr1, rfl⟩, (by have h := hS.keep (T := ((p, rlO ps pr k) :: (Hs1 ++ Hr1)) :: Ls); exact h)⟩
  have q1 := hq1 (by omega)
  rw [q1]
  refine zK (zQ (zW hS (fun w => w.cell? ⟨p, 1, none⟩ = some (.pointer (some ⟨ps, 0, none⟩)) ∧ w.cell? ⟨b3, 2, none⟩ = some (.int .i64 f.ack)) [] wide_ rfl fun w hS => zPm 0 1 rfl (zPn 1 3 rfl (zPf 2 7 fl_140_1 rfl (zPf 4 23 fl_42_2 rfl (zD 3 31 rfl ⟨hS.c, hS.c⟩ (fun w hS => y_load pl_137 rfl hS.1) (zD 5 63 rfl ⟨hS.c, hS.c⟩ (fun w hS => y_load pl_3 rfl hS.2) (zU 6 127 rfl (wl_call (.cons rfl (.cons rfl .nil)) (r10ack_c f.ack hk.2.1 hs (hS.pull Hs)) rfl ?_)))))))))
  rintro _ w ⟨_, Hs1, rfl, hs1, hS⟩
  refine zE ⟨fun _ _ => ⟨hS.c, hS.c⟩, zH (zQ (zQ (zR (zF fl_42_1 rfl (wl (y_load pl_3 rfl (hS.c (v := .int .i64 f.seq))) rfl (wl (y_gtr rfl rfl) rfl (zE (zIf rfl (fun hc39 => ?_) fun hc39 => ?_))))))))⟩
  · have q2 : k.hear2 f = ⟨k.ep, k.s.ack f.ack, k.r.hear f.seq f.data, k.win, k.room, k.pas⟩ := by unfold Lnk.hear2; rw [if_neg (by omega)]
    rw [q2]
    refine zW hS (fun w => w.cell? ⟨p, 2, none⟩ = some (.pointer (some ⟨pr, 0, none⟩)) ∧ w.cell? ⟨b3, 1, none⟩ = some (.int .i64 f.seq) ∧ w.cell? ⟨b3, 3, none⟩ = some (.string f.data)) [] wide_ rfl fun w hS => zPm 0 1 rfl (zPn 1 3 rfl (zPf 2 7 fl_140_2 rfl (zPf 4 23 fl_42_1 rfl (zPf 6 87 fl_42_3 rfl (zD 3 95 rfl ⟨hS.c, hS.c, hS.c⟩ (fun w hS => y_load pl_138 rfl hS.1) (zD 5 127 rfl ⟨hS.c, hS.c, hS.c⟩ (fun w hS => y_load pl_3 rfl hS.2.1) (zD 7 255 rfl ⟨hS.c, hS.c, hS.c⟩ (fun w hS => y_load pl_9 rfl hS.2.2) (zU 8 511 rfl (wl_call (.cons rfl (.cons rfl (.cons rfl .nil))) (r11hear_c f.seq hseq.2 f.data hkl hk.2.2 hr (hS.pull Hr)) rfl ?_)))))))))
    rintro _ w ⟨M1, Hr1, hM1, rfl, hr1, hS⟩
    refine zE ⟨fun _ _ => ⟨hS.c, hS.c, hS.c⟩, zH (zQ (zR (zM rfl (zA rfl (zE (zV (z1 rfl ?_)))))))⟩
    first
    | exact ⟨M, _, Mle.refl _, rfl, hb0, (by have h := hS.keep (T := ((p, rlO ps pr k) :: (Hs ++ Hr)) :: Ls); exact h)⟩
    | exact ⟨M, _, Mle.refl _, congrArg Value.bool ha, ⟨ps, pr, Hs1, Hr, hs1, hr, rfl⟩, (by have h := hS.keep (T := ((p, rlO ps pr k) :: (Hs1 ++ Hr)) :: Ls); exact h)⟩
    | exact ⟨M1, _, hM1, congrArg Value.bool ha, ⟨ps, pr, Hs1, Hr1, hs1.mono hM1, hr1, rfl⟩, (by have h := hS.keep (T := ((p, rlO ps pr k) :: (Hs1 ++ Hr1)) :: Ls); exact h)⟩
  have q2 : k.hear2 f = ⟨k.ep, k.s.ack f.ack, k.r, k.win, k.room, k.pas⟩ := by unfold Lnk.hear2; rw [if_pos (by omega)]
  rw [q2]
  refine zK (zQ (zR (zM rfl (zA rfl (zE (zV (z1 rfl ?_)))))))
  first
  | exact ⟨M, _, Mle.refl _, rfl, hb0, (by have h := hS.keep (T := ((p, rlO ps pr k) :: (Hs ++ Hr)) :: Ls); exact h)⟩
  | exact ⟨M, _, Mle.refl _, congrArg Value.bool ha, ⟨ps, pr, Hs1, Hr, hs1, hr, rfl⟩, (by have h := hS.keep (T := ((p, rlO ps pr k) :: (Hs1 ++ Hr)) :: Ls); exact h)⟩
  | exact ⟨M1, _, hM1, congrArg Value.bool ha, ⟨ps, pr, Hs1, Hr1, hs1.mono hM1, hr1, rfl⟩, (by have h := hS.keep (T := ((p, rlO ps pr k) :: (Hs1 ++ Hr1)) :: Ls); exact h)⟩
end
end Go.Proofs.YtndahppmjdbifaaGreatDoor.Ref
set_option linter.unusedVariables false
set_option linter.unusedSimpArgs false
namespace Go.Proofs.YtndahppmjdbifaaGreatDoor.Ref
open Go Go.Proofs Eng Snd Lnk Fra Val Rou Jnl Cli
section
variable {M : Mem} {w : World} {Ls : List Chunk}
theorem r12frames_c {p : Nat} {m : Lnk} {H : Chunk} (hm : m.ok) (hl : m.s.all.length ≤ 1125899906842624) (hb : IsRL M p m H) (hS : St M w (H :: Ls)) :
    CallsR Tryz.prog 100 [.pointer (some ⟨p, 0, none⟩)].toArray w fun v w' => ∃ H', Own 42 encF v m.frames H' ∧ St M w' (H' :: H :: Ls) := by
  have hb0 := hb
  obtain ⟨ps, pr, Hs, Hr, hs, hr, rfl⟩ := hb
  obtain ⟨hm1, hm2, hm3⟩ := hm
  have hm3' := hm3
  obtain ⟨_, _, k3, _, k5⟩ := hm3'
  have hpl := pieces_length m.s
  have hpl2 : m.s.pieces.length ≤ 16 := by
    obtain ⟨_, a2, _, _, _, a6⟩ := hm2
    omega
  have hpd : (m.s.all.drop m.s.acked).length = m.s.pieces.length := by rw [hpl, List.length_drop]
  obtain ⟨rs, hrs, hHr⟩ := hr
  obtain ⟨hrs, ra, rc_, rfl, _⟩ := hrs
  obtain ⟨ss, hss, hHs⟩ := hs
  subst hHr hHs
  have hsR : IsRS M ps m.s [(ps, rsO m.s ss)] := ⟨ss, hss, rfl⟩
  replace hS := hS.un2
  unfold Lnk.frames
  refine zC 74 Tryz.func100 rfl (zQ (zR (zA rfl (zE (zQ (zR (a_bslice encF [] (vs := []) (ps := []) Tryz.underlying106 sz_42 z_42 rfl .nil rfl rfl rfl (by decide) hS rfl fun u0 H0 w o0 hS => zA rfl (zE (zQ (zQ (zR (zM rfl (zN rfl (zF fl_140_0 rfl (wl (y_load pl_3 rfl (hS.c (v := .int .i64 m.ep))) rfl (wl (y_eql rfl rfl) rfl (zE (zIf rfl (fun hc11 => ?_) fun hc11 => ?_))))))))))))))))))
  · rw [if_pos (by omega)]
    refine zQ (zR (zM rfl (zA rfl (zE (zV (z1 rfl ?_))))))
    first
    | exact ⟨_, o0, (by have h := hS.keep (T := H0 :: ((p, rlO ps pr m) :: ([(ps, rsO m.s ss)] ++ [(pr, rrO m.r (.slice ra m.r.all.length rc_))])) :: Ls); exact h)⟩
    | exact ⟨_, o4, (by have h := hS.keep (T := H4 :: ((p, rlO ps pr m) :: ([(ps, rsO m.s ss)] ++ [(pr, rrO m.r (.slice ra m.r.all.length rc_))])) :: Ls); exact h)⟩
  rw [if_neg (by omega)]
  refine zK (zQ (zR (zM rfl (zN rfl (zF fl_140_1 rfl (wl (y_load pl_137 rfl (hS.c (v := .pointer (some ⟨ps, 0, none⟩)))) rfl (wl_call (.cons rfl .nil) (r10left_c hm2 hsR (hS.pull [(ps, rsO m.s ss)])) rfl ?_)))))))
  rintro vp w ⟨Hp, hop, hS⟩
  obtain ⟨pa, pc, rfl⟩ := hop.slice
  rw [hpd]
  refine zA rfl (zE (zQ (zQ (zR (zA rfl (zE (zB (wc_loop (α := Nat × Value × Chunk) (fun ⟨i, s, H⟩ => [(0, .pointer (some ⟨p, 0, none⟩)), (3, s), (4, .slice pa m.s.pieces.length pc), (5, .int .i64 i)]) (fun ⟨i, s, H⟩ w => i ≤ m.s.pieces.length ∧ Own 42 encF s ((m.s.pieces.take i).map (frm m)) H ∧ St M w (H :: Hp :: [(p, rlO ps pr m)] :: [(ps, rsO m.s ss)] :: [(pr, rrO m.r (.slice ra m.r.all.length rc_))] :: Ls)) (fun ⟨i, _, _⟩ => m.s.pieces.length - i) (0, u0, H0) (sub_cons rfl (sub_cons rfl (sub_cons rfl (subR rfl)))) ⟨by omega, o0, hS.keep⟩ ?_))))))))
  clear hS o0
  rintro ⟨i, s, H0⟩ w ⟨hi, o0, hS⟩
  refine zQ (zQ (zR (zM rfl (zM rfl (wl (y_len_sl Tryz.underlying83 rfl) rfl (wl (y_lss rfl rfl) rfl (zE (zIf rfl (fun hc21 => ?_) fun hc21 => ?_))))))))
  · refine zK ?_
    refine zQ (zB ?_)
    have hi' : i < m.s.pieces.length := by omega
    obtain ⟨d, hd⟩ : ∃ d, (m.s.all.drop m.s.acked)[i]? = some d := ⟨_, List.getElem?_eq_getElem (by omega)⟩
    have hx : m.s.pieces[i]? = some (m.s.acked + i + 1, d) := pcs_at _ _ _ _ hd
    have htk : (m.s.pieces.take (i + 1)).map (frm m) = (m.s.pieces.take i).map (frm m) ++ [frm m (m.s.acked + i + 1, d)] := by rw [List.take_add_one, hx]; simp
    obtain ⟨bb, off, c', hse, hce⟩ := (hop.holds (hS.pull Hp)).at hd
    rw [hpd] at hse
    simp only [Value.slice.injEq] at hse
    have hSk := hS
    obtain ⟨rfl, _, rfl⟩ := hse
    replace hS := hSk
    obtain ⟨sa, sc, rfl⟩ := o0.slice
    refine zW hS (fun w => w.cell? ⟨p, 0, none⟩ = some (.int .i64 m.ep) ∧ w.cell? ⟨p, 1, none⟩ = some (.pointer (some ⟨ps, 0, none⟩)) ∧ w.cell? ⟨ps, 3, none⟩ = some (.int .i64 m.s.acked) ∧ w.cell? ⟨p, 2, none⟩ = some (.pointer (some ⟨pr, 0, none⟩)) ∧ w.cell? ⟨pr, 1, none⟩ = some (.slice ra m.r.all.length rc_) ∧ CellsAt w bb (off + i * encS.k) (encS.f d)) [] wide_ rfl fun w hS => zPm 0 1 rfl (zPm 1 3 rfl (zPn 2 7 rfl (zPf 3 15 fl_140_0 rfl (zPm 5 47 rfl (zPn 6 111 rfl (zPf 7 239 fl_140_1 rfl (zPm 12 4335 rfl (zPm 15 37103 rfl (zPn 16 102639 rfl (zPf 17 233711 fl_140_2 rfl (zPm 23 8622319 rfl (zPm 24 25399535 rfl (zP 25 58953967 rfl (fun w => y_ixa_sl Tryz.underlying83 sz_9 rfl rfl (by omega) (by omega)) (zD 4 58953983 rfl ⟨hS.c, hS.c, hS.c, hS.c, hS.c, (hop.holds (hS.pull Hp)).cells hd⟩ (fun w hS => y_load pl_3 rfl hS.1) (zD 8 58954239 rfl ⟨hS.c, hS.c, hS.c, hS.c, hS.c, (hop.holds (hS.pull Hp)).cells hd⟩ (fun w hS => y_load pl_137 rfl hS.2.1) (zPn 9 58954751 rfl (zPf 10 58955775 fl_206_3 rfl (zD 11 58957823 rfl ⟨hS.c, hS.c, hS.c, hS.c, hS.c, (hop.holds (hS.pull Hp)).cells hd⟩ (fun w hS => y_load pl_3 rfl hS.2.2.1) (zP 13 58966015 rfl (fun w => (y_add rfl rfl (w64 (by omega) (by omega))).val (u := .int .i64 ((m.s.acked + i : Nat) : Int)) (congrArg (Value.int .i64) (by omega))) (zP 14 58982399 rfl (fun w => (y_add rfl rfl (w64 (by omega) (by omega))).val (u := .int .i64 ((m.s.acked + i + 1 : Nat) : Int)) (congrArg (Value.int .i64) (by omega))) (zD 18 59244543 rfl ⟨hS.c, hS.c, hS.c, hS.c, hS.c, (hop.holds (hS.pull Hp)).cells hd⟩ (fun w hS => y_load pl_138 rfl hS.2.2.2.1) (zPn 19 59768831 rfl (zPf 20 60817407 fl_202_1 rfl (zD 21 62914559 rfl ⟨hS.c, hS.c, hS.c, hS.c, hS.c, (hop.holds (hS.pull Hp)).cells hd⟩ (fun w hS => y_load pl_83 rfl hS.2.2.2.2.1) (zP 22 67108863 rfl (fun w => y_len_sl Tryz.underlying83 rfl) (zD 26 134217727 rfl ⟨hS.c, hS.c, hS.c, hS.c, hS.c, (hop.holds (hS.pull Hp)).cells hd⟩ (fun w hS => y_load pl_9 rfl hS.2.2.2.2.2.one) (zP 27 268435455 rfl (fun w => y_build (is := [0, 1, 2, 3]) (xs := [_, _, _, _]) (out := [_, _, _, _]) plc_42 z_42 (.cons rfl (.cons rfl (.cons rfl (.cons rfl .nil)))) rfl) (zU 28 536870911 rfl (a_bslice encF [frm m (m.s.acked + i + 1, d)] Tryz.underlying106 sz_42 z_42 rfl (.cons rfl .nil) rfl rfl rfl (by decide) hS rfl fun u1 H1 w o1 hS => zE ⟨fun _ _ => ⟨hS.c, hS.c, hS.c, hS.c, hS.c, (hop.holds (hS.pull Hp)).cells hd⟩, zU 29 1073741823 rfl (a_append Tryz.underlying106 Tryz.underlying106 sz_42 z_42 rfl by_42 (by decide) rfl rfl o0 (o1.holds hS) (hS.pull H0) (by simp; omega) rfl fun s2 H2 w o2 hS => ?_)⟩)))))))))))))))))))))))))))))
    try rw [List.nil_append] at o2
    rw [← htk] at o2
    refine zE ⟨fun _ _ => ⟨hS.c, hS.c, hS.c, hS.c, hS.c, (hop.holds (hS.pull Hp)).cells hd⟩, zPa 30 2147483647 rfl (zH (zR (zM rfl (wl (y_add rfl rfl (w64 (by omega) (by omega))) rfl (zA rfl (zE ?_))))))⟩
    exact ⟨(i + 1, _, H2), by simp only; omega, sub_cons rfl (sub_cons rfl (sub_cons rfl (subR rfl))), by omega, o2, hS.keep⟩
  obtain rfl : i = m.s.pieces.length := by omega
  rw [List.take_length] at o0
  obtain ⟨sa, sc, rfl⟩ := o0.slice
  refine wc_exit (zQ (zQ (zR (zM rfl (wl (y_len_sl Tryz.underlying83 rfl) rfl (wl (y_eql rfl rfl) rfl (zE (zIf rfl (fun hc56 => ?_) fun hc56 => ?_))))))))
  · have hnil : m.s.pieces = [] := List.length_eq_zero_iff.1 (by omega)
    rw [if_pos hnil]
    refine zW hS (fun w => w.cell? ⟨p, 0, none⟩ = some (.int .i64 m.ep) ∧ w.cell? ⟨p, 2, none⟩ = some (.pointer (some ⟨pr, 0, none⟩)) ∧ w.cell? ⟨pr, 1, none⟩ = some (.slice ra m.r.all.length rc_)) [] wide_ rfl fun w hS => zPm 0 1 rfl (zPm 1 3 rfl (zPn 2 7 rfl (zPf 3 15 fl_140_0 rfl (zPm 5 47 rfl (zPn 6 111 rfl (zPf 7 239 fl_140_2 rfl (zD 4 255 rfl ⟨hS.c, hS.c, hS.c⟩ (fun w hS => y_load pl_3 rfl hS.1) (zD 8 511 rfl ⟨hS.c, hS.c, hS.c⟩ (fun w hS => y_load pl_138 rfl hS.2.1) (zPn 9 1023 rfl (zPf 10 2047 fl_202_1 rfl (zD 11 4095 rfl ⟨hS.c, hS.c, hS.c⟩ (fun w hS => y_load pl_83 rfl hS.2.2) (zP 12 8191 rfl (fun w => y_len_sl Tryz.underlying83 rfl) (zP 13 16383 rfl (fun w => y_build (is := [0, 2]) (xs := [_, _]) (out := [_, _, _, _]) plc_42 z_42 (.cons rfl (.cons rfl .nil)) rfl) (zU 14 32767 rfl (a_bslice encF [⟨m.ep, 0, m.r.all.length, ByteArray.empty⟩] Tryz.underlying106 sz_42 z_42 rfl (.cons rfl .nil) rfl rfl rfl (by decide) hS rfl fun u3 H3 w o3 hS => zE ⟨fun _ _ => ⟨hS.c, hS.c, hS.c⟩, zU 15 65535 rfl (a_append Tryz.underlying106 Tryz.underlying106 sz_42 z_42 rfl by_42 (by decide) rfl rfl o0 (o3.holds hS) (hS.pull H0) (by simp; omega) rfl fun s4 H4 w o4 hS => ?_)⟩)))))))))))))))
    try rw [List.nil_append] at o4
    rw [hnil, List.map_nil, List.nil_append] at o4
    refine zE ⟨fun _ _ => ⟨hS.c, hS.c, hS.c⟩, zPa 16 131071 rfl (zH (zQ (zR (zM rfl (zA rfl (zE (zV (z1 rfl ?_))))))))⟩
    first
    | exact ⟨_, o0, (by have h := hS.keep (T := H0 :: ((p, rlO ps pr m) :: ([(ps, rsO m.s ss)] ++ [(pr, rrO m.r (.slice ra m.r.all.length rc_))])) :: Ls); exact h)⟩
    | exact ⟨_, o4, (by have h := hS.keep (T := H4 :: ((p, rlO ps pr m) :: ([(ps, rsO m.s ss)] ++ [(pr, rrO m.r (.slice ra m.r.all.length rc_))])) :: Ls); exact h)⟩
  rw [if_neg (fun h => hc56 (by rw [h] <;> rfl))]
  refine zK (zQ (zR (zM rfl (zA rfl (zE (zV (z1 rfl ?_)))))))
  first
  | exact ⟨_, o0, (by have h := hS.keep (T := H0 :: ((p, rlO ps pr m) :: ([(ps, rsO m.s ss)] ++ [(pr, rrO m.r (.slice ra m.r.all.length rc_))])) :: Ls); exact h)⟩
  | exact ⟨_, o4, (by have h := hS.keep (T := H4 :: ((p, rlO ps pr m) :: ([(ps, rsO m.s ss)] ++ [(pr, rrO m.r (.slice ra m.r.all.length rc_))])) :: Ls); exact h)⟩
end
end Go.Proofs.YtndahppmjdbifaaGreatDoor.Ref
set_option linter.unusedVariables false
set_option linter.unusedSimpArgs false
namespace Go.Proofs.YtndahppmjdbifaaGreatDoor.Ref
open Go Go.Proofs Eng Snd Lnk Fra Val Rou Jnl Cli
abbrev rjO (m : Jnl) (s : Value) : Obj := .cells #[.int .i64 m.origin, .int .i64 m.last, s] 87
def IsRJ (M : Mem) (p : Nat) (m : Jnl) (H : Chunk) : Prop := ∃ xs s, Rdc M encRV s xs ∧ Rvs M xs m.l ∧ H = [(p, rjO m s)]
theorem IsRJ.mono {M M' : Mem} {p : Nat} {m : Jnl} {H : Chunk} (h : IsRJ M p m H) (hm : Mle M M') : IsRJ M' p m H := by
  obtain ⟨xs, s, h1, h2, h3⟩ := h
  exact ⟨xs, s, h1.mono hm, h2.mono hm, h3⟩
abbrev rcO (jp : Nat) (m : Cli) (sk sp so : Value) : Obj := .cells #[.pointer (some ⟨jp, 0, none⟩), .int .i64 m.origin, .int .i64 m.mtu, .int .i64 m.push, sk, sp, so] 85
def IsRC (M : Mem) (p jp : Nat) (m : Cli) (H : Chunk) : Prop :=
  ∃ xs sk ys sp so, Rdc M encRV sk xs ∧ Rvs M xs m.known ∧ Rdc M encRV sp ys ∧ Rvs M ys m.pending ∧ Rdc M encU so m.opn ∧ H = [(p, rcO jp m sk sp so)]
theorem IsRC.mono {M M' : Mem} {p jp : Nat} {m : Cli} {H : Chunk} (h : IsRC M p jp m H) (hm : Mle M M') : IsRC M' p jp m H := by
  obtain ⟨xs, sk, ys, sp, so, h1, h2, h3, h4, h5, h6⟩ := h
  exact ⟨xs, sk, ys, sp, so, h1.mono hm, h2.mono hm, h3.mono hm, h4.mono hm, h5.mono hm, h6⟩
section
variable {M : Mem} {w : World} {Ls : List Chunk}
theorem r13new_c (origin last : Int) (hS : St M w Ls) : CallsR Tryz.prog 85 [.int .i64 origin, .int .i64 last].toArray w fun v w' => ∃ p H, v = .pointer (some ⟨p, 0, none⟩) ∧ IsRJ M p (Jnl.new origin last) H ∧ St M w' (H :: Ls) := by
  refine zC 13 Tryz.func85 rfl (zQ (zR (zA rfl (zE (zQ (zQ (zR (zM rfl (wl (y_lss rfl rfl) rfl (zE (zIf rfl (fun hc6 => ?_) fun hc6 => ?_)))))))))))
  · refine zR ?_
    refine zA rfl (zE (wc_cut (α := Unit) (fun _ => [(0, .int .i64 origin), (1, .int .i64 ((min (max last 1) 1099511627776).toNat : Nat))]) (fun _ w => St M w Ls) ?_ ?_))
    · refine zQ ?_
      refine zR (zM rfl (wl (y_gtr rfl rfl) rfl (zE (zIf rfl (fun hc8 => ?_) fun hc8 => ?_))))
      · refine zR ?_
        refine zA rfl (zE ?_)
        exact ⟨(), sub_cons rfl (sub_cons (congrArg (fun n : Int => some (Value.int .i64 n)) (by omega)) sub_nil), hS⟩
      refine zK ?_
      exact ⟨(), sub_cons rfl (sub_cons (congrArg (fun n : Int => some (Value.int .i64 n)) (by omega)) sub_nil), hS⟩
    clear hS
    rintro _ w hS
    refine zQ (zR (zM rfl (zM rfl (wl (y_build (is := [0, 1]) (xs := [_, _]) (out := [_, _, _]) plc_87 z_87 (.cons rfl (.cons rfl .nil)) rfl) rfl (a_box rfl hS rfl fun b12 w hS => zA rfl (zE (zV (z1 rfl ?_))))))))
    exact ⟨_, _, rfl, ⟨[], .slice none 0 0, Rdc.nil, .nil, rfl⟩, hS⟩
  refine zK ?_
  refine wc_cut (α := Unit) (fun _ => [(0, .int .i64 origin), (1, .int .i64 ((min (max last 1) 1099511627776).toNat : Nat))]) (fun _ w => St M w Ls) ?_ ?_
  · refine zQ ?_
    refine zR (zM rfl (wl (y_gtr rfl rfl) rfl (zE (zIf rfl (fun hc8 => ?_) fun hc8 => ?_))))
    · refine zR ?_
      refine zA rfl (zE ?_)
      exact ⟨(), sub_cons rfl (sub_cons (congrArg (fun n : Int => some (Value.int .i64 n)) (by omega)) sub_nil), hS⟩
    refine zK ?_
    exact ⟨(), sub_cons rfl (sub_cons (congrArg (fun n : Int => some (Value.int .i64 n)) (by omega)) sub_nil), hS⟩
  clear hS
  rintro _ w hS
  refine zQ (zR (zM rfl (zM rfl (wl (y_build (is := [0, 1]) (xs := [_, _]) (out := [_, _, _]) plc_87 z_87 (.cons rfl (.cons rfl .nil)) rfl) rfl (a_box rfl hS rfl fun b12 w hS => zA rfl (zE (zV (z1 rfl ?_))))))))
  exact ⟨_, _, rfl, ⟨[], .slice none 0 0, Rdc.nil, .nil, rfl⟩, hS⟩
theorem r13add_c {p : Nat} {m : Jnl} {H : Chunk} (ups : List Upd) (s0 : Value) (hu : Rd M encU s0 ups) (hul : ups.length ≤ 137438953) (hl : m.l.length ≤ 137438953 ∧ m.l.length ≤ m.last) (hb : IsRJ M p m H) (hS : St M w (H :: Ls)) :
    CallsR Tryz.prog 149 [.pointer (some ⟨p, 0, none⟩), s0].toArray w fun v w' => ∃ M' s' H', Mle M M' ∧ Rd M' encU s' (if m.addE ups = 0 then ups else []) ∧ v = .tuple [rvS (if m.addE ups = 0 then m.next ups else ⟨0, 0, []⟩) s', .int .i64 (m.addE ups)].toArray ∧ IsRJ M' p (m.add ups) H' ∧ St M' w' (H' :: Ls) := by
  have hb0 := hb
  have hu0 := hu
  obtain ⟨xs, s, ho, hr, rfl⟩ := hb
  have hlen := hr.len
  obtain ⟨ho, sa, sc, rfl, hcap⟩ := ho
  obtain ⟨ua, uc, rfl⟩ := (hu.holds hS).slice
  refine zC 52 Tryz.func149 rfl (zQ (zR (a_alloc z_48 hS rfl fun b4 w hS => zA rfl (zE (zQ (zQ (zW hS (fun w => w.cell? ⟨p, 2, none⟩ = some (.slice sa xs.length sc) ∧ w.cell? ⟨p, 1, none⟩ = some (.int .i64 m.last)) [] wide_ rfl fun w hS => zPm 0 1 rfl (zPn 1 3 rfl (zPf 2 7 fl_87_2 rfl (zPm 5 39 rfl (zPn 6 103 rfl (zPf 7 231 fl_87_1 rfl (zD 3 239 rfl ⟨hS.c, hS.c⟩ (fun w hS => y_load pl_32 rfl hS.1) (zP 4 255 rfl (fun w => y_len_sl Tryz.underlying32 rfl) (zD 8 511 rfl ⟨hS.c, hS.c⟩ (fun w hS => y_load pl_3 rfl hS.2) (zP 9 1023 rfl (fun w => y_geq rfl rfl) (zH (zIf rfl (fun hc17 => ?_) fun hc17 => ?_))))))))))))))))))
  · have he : m.addE ups = 8 := by unfold Jnl.addE; rw [if_pos (by omega)]
    have hq : m.add ups = m := by unfold Jnl.add; rw [if_neg (by omega)]
    rw [hq, he, if_neg (by decide), if_neg (by decide)]
    refine zQ (zR (wl (y_build (is := []) (xs := []) (out := [_, _, _]) plc_48 z_48 .nil rfl) rfl (zG (vs := [_, _, _]) sz_48 rfl hS fun w hS => zA rfl (zE (zV (wret (vs := [_, _]) (.cell rfl (loadVar_struct st_48 sz_48 (vs := [_, _, _]) rfl (hS.cells rfl)) (.tmp rfl .nil)) ?_))))))
    first
    | exact ⟨M, _, _, Mle.refl _, Rd.nil, rfl, hb0, hS.keep⟩
    | exact ⟨M1, _, _, hM1, Rd.nil, rfl, hb0.mono hM1, hS.keep⟩
    | (simp only [zL, cells_agg, setCells] at hS
       exact ⟨M2, _, _, hM1.trans hM2, hru.mono hM2, rfl, ⟨_, _, r6, hrv, rfl⟩, hS.keep⟩)
  have he : m.addE ups = mayR (m.next ups) := by unfold Jnl.addE; rw [if_neg (by omega)]
  refine zK (wc_cut (α := Mem × Option Addr × Nat × Nat) (fun ⟨_, _, _, b6⟩ => [(0, .pointer (some ⟨p, 0, none⟩)), (4, .pointer (some ⟨b4, 0, none⟩)), (5, .int .i64 0), (6, .pointer (some ⟨b6, 0, none⟩))]) (fun ⟨M1, a2, c2, b6⟩ w => Mle M M1 ∧ RvR M1 ⟨m.origin, (m.l.length : Int) + 1, a2, ups.length, c2⟩ (m.next ups) ∧ St M1 w ([(b6, .cells #[.int .i64 m.origin, .int .i64 ((m.l.length : Int) + 1), .slice a2 ups.length c2] 48)] :: [(b4, .cells #[.int .i64 0, .int .i64 0, .slice none 0 0] 48)] :: [(p, rjO m (.slice sa xs.length sc))] :: Ls)) ?_ ?_)
  · refine zW hS (fun w => w.cell? ⟨p, 0, none⟩ = some (.int .i64 m.origin) ∧ w.cell? ⟨p, 2, none⟩ = some (.slice sa xs.length sc)) [15] wide_ rfl fun w hS => ?_
    refine zPm 0 1 rfl (zPn 1 3 rfl (zPf 2 7 fl_87_0 rfl (zPm 4 23 rfl (zPn 5 55 rfl (zPf 6 119 fl_87_2 rfl (zPm 11 2167 rfl (zD 3 2175 rfl ⟨hS.c, hS.c⟩ (fun w hS => y_load pl_3 rfl hS.1) (zD 7 2303 rfl ⟨hS.c, hS.c⟩ (fun w hS => y_load pl_32 rfl hS.2) (zP 8 2559 rfl (fun w => y_len_sl Tryz.underlying32 rfl) (zP 9 3071 rfl (fun w => (y_add rfl rfl (w64 (by omega) (by omega))).val (u := .int .i64 ((m.l.length : Int) + 1)) (congrArg (Value.int .i64) (by omega))) (dr_do2 (i := 10) (j := 14) (lb 16 4095) (lb 16 19455) rfl rfl (by kernel_rfl) ?_ ?_)))))))))))
    · refine a_bslice encU [] (vs := []) (ps := []) Tryz.underlying46 sz_59 z_59 rfl .nil rfl rfl rfl (by decide) hS rfl fun u1 H1 w o1 hS => ?_
      refine zE ⟨fun _ _ => ⟨hS.c, hS.c⟩, dr_do2 (i := 12) (j := 14) (lb 16 8191) (lb 16 20479) rfl rfl (by kernel_rfl) ?_ ?_⟩
      · refine a_append Tryz.underlying46 Tryz.underlying46 sz_59 z_59 rfl by_59 (by decide) rfl rfl o1 (hu.holds hS) (hS.pull H1) (by simp; omega) rfl fun s2 H2 w o2 hS => ?_
        try rw [List.nil_append] at o2
        obtain ⟨M1, hM1, hF2, hS⟩ := (hS.pull H2).freeze
        have r2 := o2.rdc hF2
        obtain ⟨a2, c2, rfl⟩ := o2.slice
        have hnx : RvR M1 ⟨m.origin, (m.l.length : Int) + 1, a2, ups.length, c2⟩ (m.next ups) := ⟨rfl, rfl, r2.1, by show ups.length ≤ _; omega⟩
        refine zE ⟨fun _ _ => ⟨hS.c, hS.c⟩, zP 13 16383 rfl (fun w => y_build (is := [0, 1, 2]) (xs := [_, _, _]) (out := [_, _, _]) plc_48 z_48 (.cons rfl (.cons rfl (.cons rfl .nil))) rfl) (zU 14 32767 rfl (a_alloc z_48 hS rfl fun b6 w hS => zE ⟨fun _ _ => ⟨hS.c, hS.c⟩, zU 15 65535 rfl (zG (vs := [_, _, _]) sz_48 rfl hS fun w hS => zE ⟨fun h => absurd (by decide) h, zH ?_⟩)⟩))⟩
        simp only [zL, cells_agg, setCells] at hS
        exact ⟨(M1, a2, c2, _), sub_cons rfl (sub_cons rfl (sub_cons rfl (subR rfl))), hM1, hnx, hS.keep⟩
      refine a_alloc z_48 hS rfl fun b6 w hS => ?_
      refine zE ⟨fun _ _ => ⟨hS.c, hS.c⟩, zU 12 24575 rfl (a_append Tryz.underlying46 Tryz.underlying46 sz_59 z_59 rfl by_59 (by decide) rfl rfl o1 (hu.holds hS) (hS.pull H1) (by simp; omega) rfl fun s2 H2 w o2 hS => ?_)⟩
      try rw [List.nil_append] at o2
      obtain ⟨M1, hM1, hF2, hS⟩ := (hS.pull H2).freeze
      have r2 := o2.rdc hF2
      obtain ⟨a2, c2, rfl⟩ := o2.slice
      have hnx : RvR M1 ⟨m.origin, (m.l.length : Int) + 1, a2, ups.length, c2⟩ (m.next ups) := ⟨rfl, rfl, r2.1, by show ups.length ≤ _; omega⟩
      refine zE ⟨fun _ _ => ⟨hS.c, hS.c⟩, zP 13 32767 rfl (fun w => y_build (is := [0, 1, 2]) (xs := [_, _, _]) (out := [_, _, _]) plc_48 z_48 (.cons rfl (.cons rfl (.cons rfl .nil))) rfl) (zU 15 65535 rfl (zG (vs := [_, _, _]) sz_48 rfl hS fun w hS => zE ⟨fun h => absurd (by decide) h, zH ?_⟩))⟩
      simp only [zL, cells_agg, setCells] at hS
      exact ⟨(M1, a2, c2, _), sub_cons rfl (sub_cons rfl (sub_cons rfl (subR rfl))), hM1, hnx, hS.keep⟩
    refine a_alloc z_48 hS rfl fun b6 w hS => ?_
    refine zE ⟨fun _ _ => ⟨hS.c, hS.c⟩, zU 10 20479 rfl (a_bslice encU [] (vs := []) (ps := []) Tryz.underlying46 sz_59 z_59 rfl .nil rfl rfl rfl (by decide) hS rfl fun u1 H1 w o1 hS => zE ⟨fun _ _ => ⟨hS.c, hS.c⟩, zU 12 24575 rfl (a_append Tryz.underlying46 Tryz.underlying46 sz_59 z_59 rfl by_59 (by decide) rfl rfl o1 (hu.holds hS) (hS.pull H1) (by simp; omega) rfl fun s2 H2 w o2 hS => ?_)⟩)⟩
    try rw [List.nil_append] at o2
    obtain ⟨M1, hM1, hF2, hS⟩ := (hS.pull H2).freeze
    have r2 := o2.rdc hF2
    obtain ⟨a2, c2, rfl⟩ := o2.slice
    have hnx : RvR M1 ⟨m.origin, (m.l.length : Int) + 1, a2, ups.length, c2⟩ (m.next ups) := ⟨rfl, rfl, r2.1, by show ups.length ≤ _; omega⟩
    refine zE ⟨fun _ _ => ⟨hS.c, hS.c⟩, zP 13 32767 rfl (fun w => y_build (is := [0, 1, 2]) (xs := [_, _, _]) (out := [_, _, _]) plc_48 z_48 (.cons rfl (.cons rfl (.cons rfl .nil))) rfl) (zU 15 65535 rfl (zG (vs := [_, _, _]) sz_48 rfl hS fun w hS => zE ⟨fun h => absurd (by decide) h, zH ?_⟩))⟩
    simp only [zL, cells_agg, setCells] at hS
    exact ⟨(M1, a2, c2, _), sub_cons rfl (sub_cons rfl (sub_cons rfl (subR rfl))), hM1, hnx, hS.keep⟩
  clear hS
  rintro ⟨M1, a2, c2, b6⟩ w ⟨hM1, hnx, hS⟩
  have hru := hnx.2.2.1
  refine zQ (zQ (zR (wl ((y_loadS st_48 sz_48 rfl (vs := [.int .i64 m.origin, .int .i64 ((m.l.length : Int) + 1), .slice a2 ups.length c2]) (hS.cells rfl) rfl).val (show _ = rvS (m.next ups) (.slice a2 ups.length c2) from rfl)) rfl (wl_call (.cons rfl .nil) (r7may_c (m.next ups) _ hru hS) rfl ?_))))
  rintro _ w ⟨rfl, hS⟩
  refine zA rfl (zE (zQ (zR (zM rfl (wl (y_neq rfl rfl) rfl (zE (zIf rfl (fun hc36 => ?_) fun hc36 => ?_)))))))
  · have hq : m.add ups = m := by unfold Jnl.add; rw [if_neg (by omega)]
    rw [hq, he, if_neg (by omega), if_neg (by omega)]
    refine zQ (zR (wl (y_build (is := []) (xs := []) (out := [_, _, _]) plc_48 z_48 .nil rfl) rfl (zM rfl (zG (vs := [_, _, _]) sz_48 rfl hS fun w hS => zA rfl (zE (zV (wret (vs := [_, _]) (.cell rfl (loadVar_struct st_48 sz_48 (vs := [_, _, _]) rfl (hS.cells rfl)) (.tmp rfl .nil)) ?_)))))))
    first
    | exact ⟨M, _, _, Mle.refl _, Rd.nil, rfl, hb0, hS.keep⟩
    | exact ⟨M1, _, _, hM1, Rd.nil, rfl, hb0.mono hM1, hS.keep⟩
    | (simp only [zL, cells_agg, setCells] at hS
       exact ⟨M2, _, _, hM1.trans hM2, hru.mono hM2, rfl, ⟨_, _, r6, hrv, rfl⟩, hS.keep⟩)
  have hz : m.addE ups = 0 := by omega
  have hq : m.add ups = ⟨m.origin, m.last, m.l ++ [m.next ups]⟩ := by unfold Jnl.add; rw [if_pos hz]
  rw [hq, hz, if_pos rfl, if_pos rfl]
  refine zK (zQ (zW hS (fun w => w.cell? ⟨p, 2, none⟩ = some (.slice sa xs.length sc) ∧ CellsAt w b6 0 [.int .i64 m.origin, .int .i64 ((m.l.length : Int) + 1), .slice a2 ups.length c2]) [12] wide_ rfl fun w hS => zPm 0 1 rfl (zPm 2 5 rfl (zPn 3 13 rfl (zPf 4 29 fl_87_2 rfl (zD 5 61 rfl ⟨hS.c, hS.cells rfl⟩ (fun w hS => y_load pl_32 rfl hS.1) (zD 7 189 rfl ⟨hS.c, hS.cells rfl⟩ (fun w hS => y_loadS st_48 sz_48 rfl hS.2 rfl) (dr_do2 (i := 1) (j := 8) (lb 13 191) (lb 13 445) rfl rfl (by kernel_rfl) ?_ ?_))))))))
  · refine a_bslice encRV [] (vs := []) (ps := []) Tryz.underlying32 sz_48 z_48 rfl .nil rfl rfl rfl (by decide) hS rfl fun u3 H3 w o3 hS => ?_
    refine zE ⟨fun _ _ => ⟨hS.c, hS.cells rfl⟩, dr_do2 (i := 6) (j := 8) (lb 13 255) (lb 13 447) rfl rfl (by kernel_rfl) ?_ ?_⟩
    · refine a_append Tryz.underlying32 Tryz.underlying32 sz_48 z_48 rfl by_48 (by decide) rfl rfl o3 ((ho.mono hM1).holds hS) (hS.pull H3) (by simp; omega) rfl fun s4 H4 w o4 hS => ?_
      try rw [List.nil_append] at o4
      refine zE ⟨fun _ _ => ⟨hS.c, hS.cells rfl⟩, zU 8 511 rfl (a_bslice encRV [⟨m.origin, (m.l.length : Int) + 1, a2, ups.length, c2⟩] Tryz.underlying32 sz_48 z_48 rfl (.cons rfl .nil) rfl rfl rfl (by decide) hS rfl fun u5 H5 w o5 hS => zE ⟨fun _ _ => ⟨hS.c, hS.cells rfl⟩, zU 9 1023 rfl (a_append Tryz.underlying32 Tryz.underlying32 sz_48 z_48 rfl by_48 (by decide) rfl rfl o4 (o5.holds (hS.pull H5)) (hS.pull H4) (by simp; omega) rfl fun s6 H6 w o6 hS => ?_)⟩)⟩
      obtain ⟨M2, hM2, hF6, hS⟩ := (hS.pull H6).freeze
      have r6 := o6.rdc hF6
      obtain ⟨a6, c6, rfl⟩ := o6.slice
      have hrv := ((hr.mono hM1).mono hM2).append (.cons (hnx.mono hM2) .nil)
      refine zE ⟨fun _ _ => ⟨hS.c, hS.cells rfl⟩, zPn 10 2047 rfl (zPf 11 4095 fl_87_2 rfl (zU 12 8191 rfl (zS sz_32 rfl hS fun w hS => zE ⟨fun h => absurd (by decide) h, zH (zQ (zR (wl (y_loadS st_48 sz_48 rfl (vs := [.int .i64 m.origin, .int .i64 ((m.l.length : Int) + 1), .slice a2 ups.length c2]) (hS.cells rfl) rfl) rfl (zG (vs := [_, _, _]) sz_48 rfl hS fun w hS => zA rfl (zE (zV (wret (vs := [_, _]) (.cell rfl (loadVar_struct st_48 sz_48 (vs := [_, _, _]) rfl (hS.cells rfl)) (.tmp rfl .nil)) ?_)))))))⟩)))⟩
      first
      | exact ⟨M, _, _, Mle.refl _, Rd.nil, rfl, hb0, hS.keep⟩
      | exact ⟨M1, _, _, hM1, Rd.nil, rfl, hb0.mono hM1, hS.keep⟩
      | (simp only [zL, cells_agg, setCells] at hS
         exact ⟨M2, _, _, hM1.trans hM2, hru.mono hM2, rfl, ⟨_, _, r6, hrv, rfl⟩, hS.keep⟩)
    refine a_bslice encRV [⟨m.origin, (m.l.length : Int) + 1, a2, ups.length, c2⟩] Tryz.underlying32 sz_48 z_48 rfl (.cons rfl .nil) rfl rfl rfl (by decide) hS rfl fun u5 H5 w o5 hS => ?_
    refine zE ⟨fun _ _ => ⟨hS.c, hS.cells rfl⟩, zU 6 511 rfl (a_append Tryz.underlying32 Tryz.underlying32 sz_48 z_48 rfl by_48 (by decide) rfl rfl o3 ((ho.mono hM1).holds hS) (hS.pull H3) (by simp; omega) rfl fun s4 H4 w o4 hS => ?_)⟩
    try rw [List.nil_append] at o4
    refine zE ⟨fun _ _ => ⟨hS.c, hS.cells rfl⟩, zU 9 1023 rfl (a_append Tryz.underlying32 Tryz.underlying32 sz_48 z_48 rfl by_48 (by decide) rfl rfl o4 (o5.holds (hS.pull H5)) (hS.pull H4) (by simp; omega) rfl fun s6 H6 w o6 hS => ?_)⟩
    obtain ⟨M2, hM2, hF6, hS⟩ := (hS.pull H6).freeze
    have r6 := o6.rdc hF6
    obtain ⟨a6, c6, rfl⟩ := o6.slice
    have hrv := ((hr.mono hM1).mono hM2).append (.cons (hnx.mono hM2) .nil)
    refine zE ⟨fun _ _ => ⟨hS.c, hS.cells rfl⟩, zPn 10 2047 rfl (zPf 11 4095 fl_87_2 rfl (zU 12 8191 rfl (zS sz_32 rfl hS fun w hS => zE ⟨fun h => absurd (by decide) h, zH (zQ (zR (wl (y_loadS st_48 sz_48 rfl (vs := [.int .i64 m.origin, .int .i64 ((m.l.length : Int) + 1), .slice a2 ups.length c2]) (hS.cells rfl) rfl) rfl (zG (vs := [_, _, _]) sz_48 rfl hS fun w hS => zA rfl (zE (zV (wret (vs := [_, _]) (.cell rfl (loadVar_struct st_48 sz_48 (vs := [_, _, _]) rfl (hS.cells rfl)) (.tmp rfl .nil)) ?_)))))))⟩)))⟩
    first
    | exact ⟨M, _, _, Mle.refl _, Rd.nil, rfl, hb0, hS.keep⟩
    | exact ⟨M1, _, _, hM1, Rd.nil, rfl, hb0.mono hM1, hS.keep⟩
    | (simp only [zL, cells_agg, setCells] at hS
       exact ⟨M2, _, _, hM1.trans hM2, hru.mono hM2, rfl, ⟨_, _, r6, hrv, rfl⟩, hS.keep⟩)
  refine a_bslice encRV [⟨m.origin, (m.l.length : Int) + 1, a2, ups.length, c2⟩] Tryz.underlying32 sz_48 z_48 rfl (.cons rfl .nil) rfl rfl rfl (by decide) hS rfl fun u5 H5 w o5 hS => ?_
  refine zE ⟨fun _ _ => ⟨hS.c, hS.cells rfl⟩, zU 1 447 rfl (a_bslice encRV [] (vs := []) (ps := []) Tryz.underlying32 sz_48 z_48 rfl .nil rfl rfl rfl (by decide) hS rfl fun u3 H3 w o3 hS => zE ⟨fun _ _ => ⟨hS.c, hS.cells rfl⟩, zU 6 511 rfl (a_append Tryz.underlying32 Tryz.underlying32 sz_48 z_48 rfl by_48 (by decide) rfl rfl o3 ((ho.mono hM1).holds hS) (hS.pull H3) (by simp; omega) rfl fun s4 H4 w o4 hS => ?_)⟩)⟩
  try rw [List.nil_append] at o4
  refine zE ⟨fun _ _ => ⟨hS.c, hS.cells rfl⟩, zU 9 1023 rfl (a_append Tryz.underlying32 Tryz.underlying32 sz_48 z_48 rfl by_48 (by decide) rfl rfl o4 (o5.holds (hS.pull H5)) (hS.pull H4) (by simp; omega) rfl fun s6 H6 w o6 hS => ?_)⟩
  obtain ⟨M2, hM2, hF6, hS⟩ := (hS.pull H6).freeze
  have r6 := o6.rdc hF6
  obtain ⟨a6, c6, rfl⟩ := o6.slice
  have hrv := ((hr.mono hM1).mono hM2).append (.cons (hnx.mono hM2) .nil)
  refine zE ⟨fun _ _ => ⟨hS.c, hS.cells rfl⟩, zPn 10 2047 rfl (zPf 11 4095 fl_87_2 rfl (zU 12 8191 rfl (zS sz_32 rfl hS fun w hS => zE ⟨fun h => absurd (by decide) h, zH (zQ (zR (wl (y_loadS st_48 sz_48 rfl (vs := [.int .i64 m.origin, .int .i64 ((m.l.length : Int) + 1), .slice a2 ups.length c2]) (hS.cells rfl) rfl) rfl (zG (vs := [_, _, _]) sz_48 rfl hS fun w hS => zA rfl (zE (zV (wret (vs := [_, _]) (.cell rfl (loadVar_struct st_48 sz_48 (vs := [_, _, _]) rfl (hS.cells rfl)) (.tmp rfl .nil)) ?_)))))))⟩)))⟩
  first
  | exact ⟨M, _, _, Mle.refl _, Rd.nil, rfl, hb0, hS.keep⟩
  | exact ⟨M1, _, _, hM1, Rd.nil, rfl, hb0.mono hM1, hS.keep⟩
  | (simp only [zL, cells_agg, setCells] at hS
     exact ⟨M2, _, _, hM1.trans hM2, hru.mono hM2, rfl, ⟨_, _, r6, hrv, rfl⟩, hS.keep⟩)
theorem r17new_c {jp : Nat} {j : Jnl} {H : Chunk} (origin mtu push : Int) (hj : behind 0 j.l = j.l) (hl : j.l.length ≤ 137438953472) (hb : IsRJ M jp j H) (hS : St M w (H :: Ls)) :
    CallsR Tryz.prog 87 [.pointer (some ⟨jp, 0, none⟩), .int .i64 origin, .int .i64 mtu, .int .i64 push].toArray w fun v w' => ∃ M' p Hc, v = .pointer (some ⟨p, 0, none⟩) ∧ Mle M M' ∧ IsRC M' p jp (Cli.new j origin mtu push) Hc ∧ IsRJ M' jp j H ∧ St M' w' (Hc :: H :: Ls) := by
  have hb0 := hb
  obtain ⟨xs, s, ho, hr, rfl⟩ := hb
  have hlen := hr.len
  obtain ⟨ho, sa, sc, rfl, hcap⟩ := ho
  refine zC 25 Tryz.func87 rfl (zQ (zR (zA rfl (zE (zQ (zQ (zR (zM rfl (wl (y_lss rfl rfl) rfl (zE (zIf rfl (fun hc10 => ?_) fun hc10 => ?_)))))))))))
  · refine zR ?_
    refine zA rfl (zE (wc_cut (α := Unit) (fun _ => [(0, .pointer (some ⟨jp, 0, none⟩)), (1, .int .i64 origin), (2, .int .i64 mtu), (3, .int .i64 ((min (max push 1) 16).toNat : Nat))]) (fun _ w => St M w ([(jp, rjO j (.slice sa xs.length sc))] :: Ls)) ?_ ?_))
    · refine zQ ?_
      refine zR (zM rfl (wl (y_gtr rfl rfl) rfl (zE (zIf rfl (fun hc12 => ?_) fun hc12 => ?_))))
      · refine zR ?_
        refine zA rfl (zE ?_)
        exact ⟨(), sub_cons rfl (sub_cons rfl (sub_cons rfl (sub_cons (congrArg (fun n : Int => some (Value.int .i64 n)) (by omega)) sub_nil))), hS⟩
      refine zK ?_
      exact ⟨(), sub_cons rfl (sub_cons rfl (sub_cons rfl (sub_cons (congrArg (fun n : Int => some (Value.int .i64 n)) (by omega)) sub_nil))), hS⟩
    clear hS
    rintro _ w hS
    refine zQ (zR (zM rfl (zM rfl (zM rfl (zM rfl (a_bslice encRV [] (vs := []) (ps := []) Tryz.underlying32 sz_48 z_48 rfl .nil rfl rfl rfl (by decide) hS rfl fun u1 H1 w o1 hS => zM rfl (zN rfl (zF fl_87_2 rfl (wl (y_load pl_32 rfl (hS.c (v := .slice sa xs.length sc))) rfl (a_append Tryz.underlying32 Tryz.underlying32 sz_48 z_48 rfl by_48 (by decide) rfl rfl o1 (ho.holds hS) (hS.pull H1) (by simp; omega) rfl fun s2 H2 w o2 hS => ?_))))))))))
    try rw [List.nil_append] at o2
    obtain ⟨M1, hM1, hF2, hS⟩ := (hS.pull H2).freeze
    have r2 := o2.rdc hF2
    obtain ⟨a2, c2, rfl⟩ := o2.slice
    have hr1 := hr.mono hM1
    rw [← hj] at hr1
    refine wl (y_build (is := [0, 1, 2, 3, 5]) (xs := [_, _, _, _, _]) (out := [_, _, _, _, _, _, _]) plc_85 z_85 (.cons rfl (.cons rfl (.cons rfl (.cons rfl (.cons rfl .nil))))) rfl) rfl (a_box rfl hS rfl fun b24 w hS => zA rfl (zE (zV (z1 rfl ?_))))
    exact ⟨M1, _, _, rfl, hM1, ⟨[], .slice none 0 0, xs, _, .slice none 0 0, Rdc.nil, .nil, r2, hr1, Rdc.nil, rfl⟩, hb0.mono hM1, hS⟩
  refine zK ?_
  refine wc_cut (α := Unit) (fun _ => [(0, .pointer (some ⟨jp, 0, none⟩)), (1, .int .i64 origin), (2, .int .i64 mtu), (3, .int .i64 ((min (max push 1) 16).toNat : Nat))]) (fun _ w => St M w ([(jp, rjO j (.slice sa xs.length sc))] :: Ls)) ?_ ?_
  · refine zQ ?_
    refine zR (zM rfl (wl (y_gtr rfl rfl) rfl (zE (zIf rfl (fun hc12 => ?_) fun hc12 => ?_))))
    · refine zR ?_
      refine zA rfl (zE ?_)
      exact ⟨(), sub_cons rfl (sub_cons rfl (sub_cons rfl (sub_cons (congrArg (fun n : Int => some (Value.int .i64 n)) (by omega)) sub_nil))), hS⟩
    refine zK ?_
    exact ⟨(), sub_cons rfl (sub_cons rfl (sub_cons rfl (sub_cons (congrArg (fun n : Int => some (Value.int .i64 n)) (by omega)) sub_nil))), hS⟩
  clear hS
  rintro _ w hS
  refine zQ (zR (zM rfl (zM rfl (zM rfl (zM rfl (a_bslice encRV [] (vs := []) (ps := []) Tryz.underlying32 sz_48 z_48 rfl .nil rfl rfl rfl (by decide) hS rfl fun u1 H1 w o1 hS => zM rfl (zN rfl (zF fl_87_2 rfl (wl (y_load pl_32 rfl (hS.c (v := .slice sa xs.length sc))) rfl (a_append Tryz.underlying32 Tryz.underlying32 sz_48 z_48 rfl by_48 (by decide) rfl rfl o1 (ho.holds hS) (hS.pull H1) (by simp; omega) rfl fun s2 H2 w o2 hS => ?_))))))))))
  try rw [List.nil_append] at o2
  obtain ⟨M1, hM1, hF2, hS⟩ := (hS.pull H2).freeze
  have r2 := o2.rdc hF2
  obtain ⟨a2, c2, rfl⟩ := o2.slice
  have hr1 := hr.mono hM1
  rw [← hj] at hr1
  refine wl (y_build (is := [0, 1, 2, 3, 5]) (xs := [_, _, _, _, _]) (out := [_, _, _, _, _, _, _]) plc_85 z_85 (.cons rfl (.cons rfl (.cons rfl (.cons rfl (.cons rfl .nil))))) rfl) rfl (a_box rfl hS rfl fun b24 w hS => zA rfl (zE (zV (z1 rfl ?_))))
  exact ⟨M1, _, _, rfl, hM1, ⟨[], .slice none 0 0, xs, _, .slice none 0 0, Rdc.nil, .nil, r2, hr1, Rdc.nil, rfl⟩, hb0.mono hM1, hS⟩
theorem r17resume_c {p jp : Nat} {m : Cli} {j : Jnl} {H Hj : Chunk} (hjb : behind 0 j.l = j.l) (hjl : j.l.length ≤ 137438953472) (hb : IsRC M p jp m H) (hj : IsRJ M jp j Hj) (hS : St M w (H :: Hj :: Ls)) :
    CallsR Tryz.prog 96 [.pointer (some ⟨p, 0, none⟩)].toArray w fun v w' => ∃ M' H', Mle M M' ∧ v = .tuple #[] ∧ IsRC M' p jp (m.resume j) H' ∧ IsRJ M' jp j Hj ∧ St M' w' (H' :: Hj :: Ls) := by
  obtain ⟨xs, sk, ys, sp, so, h1, h2, h3, h4, h5, rfl⟩ := hb
  have hj0 := hj
  obtain ⟨js, sj, ho, hr, rfl⟩ := hj
  have hlen := hr.len
  obtain ⟨ho, sa, sc, rfl, hcap⟩ := ho
  refine zC 20 Tryz.func96 rfl (zQ (zR (zM rfl (zN rfl (zF fl_85_4 rfl (zS sz_32 rfl hS fun w hS => zE (zQ (zR (zM rfl (zN rfl (zF fl_85_6 rfl (zS sz_46 rfl hS fun w hS => zE (zR (zM rfl (a_bslice encRV [] (vs := []) (ps := []) Tryz.underlying32 sz_48 z_48 rfl .nil rfl rfl rfl (by decide) hS rfl fun u1 H1 w o1 hS => zM rfl (zN rfl (zF fl_85_0 rfl (wl (y_load pl_72 rfl (hS.c (v := .pointer (some ⟨jp, 0, none⟩)))) rfl (zN rfl (zF fl_87_2 rfl (wl (y_load pl_32 rfl (hS.c (v := .slice sa js.length sc))) rfl (a_append Tryz.underlying32 Tryz.underlying32 sz_48 z_48 rfl by_48 (by decide) rfl rfl o1 (ho.holds hS) (hS.pull H1) (by simp; omega) rfl fun s2 H2 w o2 hS => ?_))))))))))))))))))))))
  try rw [List.nil_append] at o2
  obtain ⟨M1, hM1, hF2, hS⟩ := (hS.pull H2).freeze
  have r2 := o2.rdc hF2
  obtain ⟨a2, c2, rfl⟩ := o2.slice
  have hr1 := hr.mono hM1
  rw [← hjb] at hr1
  refine zN rfl (zF fl_85_5 rfl (zS sz_32 rfl hS fun w hS => zE (wretN (vs := []) .nil ?_)))
  simp only [zL, cells_agg, setCells] at hS
  exact ⟨M1, _, hM1, rfl, ⟨[], .slice none 0 0, js, _, .slice none 0 0, Rdc.nil, .nil, r2, hr1, Rdc.nil, rfl⟩, hj0.mono hM1, hS⟩
theorem r17seen_c {p jp : Nat} {m : Cli} {H : Chunk} (hl : m.known.length + m.pending.length ≤ 137438953472) (hb : IsRC M p jp m H) (hS : St M w (H :: Ls)) :
    CallsR Tryz.prog 104 [.pointer (some ⟨p, 0, none⟩)].toArray w fun v w' => ∃ ys H', Own 48 encRV v ys H' ∧ Rvs M ys (m.known ++ m.pending) ∧ St M w' (H' :: H :: Ls) := by
  obtain ⟨xs, sk, ys, sp, so, h1, h2, h3, h4, h5, rfl⟩ := hb
  have e2 := h2.len
  have e4 := h4.len
  refine zC 14 Tryz.func104 rfl (zQ (zR (zA rfl (zE (zQ (zW hS (fun w => w.cell? ⟨p, 4, none⟩ = some (sk) ∧ w.cell? ⟨p, 5, none⟩ = some (sp)) [] wide_ rfl fun w hS => zPm 1 2 rfl (zPn 2 6 rfl (zPf 3 14 fl_85_4 rfl (zPm 6 78 rfl (zPn 7 206 rfl (zPf 8 462 fl_85_5 rfl (zD 4 478 rfl ⟨hS.c, hS.c⟩ (fun w hS => y_load pl_32 rfl hS.1) (zD 9 990 rfl ⟨hS.c, hS.c⟩ (fun w hS => y_load pl_32 rfl hS.2) (zU 0 991 rfl (a_bslice encRV [] (vs := []) (ps := []) Tryz.underlying32 sz_48 z_48 rfl .nil rfl rfl rfl (by decide) hS rfl fun u1 H1 w o1 hS => zE ⟨fun _ _ => ⟨hS.c, hS.c⟩, zU 5 1023 rfl (a_append Tryz.underlying32 Tryz.underlying32 sz_48 z_48 rfl by_48 (by decide) rfl rfl o1 (h1.1.holds hS) (hS.pull H1) (by simp; omega) rfl fun s2 H2 w o2 hS => ?_)⟩)))))))))))))))
  try rw [List.nil_append] at o2
  refine zE ⟨fun _ _ => ⟨hS.c, hS.c⟩, zU 10 2047 rfl (a_append Tryz.underlying32 Tryz.underlying32 sz_48 z_48 rfl by_48 (by decide) rfl rfl o2 (h3.1.holds hS) (hS.pull H2) (by omega) rfl fun s3 H3 w o3 hS => zE ⟨fun _ _ => ⟨hS.c, hS.c⟩, zPa 11 4095 rfl (zH (zV (z1 rfl ?_)))⟩)⟩
  exact ⟨_, _, o3, h2.append h4, hS.keep⟩
theorem r17upd_c (u : Upd) {p jp : Nat} {m : Cli} {H : Chunk} (hmt : 0 ≤ m.mtu ∧ m.mtu ≤ 1400) (hl : m.opn.length ≤ 13743895) (hb : IsRC M p jp m H) (hS : St M w (H :: Ls)) :
    CallsR Tryz.prog 32 [.pointer (some ⟨p, 0, none⟩), uv u].toArray w fun v w' => ∃ M' H', Mle M M' ∧ v = .int .i64 (m.updE u) ∧ IsRC M' p jp (m.upd u) H' ∧ St M' w' (H' :: Ls) := by
  have hb0 := hb
  obtain ⟨xs, sk, ys, sp, so, h1, h2, h3, h4, h5, rfl⟩ := hb
  obtain ⟨h5, oa, oc, rfl, hcap⟩ := h5
  have hno : m.updE u ≠ 0 → m.upd u = m := fun h => by unfold Cli.upd; rw [if_neg h]
  refine zC 40 Tryz.func32 rfl (zQ (zR (a_box rfl hS rfl fun b3 w hS => zA rfl (zE (zQ (zQ (zR (wl ((y_loadS st_59 sz_59 rfl (vs := encU.f u) (hS.cells rfl) rfl).val (show _ = uv u from rfl)) rfl (wl_call (.cons rfl .nil) (r4may_c u hS) rfl ?_)))))))))
  rintro _ w ⟨rfl, hS⟩
  refine zA rfl (zE (zQ (zR (zM rfl (wl (y_neq rfl rfl) rfl (zE (zIf rfl (fun hc10 => ?_) fun hc10 => ?_)))))))
  · have he : m.updE u = mayU u := by unfold Cli.updE; rw [if_pos (by omega)]
    rw [hno (by omega), he]
    refine zQ (zR (zM rfl (zA rfl (zE (zV (z1 rfl ?_))))))
    first
    | exact ⟨M, _, Mle.refl _, rfl, hb0, hS.keep⟩
    | exact ⟨M1, _, hM1, rfl, hb0.mono hM1, hS.keep⟩
    | exact ⟨M2, _, hMl.trans hM2, rfl, hb0.mono (hMl.trans hM2), hS.keep⟩
    | (simp only [zL, cells_agg, setCells] at hS
       exact ⟨M2, _, hMl.trans hM2, rfl, ⟨xs, sk, ys, sp, _, h1.mono (hMl.trans hM2), h2.mono (hMl.trans hM2), h3.mono (hMl.trans hM2), h4.mono (hMl.trans hM2), r5, rfl⟩, hS.keep⟩)
  have hm0 : mayU u = 0 := by omega
  refine zK (zQ (zQ (zW hS (fun w => CellsAt w b3 0 [.string u.key, .int .i64 u.kind, .int .i64 u.n, .string u.s] ∧ w.cell? ⟨p, 2, none⟩ = some (.int .i64 m.mtu)) [] wide_ rfl fun w hS => zPm 2 4 rfl (zPn 3 12 rfl (zPf 4 28 fl_85_2 rfl (zD 0 29 rfl ⟨hS.cells rfl, hS.c⟩ (fun w hS => y_loadS st_59 sz_59 rfl hS.1 rfl) (zD 5 61 rfl ⟨hS.cells rfl, hS.c⟩ (fun w hS => y_load pl_3 rfl hS.2) (zU 1 63 rfl (a_bslice encU [u] Tryz.underlying46 sz_59 z_59 rfl (.cons rfl .nil) rfl rfl rfl (by decide) hS rfl fun u1 H1 w o1 hS => ?_)))))))))
  obtain ⟨M1, hM1, hF1, hS⟩ := (hS.pull H1).freeze
  have r1 := o1.rdc hF1
  obtain ⟨a1, c1, rfl⟩ := o1.slice
  refine zE ⟨fun _ _ => ⟨hS.cells rfl, hS.c⟩, zU 6 127 rfl (wl_call (.cons rfl (.cons rfl .nil)) (r7fits_c [u] m.mtu _ (by omega) r1.1 hS) rfl ?_)⟩
  rintro _ w ⟨rfl, hS⟩
  refine zE ⟨fun _ _ => ⟨hS.cells rfl, hS.c⟩, zP 7 255 rfl (fun w => y_not rfl) (zH (zIf rfl (fun hc19 => ?_) fun hc19 => ?_))⟩
  · have he : m.updE u = 3 := by unfold Cli.updE; rw [if_neg (by omega), if_pos (by simpa using hc19)]
    rw [hno (by omega), he]
    refine zQ (zR (zA rfl (zE (zV (z1 rfl ?_)))))
    first
    | exact ⟨M, _, Mle.refl _, rfl, hb0, hS.keep⟩
    | exact ⟨M1, _, hM1, rfl, hb0.mono hM1, hS.keep⟩
    | exact ⟨M2, _, hMl.trans hM2, rfl, hb0.mono (hMl.trans hM2), hS.keep⟩
    | (simp only [zL, cells_agg, setCells] at hS
       exact ⟨M2, _, hMl.trans hM2, rfl, ⟨xs, sk, ys, sp, _, h1.mono (hMl.trans hM2), h2.mono (hMl.trans hM2), h3.mono (hMl.trans hM2), h4.mono (hMl.trans hM2), r5, rfl⟩, hS.keep⟩)
  have hMl := hM1
  refine zK (zQ (zW hS (fun w => w.cell? ⟨p, 6, none⟩ = some (.slice oa m.opn.length oc) ∧ CellsAt w b3 0 [.string u.key, .int .i64 u.kind, .int .i64 u.n, .string u.s]) [] wide_ rfl fun w hS => zPm 1 2 rfl (zPn 2 6 rfl (zPf 3 14 fl_85_6 rfl (zD 4 30 rfl ⟨hS.c, hS.cells rfl⟩ (fun w hS => y_load pl_46 rfl hS.1) (zD 6 94 rfl ⟨hS.c, hS.cells rfl⟩ (fun w hS => y_loadS st_59 sz_59 rfl hS.2 rfl) (dr_do2 (i := 0) (j := 7) (lb 10 95) (lb 10 222) rfl rfl (by kernel_rfl) ?_ ?_)))))))
  · refine a_bslice encU [] (vs := []) (ps := []) Tryz.underlying46 sz_59 z_59 rfl .nil rfl rfl rfl (by decide) hS rfl fun u2 H2 w o2 hS => ?_
    refine zE ⟨fun _ _ => ⟨hS.c, hS.cells rfl⟩, dr_do2 (i := 5) (j := 7) (lb 10 127) (lb 10 223) rfl rfl (by kernel_rfl) ?_ ?_⟩
    · refine a_append Tryz.underlying46 Tryz.underlying46 sz_59 z_59 rfl by_59 (by decide) rfl rfl o2 ((h5.mono hMl).holds hS) (hS.pull H2) (by simp; omega) rfl fun s3 H3 w o3 hS => ?_
      try rw [List.nil_append] at o3
      refine zE ⟨fun _ _ => ⟨hS.c, hS.cells rfl⟩, zU 7 255 rfl (a_bslice encU [u] Tryz.underlying46 sz_59 z_59 rfl (.cons rfl .nil) rfl rfl rfl (by decide) hS rfl fun u4 H4 w o4 hS => zE ⟨fun _ _ => ⟨hS.c, hS.cells rfl⟩, zU 8 511 rfl (a_append Tryz.underlying46 Tryz.underlying46 sz_59 z_59 rfl by_59 (by decide) rfl rfl o3 (o4.holds (hS.pull H4)) (hS.pull H3) (by simp; omega) rfl fun s5 H5 w o5 hS => ?_)⟩)⟩
      obtain ⟨M2, hM2, hF5, hS⟩ := (hS.pull H5).freeze
      have r5 := o5.rdc hF5
      obtain ⟨a5, c5, rfl⟩ := o5.slice
      refine zE ⟨fun _ _ => ⟨hS.c, hS.cells rfl⟩, zPa 9 1023 rfl (zH (zQ (zQ (zR (zM rfl (zM rfl (zN rfl (zF fl_85_2 rfl (wl (y_load pl_3 rfl (hS.c (v := .int .i64 m.mtu))) rfl (wl_call (.cons rfl (.cons rfl .nil)) (r7fits_c (m.opn ++ [u]) m.mtu _ (by omega) r5.1 hS) rfl ?_))))))))))⟩
      rintro _ w ⟨rfl, hS⟩
      refine wl (y_not rfl) rfl (zE (zIf rfl (fun hc35 => ?_) fun hc35 => ?_))
      · have he : m.updE u = 7 := by unfold Cli.updE; rw [if_neg (by omega), if_neg (by simpa using hc19), if_pos (by simpa using hc35)]
        rw [hno (by omega), he]
        refine zQ (zR (zA rfl (zE (zV (z1 rfl ?_)))))
        first
        | exact ⟨M, _, Mle.refl _, rfl, hb0, hS.keep⟩
        | exact ⟨M1, _, hM1, rfl, hb0.mono hM1, hS.keep⟩
        | exact ⟨M2, _, hMl.trans hM2, rfl, hb0.mono (hMl.trans hM2), hS.keep⟩
        | (simp only [zL, cells_agg, setCells] at hS
           exact ⟨M2, _, hMl.trans hM2, rfl, ⟨xs, sk, ys, sp, _, h1.mono (hMl.trans hM2), h2.mono (hMl.trans hM2), h3.mono (hMl.trans hM2), h4.mono (hMl.trans hM2), r5, rfl⟩, hS.keep⟩)
      have he : m.updE u = 0 := by unfold Cli.updE; rw [if_neg (by omega), if_neg (by simpa using hc19), if_neg (by simpa using hc35)]
      have hq : m.upd u = { m with opn := m.opn ++ [u] } := by unfold Cli.upd; rw [if_pos he]
      rw [he, hq]
      refine zK (zQ (zR (zM rfl (zM rfl (zN rfl (zF fl_85_6 rfl (zS sz_46 rfl hS fun w hS => zE (zQ (zR (zA rfl (zE (zV (z1 rfl ?_)))))))))))))
      first
      | exact ⟨M, _, Mle.refl _, rfl, hb0, hS.keep⟩
      | exact ⟨M1, _, hM1, rfl, hb0.mono hM1, hS.keep⟩
      | exact ⟨M2, _, hMl.trans hM2, rfl, hb0.mono (hMl.trans hM2), hS.keep⟩
      | (simp only [zL, cells_agg, setCells] at hS
         exact ⟨M2, _, hMl.trans hM2, rfl, ⟨xs, sk, ys, sp, _, h1.mono (hMl.trans hM2), h2.mono (hMl.trans hM2), h3.mono (hMl.trans hM2), h4.mono (hMl.trans hM2), r5, rfl⟩, hS.keep⟩)
    refine a_bslice encU [u] Tryz.underlying46 sz_59 z_59 rfl (.cons rfl .nil) rfl rfl rfl (by decide) hS rfl fun u4 H4 w o4 hS => ?_
    refine zE ⟨fun _ _ => ⟨hS.c, hS.cells rfl⟩, zU 5 255 rfl (a_append Tryz.underlying46 Tryz.underlying46 sz_59 z_59 rfl by_59 (by decide) rfl rfl o2 ((h5.mono hMl).holds hS) (hS.pull H2) (by simp; omega) rfl fun s3 H3 w o3 hS => ?_)⟩
    try rw [List.nil_append] at o3
    refine zE ⟨fun _ _ => ⟨hS.c, hS.cells rfl⟩, zU 8 511 rfl (a_append Tryz.underlying46 Tryz.underlying46 sz_59 z_59 rfl by_59 (by decide) rfl rfl o3 (o4.holds (hS.pull H4)) (hS.pull H3) (by simp; omega) rfl fun s5 H5 w o5 hS => ?_)⟩
    obtain ⟨M2, hM2, hF5, hS⟩ := (hS.pull H5).freeze
    have r5 := o5.rdc hF5
    obtain ⟨a5, c5, rfl⟩ := o5.slice
    refine zE ⟨fun _ _ => ⟨hS.c, hS.cells rfl⟩, zPa 9 1023 rfl (zH (zQ (zQ (zR (zM rfl (zM rfl (zN rfl (zF fl_85_2 rfl (wl (y_load pl_3 rfl (hS.c (v := .int .i64 m.mtu))) rfl (wl_call (.cons rfl (.cons rfl .nil)) (r7fits_c (m.opn ++ [u]) m.mtu _ (by omega) r5.1 hS) rfl ?_))))))))))⟩
    rintro _ w ⟨rfl, hS⟩
    refine wl (y_not rfl) rfl (zE (zIf rfl (fun hc35 => ?_) fun hc35 => ?_))
    · have he : m.updE u = 7 := by unfold Cli.updE; rw [if_neg (by omega), if_neg (by simpa using hc19), if_pos (by simpa using hc35)]
      rw [hno (by omega), he]
      refine zQ (zR (zA rfl (zE (zV (z1 rfl ?_)))))
      first
      | exact ⟨M, _, Mle.refl _, rfl, hb0, hS.keep⟩
      | exact ⟨M1, _, hM1, rfl, hb0.mono hM1, hS.keep⟩
      | exact ⟨M2, _, hMl.trans hM2, rfl, hb0.mono (hMl.trans hM2), hS.keep⟩
      | (simp only [zL, cells_agg, setCells] at hS
         exact ⟨M2, _, hMl.trans hM2, rfl, ⟨xs, sk, ys, sp, _, h1.mono (hMl.trans hM2), h2.mono (hMl.trans hM2), h3.mono (hMl.trans hM2), h4.mono (hMl.trans hM2), r5, rfl⟩, hS.keep⟩)
    have he : m.updE u = 0 := by unfold Cli.updE; rw [if_neg (by omega), if_neg (by simpa using hc19), if_neg (by simpa using hc35)]
    have hq : m.upd u = { m with opn := m.opn ++ [u] } := by unfold Cli.upd; rw [if_pos he]
    rw [he, hq]
    refine zK (zQ (zR (zM rfl (zM rfl (zN rfl (zF fl_85_6 rfl (zS sz_46 rfl hS fun w hS => zE (zQ (zR (zA rfl (zE (zV (z1 rfl ?_)))))))))))))
    first
    | exact ⟨M, _, Mle.refl _, rfl, hb0, hS.keep⟩
    | exact ⟨M1, _, hM1, rfl, hb0.mono hM1, hS.keep⟩
    | exact ⟨M2, _, hMl.trans hM2, rfl, hb0.mono (hMl.trans hM2), hS.keep⟩
    | (simp only [zL, cells_agg, setCells] at hS
       exact ⟨M2, _, hMl.trans hM2, rfl, ⟨xs, sk, ys, sp, _, h1.mono (hMl.trans hM2), h2.mono (hMl.trans hM2), h3.mono (hMl.trans hM2), h4.mono (hMl.trans hM2), r5, rfl⟩, hS.keep⟩)
  refine a_bslice encU [u] Tryz.underlying46 sz_59 z_59 rfl (.cons rfl .nil) rfl rfl rfl (by decide) hS rfl fun u4 H4 w o4 hS => ?_
  refine zE ⟨fun _ _ => ⟨hS.c, hS.cells rfl⟩, zU 0 223 rfl (a_bslice encU [] (vs := []) (ps := []) Tryz.underlying46 sz_59 z_59 rfl .nil rfl rfl rfl (by decide) hS rfl fun u2 H2 w o2 hS => zE ⟨fun _ _ => ⟨hS.c, hS.cells rfl⟩, zU 5 255 rfl (a_append Tryz.underlying46 Tryz.underlying46 sz_59 z_59 rfl by_59 (by decide) rfl rfl o2 ((h5.mono hMl).holds hS) (hS.pull H2) (by simp; omega) rfl fun s3 H3 w o3 hS => ?_)⟩)⟩
  try rw [List.nil_append] at o3
  refine zE ⟨fun _ _ => ⟨hS.c, hS.cells rfl⟩, zU 8 511 rfl (a_append Tryz.underlying46 Tryz.underlying46 sz_59 z_59 rfl by_59 (by decide) rfl rfl o3 (o4.holds (hS.pull H4)) (hS.pull H3) (by simp; omega) rfl fun s5 H5 w o5 hS => ?_)⟩
  obtain ⟨M2, hM2, hF5, hS⟩ := (hS.pull H5).freeze
  have r5 := o5.rdc hF5
  obtain ⟨a5, c5, rfl⟩ := o5.slice
  refine zE ⟨fun _ _ => ⟨hS.c, hS.cells rfl⟩, zPa 9 1023 rfl (zH (zQ (zQ (zR (zM rfl (zM rfl (zN rfl (zF fl_85_2 rfl (wl (y_load pl_3 rfl (hS.c (v := .int .i64 m.mtu))) rfl (wl_call (.cons rfl (.cons rfl .nil)) (r7fits_c (m.opn ++ [u]) m.mtu _ (by omega) r5.1 hS) rfl ?_))))))))))⟩
  rintro _ w ⟨rfl, hS⟩
  refine wl (y_not rfl) rfl (zE (zIf rfl (fun hc35 => ?_) fun hc35 => ?_))
  · have he : m.updE u = 7 := by unfold Cli.updE; rw [if_neg (by omega), if_neg (by simpa using hc19), if_pos (by simpa using hc35)]
    rw [hno (by omega), he]
    refine zQ (zR (zA rfl (zE (zV (z1 rfl ?_)))))
    first
    | exact ⟨M, _, Mle.refl _, rfl, hb0, hS.keep⟩
    | exact ⟨M1, _, hM1, rfl, hb0.mono hM1, hS.keep⟩
    | exact ⟨M2, _, hMl.trans hM2, rfl, hb0.mono (hMl.trans hM2), hS.keep⟩
    | (simp only [zL, cells_agg, setCells] at hS
       exact ⟨M2, _, hMl.trans hM2, rfl, ⟨xs, sk, ys, sp, _, h1.mono (hMl.trans hM2), h2.mono (hMl.trans hM2), h3.mono (hMl.trans hM2), h4.mono (hMl.trans hM2), r5, rfl⟩, hS.keep⟩)
  have he : m.updE u = 0 := by unfold Cli.updE; rw [if_neg (by omega), if_neg (by simpa using hc19), if_neg (by simpa using hc35)]
  have hq : m.upd u = { m with opn := m.opn ++ [u] } := by unfold Cli.upd; rw [if_pos he]
  rw [he, hq]
  refine zK (zQ (zR (zM rfl (zM rfl (zN rfl (zF fl_85_6 rfl (zS sz_46 rfl hS fun w hS => zE (zQ (zR (zA rfl (zE (zV (z1 rfl ?_)))))))))))))
  first
  | exact ⟨M, _, Mle.refl _, rfl, hb0, hS.keep⟩
  | exact ⟨M1, _, hM1, rfl, hb0.mono hM1, hS.keep⟩
  | exact ⟨M2, _, hMl.trans hM2, rfl, hb0.mono (hMl.trans hM2), hS.keep⟩
  | (simp only [zL, cells_agg, setCells] at hS
     exact ⟨M2, _, hMl.trans hM2, rfl, ⟨xs, sk, ys, sp, _, h1.mono (hMl.trans hM2), h2.mono (hMl.trans hM2), h3.mono (hMl.trans hM2), h4.mono (hMl.trans hM2), r5, rfl⟩, hS.keep⟩)
theorem r17push_c {p jp : Nat} {m : Cli} {j : Jnl} {H Hj : Chunk} (hpl : m.pending.length ≤ 137438953) (hjl : j.l.length ≤ 137438953 ∧ j.l.length ≤ j.last) (hl : m.opn.length ≤ 13743895) (hb : IsRC M p jp m H) (hj : IsRJ M jp j Hj) (hS : St M w (H :: Hj :: Ls)) :
    CallsR Tryz.prog 92 [.pointer (some ⟨p, 0, none⟩)].toArray w fun v w' => ∃ M' s' H' Hj', Mle M M' ∧ Rd M' encU s' (m.pushR j).ups ∧ v = .tuple [rvS (m.pushR j) s', .int .i64 (m.pushE j)].toArray ∧ IsRC M' p jp (m.pushC j) H' ∧ IsRJ M' jp (m.pushJ j) Hj' ∧ St M' w' (H' :: Hj' :: Ls) := by
  have hb0 := hb
  obtain ⟨xs, sk, ys, sp, so, h1, h2, h3, h4, h5, rfl⟩ := hb
  have e4 := h4.len
  obtain ⟨h5, oa, oc, rfl, hcap⟩ := h5
  obtain ⟨h3, pa, pc, rfl, hpcap⟩ := h3
  have hne : ∀ e : Nat, m.pushE j = e → e ≠ 0 → m.pushR j = ⟨0, 0, []⟩ ∧ m.pushC j = m ∧ m.pushJ j = j := by
    intro e he h0
    unfold Cli.pushR Cli.pushC Cli.pushJ
    rw [if_neg (by omega), if_neg (by omega), if_neg (by omega)]
    exact ⟨rfl, rfl, rfl⟩
  refine zC 56 Tryz.func92 rfl (zQ (zR (a_alloc z_48 hS rfl fun b2 w hS => zA rfl (zE (zQ (zQ (zR (zM rfl (zN rfl (zF fl_85_6 rfl (wl (y_load pl_46 rfl (hS.c (v := .slice oa m.opn.length oc))) rfl (wl (y_len_sl Tryz.underlying46 rfl) rfl (wl (y_eql rfl rfl) rfl (zE (zIf rfl (fun hc11 => ?_) fun hc11 => ?_)))))))))))))))
  · have he : m.pushE j = 11 := by unfold Cli.pushE; rw [if_pos (by omega)]
    obtain ⟨q1, q2, q3⟩ := hne _ he (by decide)
    rw [he, q1, q2, q3]
    refine zQ (zR (wl (y_build (is := []) (xs := []) (out := [_, _, _]) plc_48 z_48 .nil rfl) rfl (zG (vs := [_, _, _]) sz_48 rfl hS fun w hS => zA rfl (zE (zV (wret (vs := [_, _]) (.cell rfl (loadVar_struct st_48 sz_48 (vs := [_, _, _]) rfl (hS.cells rfl)) (.tmp rfl .nil)) ?_))))))
    first
    | exact ⟨M, _, _, _, Mle.refl _, Rd.nil, rfl, hb0, hj, hS.keep⟩
    | exact ⟨M1, _, _, _, hM1, Rd.nil, rfl, hb0.mono hM1, hj1, hS.keep⟩
    | (simp only [zL, cells_agg, setCells] at hS
       exact ⟨M2, _, _, _, hM1.trans hM2, hs1.mono hM2, rfl, ⟨_, _, _, _, _, h1.mono (hM1.trans hM2), h2.mono (hM1.trans hM2), r6, hrv, Rdc.nil, rfl⟩, hj1.mono hM2, hS.keep⟩)
  refine zK ?_
  refine zQ (zQ (zW hS (fun w => w.cell? ⟨p, 5, none⟩ = some (.slice pa ys.length pc) ∧ w.cell? ⟨p, 3, none⟩ = some (.int .i64 m.push)) [] wide_ rfl fun w hS => zPm 0 1 rfl (zPn 1 3 rfl (zPf 2 7 fl_85_5 rfl (zPm 5 39 rfl (zPn 6 103 rfl (zPf 7 231 fl_85_3 rfl (zD 3 239 rfl ⟨hS.c, hS.c⟩ (fun w hS => y_load pl_32 rfl hS.1) (zP 4 255 rfl (fun w => y_len_sl Tryz.underlying32 rfl) (zD 8 511 rfl ⟨hS.c, hS.c⟩ (fun w hS => y_load pl_3 rfl hS.2) (zP 9 1023 rfl (fun w => y_geq rfl rfl) (zH (zIf rfl (fun hc22 => ?_) fun hc22 => ?_)))))))))))))
  · have he : m.pushE j = 7 := by unfold Cli.pushE; rw [if_neg (by omega), if_pos (by omega)]
    obtain ⟨q1, q2, q3⟩ := hne _ he (by decide)
    rw [he, q1, q2, q3]
    refine zQ (zR (wl (y_build (is := []) (xs := []) (out := [_, _, _]) plc_48 z_48 .nil rfl) rfl (zG (vs := [_, _, _]) sz_48 rfl hS fun w hS => zA rfl (zE (zV (wret (vs := [_, _]) (.cell rfl (loadVar_struct st_48 sz_48 (vs := [_, _, _]) rfl (hS.cells rfl)) (.tmp rfl .nil)) ?_))))))
    first
    | exact ⟨M, _, _, _, Mle.refl _, Rd.nil, rfl, hb0, hj, hS.keep⟩
    | exact ⟨M1, _, _, _, hM1, Rd.nil, rfl, hb0.mono hM1, hj1, hS.keep⟩
    | (simp only [zL, cells_agg, setCells] at hS
       exact ⟨M2, _, _, _, hM1.trans hM2, hs1.mono hM2, rfl, ⟨_, _, _, _, _, h1.mono (hM1.trans hM2), h2.mono (hM1.trans hM2), r6, hrv, Rdc.nil, rfl⟩, hj1.mono hM2, hS.keep⟩)
  have hea : m.pushE j = j.addE m.opn := by unfold Cli.pushE; rw [if_neg (by omega), if_neg (by omega)]
  refine zK (zQ (zW hS (fun w => w.cell? ⟨p, 0, none⟩ = some (.pointer (some ⟨jp, 0, none⟩)) ∧ w.cell? ⟨p, 6, none⟩ = some (.slice oa m.opn.length oc)) [13] wide_ rfl fun w hS => zPm 0 1 rfl (zPn 1 3 rfl (zPf 2 7 fl_85_0 rfl (zPm 4 23 rfl (zPn 5 55 rfl (zPf 6 119 fl_85_6 rfl (zD 3 127 rfl ⟨hS.c, hS.c⟩ (fun w hS => y_load pl_72 rfl hS.1) (zD 7 255 rfl ⟨hS.c, hS.c⟩ (fun w hS => y_load pl_46 rfl hS.2) (dr_do2 (i := 8) (j := 12) (lb 15 511) (lb 15 4351) rfl rfl (by kernel_rfl) ?_ ?_))))))))))
  · refine wl_call (.cons rfl (.cons rfl .nil)) (r13add_c m.opn _ h5 (by omega) hjl hj (hS.pull Hj)) rfl ?_
    rintro _ w ⟨M1, s1, Hj1, hM1, hs1, rfl, hj1, hS⟩
    obtain ⟨sa1, sc1, rfl⟩ := (hs1.holds hS).slice
    refine zE ⟨fun _ _ => ⟨hS.c, hS.c⟩, zPm 9 1023 rfl (zPx 10 2047 rfl (zPx 11 4095 rfl (zU 12 8191 rfl (a_alloc z_48 hS rfl fun b4 w hS => zE ⟨fun _ _ => ⟨hS.c, hS.c⟩, zU 13 16383 rfl (zG (vs := [_, _, _]) sz_48 rfl hS fun w hS => zE ⟨fun h => absurd (by decide) h, zPa 14 32767 rfl (zH (zQ (zQ (zR (zM rfl (wl (y_neq rfl rfl) rfl (zE (zIf rfl (fun hc37 => ?_) fun hc37 => ?_))))))))⟩)⟩))))⟩
    · obtain ⟨q1, q2, q3⟩ := hne _ hea (by omega)
      have hja : j.add m.opn = j := by unfold Jnl.add; rw [if_neg (by omega)]
      rw [hja] at hj1
      rw [hea, q1, q2, q3]
      refine zQ (zR (wl (y_build (is := []) (xs := []) (out := [_, _, _]) plc_48 z_48 .nil rfl) rfl (zM rfl (zG (vs := [_, _, _]) sz_48 rfl hS fun w hS => zA rfl (zE (zV (wret (vs := [_, _]) (.cell rfl (loadVar_struct st_48 sz_48 (vs := [_, _, _]) rfl (hS.cells rfl)) (.tmp rfl .nil)) ?_)))))))
      first
      | exact ⟨M, _, _, _, Mle.refl _, Rd.nil, rfl, hb0, hj, hS.keep⟩
      | exact ⟨M1, _, _, _, hM1, Rd.nil, rfl, hb0.mono hM1, hj1, hS.keep⟩
      | (simp only [zL, cells_agg, setCells] at hS
         exact ⟨M2, _, _, _, hM1.trans hM2, hs1.mono hM2, rfl, ⟨_, _, _, _, _, h1.mono (hM1.trans hM2), h2.mono (hM1.trans hM2), r6, hrv, Rdc.nil, rfl⟩, hj1.mono hM2, hS.keep⟩)
    have hz : j.addE m.opn = 0 := by omega
    rw [if_pos hz] at hs1
    rw [if_pos hz, if_pos hz] at hS
    have q1 : m.pushR j = j.next m.opn := by unfold Cli.pushR; rw [if_pos (by omega)]
    have q2 : m.pushC j = { m with opn := [], pending := m.pending ++ [j.next m.opn] } := by unfold Cli.pushC; rw [if_pos (by omega)]
    have q3 : m.pushJ j = j.add m.opn := by unfold Cli.pushJ; rw [if_pos (by omega)]
    have hnx : RvR M1 ⟨(j.next m.opn).o, (j.next m.opn).n, sa1, m.opn.length, sc1⟩ (j.next m.opn) := ⟨rfl, rfl, hs1, by show m.opn.length ≤ _; omega⟩
    rw [hea, q1, q2, q3, hz]
    refine zK (zQ (zR (zM rfl (zN rfl (zF fl_85_6 rfl (zS sz_46 rfl hS fun w hS => zE (zQ (zW hS (fun w => w.cell? ⟨p, 5, none⟩ = some (.slice pa ys.length pc) ∧ CellsAt w b4 0 [.int .i64 (j.next m.opn).o, .int .i64 (j.next m.opn).n, .slice sa1 m.opn.length sc1]) [12] wide_ rfl fun w hS => zPm 0 1 rfl (zPm 2 5 rfl (zPn 3 13 rfl (zPf 4 29 fl_85_5 rfl (zD 5 61 rfl ⟨hS.c, hS.cells rfl⟩ (fun w hS => y_load pl_32 rfl hS.1) (zD 7 189 rfl ⟨hS.c, hS.cells rfl⟩ (fun w hS => y_loadS st_48 sz_48 rfl hS.2 rfl) (dr_do2 (i := 1) (j := 8) (lb 13 191) (lb 13 445) rfl rfl (by kernel_rfl) ?_ ?_))))))))))))))
    · refine a_bslice encRV [] (vs := []) (ps := []) Tryz.underlying32 sz_48 z_48 rfl .nil rfl rfl rfl (by decide) hS rfl fun u3 H3 w o3 hS => ?_
      refine zE ⟨fun _ _ => ⟨hS.c, hS.cells rfl⟩, dr_do2 (i := 6) (j := 8) (lb 13 255) (lb 13 447) rfl rfl (by kernel_rfl) ?_ ?_⟩
      · refine a_append Tryz.underlying32 Tryz.underlying32 sz_48 z_48 rfl by_48 (by decide) rfl rfl o3 ((h3.mono hM1).holds hS) (hS.pull H3) (by simp; omega) rfl fun s4 H4 w o4 hS => ?_
        try rw [List.nil_append] at o4
        refine zE ⟨fun _ _ => ⟨hS.c, hS.cells rfl⟩, zU 8 511 rfl (a_bslice encRV [⟨(j.next m.opn).o, (j.next m.opn).n, sa1, m.opn.length, sc1⟩] Tryz.underlying32 sz_48 z_48 rfl (.cons rfl .nil) rfl rfl rfl (by decide) hS rfl fun u5 H5 w o5 hS => zE ⟨fun _ _ => ⟨hS.c, hS.cells rfl⟩, zU 9 1023 rfl (a_append Tryz.underlying32 Tryz.underlying32 sz_48 z_48 rfl by_48 (by decide) rfl rfl o4 (o5.holds (hS.pull H5)) (hS.pull H4) (by simp; omega) rfl fun s6 H6 w o6 hS => ?_)⟩)⟩
        obtain ⟨M2, hM2, hF6, hS⟩ := (hS.pull H6).freeze
        have r6 := o6.rdc hF6
        obtain ⟨a6, c6, rfl⟩ := o6.slice
        have hrv := ((h4.mono hM1).mono hM2).append (.cons (hnx.mono hM2) .nil)
        refine zE ⟨fun _ _ => ⟨hS.c, hS.cells rfl⟩, zPn 10 2047 rfl (zPf 11 4095 fl_85_5 rfl (zU 12 8191 rfl (zS sz_32 rfl hS fun w hS => zE ⟨fun h => absurd (by decide) h, zH (zQ (zR (wl (y_loadS st_48 sz_48 rfl (vs := [.int .i64 (j.next m.opn).o, .int .i64 (j.next m.opn).n, .slice sa1 m.opn.length sc1]) (hS.cells rfl) rfl) rfl (zG (vs := [_, _, _]) sz_48 rfl hS fun w hS => zA rfl (zE (zV (wret (vs := [_, _]) (.cell rfl (loadVar_struct st_48 sz_48 (vs := [_, _, _]) rfl (hS.cells rfl)) (.tmp rfl .nil)) ?_)))))))⟩)))⟩
        first
        | exact ⟨M, _, _, _, Mle.refl _, Rd.nil, rfl, hb0, hj, hS.keep⟩
        | exact ⟨M1, _, _, _, hM1, Rd.nil, rfl, hb0.mono hM1, hj1, hS.keep⟩
        | (simp only [zL, cells_agg, setCells] at hS
           exact ⟨M2, _, _, _, hM1.trans hM2, hs1.mono hM2, rfl, ⟨_, _, _, _, _, h1.mono (hM1.trans hM2), h2.mono (hM1.trans hM2), r6, hrv, Rdc.nil, rfl⟩, hj1.mono hM2, hS.keep⟩)
      refine a_bslice encRV [⟨(j.next m.opn).o, (j.next m.opn).n, sa1, m.opn.length, sc1⟩] Tryz.underlying32 sz_48 z_48 rfl (.cons rfl .nil) rfl rfl rfl (by decide) hS rfl fun u5 H5 w o5 hS => ?_
      refine zE ⟨fun _ _ => ⟨hS.c, hS.cells rfl⟩, zU 6 511 rfl (a_append Tryz.underlying32 Tryz.underlying32 sz_48 z_48 rfl by_48 (by decide) rfl rfl o3 ((h3.mono hM1).holds hS) (hS.pull H3) (by simp; omega) rfl fun s4 H4 w o4 hS => ?_)⟩
      try rw [List.nil_append] at o4
      refine zE ⟨fun _ _ => ⟨hS.c, hS.cells rfl⟩, zU 9 1023 rfl (a_append Tryz.underlying32 Tryz.underlying32 sz_48 z_48 rfl by_48 (by decide) rfl rfl o4 (o5.holds (hS.pull H5)) (hS.pull H4) (by simp; omega) rfl fun s6 H6 w o6 hS => ?_)⟩
      obtain ⟨M2, hM2, hF6, hS⟩ := (hS.pull H6).freeze
      have r6 := o6.rdc hF6
      obtain ⟨a6, c6, rfl⟩ := o6.slice
      have hrv := ((h4.mono hM1).mono hM2).append (.cons (hnx.mono hM2) .nil)
      refine zE ⟨fun _ _ => ⟨hS.c, hS.cells rfl⟩, zPn 10 2047 rfl (zPf 11 4095 fl_85_5 rfl (zU 12 8191 rfl (zS sz_32 rfl hS fun w hS => zE ⟨fun h => absurd (by decide) h, zH (zQ (zR (wl (y_loadS st_48 sz_48 rfl (vs := [.int .i64 (j.next m.opn).o, .int .i64 (j.next m.opn).n, .slice sa1 m.opn.length sc1]) (hS.cells rfl) rfl) rfl (zG (vs := [_, _, _]) sz_48 rfl hS fun w hS => zA rfl (zE (zV (wret (vs := [_, _]) (.cell rfl (loadVar_struct st_48 sz_48 (vs := [_, _, _]) rfl (hS.cells rfl)) (.tmp rfl .nil)) ?_)))))))⟩)))⟩
      first
      | exact ⟨M, _, _, _, Mle.refl _, Rd.nil, rfl, hb0, hj, hS.keep⟩
      | exact ⟨M1, _, _, _, hM1, Rd.nil, rfl, hb0.mono hM1, hj1, hS.keep⟩
      | (simp only [zL, cells_agg, setCells] at hS
         exact ⟨M2, _, _, _, hM1.trans hM2, hs1.mono hM2, rfl, ⟨_, _, _, _, _, h1.mono (hM1.trans hM2), h2.mono (hM1.trans hM2), r6, hrv, Rdc.nil, rfl⟩, hj1.mono hM2, hS.keep⟩)
    refine a_bslice encRV [⟨(j.next m.opn).o, (j.next m.opn).n, sa1, m.opn.length, sc1⟩] Tryz.underlying32 sz_48 z_48 rfl (.cons rfl .nil) rfl rfl rfl (by decide) hS rfl fun u5 H5 w o5 hS => ?_
    refine zE ⟨fun _ _ => ⟨hS.c, hS.cells rfl⟩, zU 1 447 rfl (a_bslice encRV [] (vs := []) (ps := []) Tryz.underlying32 sz_48 z_48 rfl .nil rfl rfl rfl (by decide) hS rfl fun u3 H3 w o3 hS => zE ⟨fun _ _ => ⟨hS.c, hS.cells rfl⟩, zU 6 511 rfl (a_append Tryz.underlying32 Tryz.underlying32 sz_48 z_48 rfl by_48 (by decide) rfl rfl o3 ((h3.mono hM1).holds hS) (hS.pull H3) (by simp; omega) rfl fun s4 H4 w o4 hS => ?_)⟩)⟩
    try rw [List.nil_append] at o4
    refine zE ⟨fun _ _ => ⟨hS.c, hS.cells rfl⟩, zU 9 1023 rfl (a_append Tryz.underlying32 Tryz.underlying32 sz_48 z_48 rfl by_48 (by decide) rfl rfl o4 (o5.holds (hS.pull H5)) (hS.pull H4) (by simp; omega) rfl fun s6 H6 w o6 hS => ?_)⟩
    obtain ⟨M2, hM2, hF6, hS⟩ := (hS.pull H6).freeze
    have r6 := o6.rdc hF6
    obtain ⟨a6, c6, rfl⟩ := o6.slice
    have hrv := ((h4.mono hM1).mono hM2).append (.cons (hnx.mono hM2) .nil)
    refine zE ⟨fun _ _ => ⟨hS.c, hS.cells rfl⟩, zPn 10 2047 rfl (zPf 11 4095 fl_85_5 rfl (zU 12 8191 rfl (zS sz_32 rfl hS fun w hS => zE ⟨fun h => absurd (by decide) h, zH (zQ (zR (wl (y_loadS st_48 sz_48 rfl (vs := [.int .i64 (j.next m.opn).o, .int .i64 (j.next m.opn).n, .slice sa1 m.opn.length sc1]) (hS.cells rfl) rfl) rfl (zG (vs := [_, _, _]) sz_48 rfl hS fun w hS => zA rfl (zE (zV (wret (vs := [_, _]) (.cell rfl (loadVar_struct st_48 sz_48 (vs := [_, _, _]) rfl (hS.cells rfl)) (.tmp rfl .nil)) ?_)))))))⟩)))⟩
    first
    | exact ⟨M, _, _, _, Mle.refl _, Rd.nil, rfl, hb0, hj, hS.keep⟩
    | exact ⟨M1, _, _, _, hM1, Rd.nil, rfl, hb0.mono hM1, hj1, hS.keep⟩
    | (simp only [zL, cells_agg, setCells] at hS
       exact ⟨M2, _, _, _, hM1.trans hM2, hs1.mono hM2, rfl, ⟨_, _, _, _, _, h1.mono (hM1.trans hM2), h2.mono (hM1.trans hM2), r6, hrv, Rdc.nil, rfl⟩, hj1.mono hM2, hS.keep⟩)
  refine a_alloc z_48 hS rfl fun b4 w hS => ?_
  refine zE ⟨fun _ _ => ⟨hS.c, hS.c⟩, zU 8 4607 rfl (wl_call (.cons rfl (.cons rfl .nil)) (r13add_c m.opn _ h5 (by omega) hjl hj (hS.pull Hj)) rfl ?_)⟩
  rintro _ w ⟨M1, s1, Hj1, hM1, hs1, rfl, hj1, hS⟩
  obtain ⟨sa1, sc1, rfl⟩ := (hs1.holds hS).slice
  refine zE ⟨fun _ _ => ⟨hS.c, hS.c⟩, zPm 9 5119 rfl (zPx 10 6143 rfl (zPx 11 8191 rfl (zU 13 16383 rfl (zG (vs := [_, _, _]) sz_48 rfl hS fun w hS => zE ⟨fun h => absurd (by decide) h, zPa 14 32767 rfl (zH (zQ (zQ (zR (zM rfl (wl (y_neq rfl rfl) rfl (zE (zIf rfl (fun hc37 => ?_) fun hc37 => ?_))))))))⟩))))⟩
  · obtain ⟨q1, q2, q3⟩ := hne _ hea (by omega)
    have hja : j.add m.opn = j := by unfold Jnl.add; rw [if_neg (by omega)]
    rw [hja] at hj1
    rw [hea, q1, q2, q3]
    refine zQ (zR (wl (y_build (is := []) (xs := []) (out := [_, _, _]) plc_48 z_48 .nil rfl) rfl (zM rfl (zG (vs := [_, _, _]) sz_48 rfl hS fun w hS => zA rfl (zE (zV (wret (vs := [_, _]) (.cell rfl (loadVar_struct st_48 sz_48 (vs := [_, _, _]) rfl (hS.cells rfl)) (.tmp rfl .nil)) ?_)))))))
    first
    | exact ⟨M, _, _, _, Mle.refl _, Rd.nil, rfl, hb0, hj, hS.keep⟩
    | exact ⟨M1, _, _, _, hM1, Rd.nil, rfl, hb0.mono hM1, hj1, hS.keep⟩
    | (simp only [zL, cells_agg, setCells] at hS
       exact ⟨M2, _, _, _, hM1.trans hM2, hs1.mono hM2, rfl, ⟨_, _, _, _, _, h1.mono (hM1.trans hM2), h2.mono (hM1.trans hM2), r6, hrv, Rdc.nil, rfl⟩, hj1.mono hM2, hS.keep⟩)
  have hz : j.addE m.opn = 0 := by omega
  rw [if_pos hz] at hs1
  rw [if_pos hz, if_pos hz] at hS
  have q1 : m.pushR j = j.next m.opn := by unfold Cli.pushR; rw [if_pos (by omega)]
  have q2 : m.pushC j = { m with opn := [], pending := m.pending ++ [j.next m.opn] } := by unfold Cli.pushC; rw [if_pos (by omega)]
  have q3 : m.pushJ j = j.add m.opn := by unfold Cli.pushJ; rw [if_pos (by omega)]
  have hnx : RvR M1 ⟨(j.next m.opn).o, (j.next m.opn).n, sa1, m.opn.length, sc1⟩ (j.next m.opn) := ⟨rfl, rfl, hs1, by show m.opn.length ≤ _; omega⟩
  rw [hea, q1, q2, q3, hz]
  refine zK (zQ (zR (zM rfl (zN rfl (zF fl_85_6 rfl (zS sz_46 rfl hS fun w hS => zE (zQ (zW hS (fun w => w.cell? ⟨p, 5, none⟩ = some (.slice pa ys.length pc) ∧ CellsAt w b4 0 [.int .i64 (j.next m.opn).o, .int .i64 (j.next m.opn).n, .slice sa1 m.opn.length sc1]) [12] wide_ rfl fun w hS => zPm 0 1 rfl (zPm 2 5 rfl (zPn 3 13 rfl (zPf 4 29 fl_85_5 rfl (zD 5 61 rfl ⟨hS.c, hS.cells rfl⟩ (fun w hS => y_load pl_32 rfl hS.1) (zD 7 189 rfl ⟨hS.c, hS.cells rfl⟩ (fun w hS => y_loadS st_48 sz_48 rfl hS.2 rfl) (dr_do2 (i := 1) (j := 8) (lb 13 191) (lb 13 445) rfl rfl (by kernel_rfl) ?_ ?_))))))))))))))
  · refine a_bslice encRV [] (vs := []) (ps := []) Tryz.underlying32 sz_48 z_48 rfl .nil rfl rfl rfl (by decide) hS rfl fun u3 H3 w o3 hS => ?_
    refine zE ⟨fun _ _ => ⟨hS.c, hS.cells rfl⟩, dr_do2 (i := 6) (j := 8) (lb 13 255) (lb 13 447) rfl rfl (by kernel_rfl) ?_ ?_⟩
    · refine a_append Tryz.underlying32 Tryz.underlying32 sz_48 z_48 rfl by_48 (by decide) rfl rfl o3 ((h3.mono hM1).holds hS) (hS.pull H3) (by simp; omega) rfl fun s4 H4 w o4 hS => ?_
      try rw [List.nil_append] at o4
      refine zE ⟨fun _ _ => ⟨hS.c, hS.cells rfl⟩, zU 8 511 rfl (a_bslice encRV [⟨(j.next m.opn).o, (j.next m.opn).n, sa1, m.opn.length, sc1⟩] Tryz.underlying32 sz_48 z_48 rfl (.cons rfl .nil) rfl rfl rfl (by decide) hS rfl fun u5 H5 w o5 hS => zE ⟨fun _ _ => ⟨hS.c, hS.cells rfl⟩, zU 9 1023 rfl (a_append Tryz.underlying32 Tryz.underlying32 sz_48 z_48 rfl by_48 (by decide) rfl rfl o4 (o5.holds (hS.pull H5)) (hS.pull H4) (by simp; omega) rfl fun s6 H6 w o6 hS => ?_)⟩)⟩
      obtain ⟨M2, hM2, hF6, hS⟩ := (hS.pull H6).freeze
      have r6 := o6.rdc hF6
      obtain ⟨a6, c6, rfl⟩ := o6.slice
      have hrv := ((h4.mono hM1).mono hM2).append (.cons (hnx.mono hM2) .nil)
      refine zE ⟨fun _ _ => ⟨hS.c, hS.cells rfl⟩, zPn 10 2047 rfl (zPf 11 4095 fl_85_5 rfl (zU 12 8191 rfl (zS sz_32 rfl hS fun w hS => zE ⟨fun h => absurd (by decide) h, zH (zQ (zR (wl (y_loadS st_48 sz_48 rfl (vs := [.int .i64 (j.next m.opn).o, .int .i64 (j.next m.opn).n, .slice sa1 m.opn.length sc1]) (hS.cells rfl) rfl) rfl (zG (vs := [_, _, _]) sz_48 rfl hS fun w hS => zA rfl (zE (zV (wret (vs := [_, _]) (.cell rfl (loadVar_struct st_48 sz_48 (vs := [_, _, _]) rfl (hS.cells rfl)) (.tmp rfl .nil)) ?_)))))))⟩)))⟩
      first
      | exact ⟨M, _, _, _, Mle.refl _, Rd.nil, rfl, hb0, hj, hS.keep⟩
      | exact ⟨M1, _, _, _, hM1, Rd.nil, rfl, hb0.mono hM1, hj1, hS.keep⟩
      | (simp only [zL, cells_agg, setCells] at hS
         exact ⟨M2, _, _, _, hM1.trans hM2, hs1.mono hM2, rfl, ⟨_, _, _, _, _, h1.mono (hM1.trans hM2), h2.mono (hM1.trans hM2), r6, hrv, Rdc.nil, rfl⟩, hj1.mono hM2, hS.keep⟩)
    refine a_bslice encRV [⟨(j.next m.opn).o, (j.next m.opn).n, sa1, m.opn.length, sc1⟩] Tryz.underlying32 sz_48 z_48 rfl (.cons rfl .nil) rfl rfl rfl (by decide) hS rfl fun u5 H5 w o5 hS => ?_
    refine zE ⟨fun _ _ => ⟨hS.c, hS.cells rfl⟩, zU 6 511 rfl (a_append Tryz.underlying32 Tryz.underlying32 sz_48 z_48 rfl by_48 (by decide) rfl rfl o3 ((h3.mono hM1).holds hS) (hS.pull H3) (by simp; omega) rfl fun s4 H4 w o4 hS => ?_)⟩
    try rw [List.nil_append] at o4
    refine zE ⟨fun _ _ => ⟨hS.c, hS.cells rfl⟩, zU 9 1023 rfl (a_append Tryz.underlying32 Tryz.underlying32 sz_48 z_48 rfl by_48 (by decide) rfl rfl o4 (o5.holds (hS.pull H5)) (hS.pull H4) (by simp; omega) rfl fun s6 H6 w o6 hS => ?_)⟩
    obtain ⟨M2, hM2, hF6, hS⟩ := (hS.pull H6).freeze
    have r6 := o6.rdc hF6
    obtain ⟨a6, c6, rfl⟩ := o6.slice
    have hrv := ((h4.mono hM1).mono hM2).append (.cons (hnx.mono hM2) .nil)
    refine zE ⟨fun _ _ => ⟨hS.c, hS.cells rfl⟩, zPn 10 2047 rfl (zPf 11 4095 fl_85_5 rfl (zU 12 8191 rfl (zS sz_32 rfl hS fun w hS => zE ⟨fun h => absurd (by decide) h, zH (zQ (zR (wl (y_loadS st_48 sz_48 rfl (vs := [.int .i64 (j.next m.opn).o, .int .i64 (j.next m.opn).n, .slice sa1 m.opn.length sc1]) (hS.cells rfl) rfl) rfl (zG (vs := [_, _, _]) sz_48 rfl hS fun w hS => zA rfl (zE (zV (wret (vs := [_, _]) (.cell rfl (loadVar_struct st_48 sz_48 (vs := [_, _, _]) rfl (hS.cells rfl)) (.tmp rfl .nil)) ?_)))))))⟩)))⟩
    first
    | exact ⟨M, _, _, _, Mle.refl _, Rd.nil, rfl, hb0, hj, hS.keep⟩
    | exact ⟨M1, _, _, _, hM1, Rd.nil, rfl, hb0.mono hM1, hj1, hS.keep⟩
    | (simp only [zL, cells_agg, setCells] at hS
       exact ⟨M2, _, _, _, hM1.trans hM2, hs1.mono hM2, rfl, ⟨_, _, _, _, _, h1.mono (hM1.trans hM2), h2.mono (hM1.trans hM2), r6, hrv, Rdc.nil, rfl⟩, hj1.mono hM2, hS.keep⟩)
  refine a_bslice encRV [⟨(j.next m.opn).o, (j.next m.opn).n, sa1, m.opn.length, sc1⟩] Tryz.underlying32 sz_48 z_48 rfl (.cons rfl .nil) rfl rfl rfl (by decide) hS rfl fun u5 H5 w o5 hS => ?_
  refine zE ⟨fun _ _ => ⟨hS.c, hS.cells rfl⟩, zU 1 447 rfl (a_bslice encRV [] (vs := []) (ps := []) Tryz.underlying32 sz_48 z_48 rfl .nil rfl rfl rfl (by decide) hS rfl fun u3 H3 w o3 hS => zE ⟨fun _ _ => ⟨hS.c, hS.cells rfl⟩, zU 6 511 rfl (a_append Tryz.underlying32 Tryz.underlying32 sz_48 z_48 rfl by_48 (by decide) rfl rfl o3 ((h3.mono hM1).holds hS) (hS.pull H3) (by simp; omega) rfl fun s4 H4 w o4 hS => ?_)⟩)⟩
  try rw [List.nil_append] at o4
  refine zE ⟨fun _ _ => ⟨hS.c, hS.cells rfl⟩, zU 9 1023 rfl (a_append Tryz.underlying32 Tryz.underlying32 sz_48 z_48 rfl by_48 (by decide) rfl rfl o4 (o5.holds (hS.pull H5)) (hS.pull H4) (by simp; omega) rfl fun s6 H6 w o6 hS => ?_)⟩
  obtain ⟨M2, hM2, hF6, hS⟩ := (hS.pull H6).freeze
  have r6 := o6.rdc hF6
  obtain ⟨a6, c6, rfl⟩ := o6.slice
  have hrv := ((h4.mono hM1).mono hM2).append (.cons (hnx.mono hM2) .nil)
  refine zE ⟨fun _ _ => ⟨hS.c, hS.cells rfl⟩, zPn 10 2047 rfl (zPf 11 4095 fl_85_5 rfl (zU 12 8191 rfl (zS sz_32 rfl hS fun w hS => zE ⟨fun h => absurd (by decide) h, zH (zQ (zR (wl (y_loadS st_48 sz_48 rfl (vs := [.int .i64 (j.next m.opn).o, .int .i64 (j.next m.opn).n, .slice sa1 m.opn.length sc1]) (hS.cells rfl) rfl) rfl (zG (vs := [_, _, _]) sz_48 rfl hS fun w hS => zA rfl (zE (zV (wret (vs := [_, _]) (.cell rfl (loadVar_struct st_48 sz_48 (vs := [_, _, _]) rfl (hS.cells rfl)) (.tmp rfl .nil)) ?_)))))))⟩)))⟩
  first
  | exact ⟨M, _, _, _, Mle.refl _, Rd.nil, rfl, hb0, hj, hS.keep⟩
  | exact ⟨M1, _, _, _, hM1, Rd.nil, rfl, hb0.mono hM1, hj1, hS.keep⟩
  | (simp only [zL, cells_agg, setCells] at hS
     exact ⟨M2, _, _, _, hM1.trans hM2, hs1.mono hM2, rfl, ⟨_, _, _, _, _, h1.mono (hM1.trans hM2), h2.mono (hM1.trans hM2), r6, hrv, Rdc.nil, rfl⟩, hj1.mono hM2, hS.keep⟩)
end
end Go.Proofs.YtndahppmjdbifaaGreatDoor.Ref
set_option linter.unusedVariables false
set_option linter.unusedSimpArgs false
namespace Go.Proofs.YtndahppmjdbifaaGreatDoor.Ref
open Go Go.Proofs Eng Snd Lnk Fra Val Rou Jnl Cli
section
variable {M : Mem} {w : World} {Ls : List Chunk}
theorem r17take_c {p jp : Nat} {m : Cli} {H : Chunk} (r : Rnd) (s : Value) (hul : r.ups.length ≤ 137438953472) (hs : Rd M encU s r.ups) (hkl : m.known.length ≤ 137438953 ∧ m.pending.length ≤ 137438953) (hb : IsRC M p jp m H) (hS : St M w (H :: Ls)) :
    CallsR Tryz.prog 95 [.pointer (some ⟨p, 0, none⟩), rvS r s].toArray w fun v w' => ∃ M' H', Mle M M' ∧ v = .int .i64 (m.takE r) ∧ IsRC M' p jp (m.take r) H' ∧ St M' w' (H' :: Ls) := by
  have hb0 := hb
  obtain ⟨xs, sk, ys, sp, so, h1, h2, h3, h4, h5, rfl⟩ := hb
  have e2 := h2.len
  have e4 := h4.len
  obtain ⟨sa, sc, rfl⟩ := (hs.holds hS).slice
  have hrx : RvR M ⟨r.o, r.n, sa, r.ups.length, sc⟩ r := ⟨rfl, rfl, hs, hul⟩
  obtain ⟨h1, ka, kc, rfl, hkcap⟩ := h1
  obtain ⟨h3, pa, pc, rfl, hpcap⟩ := h3
  have h3' : Rdc M encRV (.slice pa ys.length pc) ys := ⟨h3, pa, pc, rfl, hpcap⟩
  by_cases ho : r.o = m.origin
  · cases hp : m.pending with
    | nil =>
      have he : m.takE r = 10 := by unfold Cli.takE; rw [if_pos ho, hp]
      have hq : m.take r = m := by unfold Cli.take; rw [if_neg (by omega)]
      rw [hp] at e4
      rw [he, hq]
      refine zC 52 Tryz.func95 rfl (zQ (zR (a_box rfl hS rfl fun b3 w hS => zA rfl (zE (zQ (zQ (zW hS (fun w => w.cell? ⟨b3, 0, none⟩ = some (.int .i64 r.o) ∧ w.cell? ⟨p, 1, none⟩ = some (.int .i64 m.origin)) [] wide_ rfl fun w hS => zPf 0 1 fl_48_0 rfl (zPm 2 5 rfl (zPn 3 13 rfl (zPf 4 29 fl_85_1 rfl (zD 1 31 rfl ⟨hS.c, hS.c⟩ (fun w hS => y_load pl_3 rfl hS.1) (zD 5 63 rfl ⟨hS.c, hS.c⟩ (fun w hS => y_load pl_3 rfl hS.2) (zP 6 127 rfl (fun w => y_eql rfl rfl) (zH (wc_ifT rfl (decide_eq_true ho) (zQ (zQ (zW hS (fun w => w.cell? ⟨p, 5, none⟩ = some (.slice pa ys.length pc)) [] wide_ rfl fun w hS => zPm 0 1 rfl (zPn 1 3 rfl (zPf 2 7 fl_85_5 rfl (zD 3 15 rfl (hS.cell rfl) (fun w hS => y_load pl_32 rfl hS) (zP 4 31 rfl (fun w => y_len_sl Tryz.underlying32 rfl) (zP 5 63 rfl (fun w => (y_eql rfl rfl).val (u := .bool true) (congrArg Value.bool (decide_eq_true (by simpa using e4)))) (zPm 6 127 rfl (zDO 7 255 rfl (zDO 8 511 rfl (zDO 9 1023 rfl (zDO 14 17407 rfl (zDO 10 18431 rfl (zDO 11 20479 rfl (zDO 12 24575 rfl (zDO 13 32767 rfl (zDO 15 65535 rfl (zDO 16 131071 rfl (zP 17 262143 rfl (fun w => y_pickT rfl rfl) (zH (wc_ifT rfl (rfl) (zQ (zR (zA rfl (zE (zV (z1 rfl ?_)))))))))))))))))))))))))))))))))))))))))))
      exact ⟨M, _, Mle.refl _, rfl, hb0, hS.keep⟩
    | cons x0 rest =>
      have hx := h4.at (i := 0) (r := x0) (by rw [hp] <;> rfl)
      obtain ⟨y0, hy0, hyr⟩ := hx
      have hd := hyr.2.1
      have hpl := hkl.2
      rw [hp] at e4 hpl
      simp only [List.length_cons] at e4 hpl
      obtain ⟨bb, off, c', hse, hce⟩ := (h3.holds hS).at hy0
      simp only [Value.slice.injEq] at hse
      have hSk := hS
      obtain ⟨rfl, _, rfl⟩ := hse
      replace hS := hSk
      refine zC 52 Tryz.func95 rfl (zQ (zR (a_box rfl hS rfl fun b3 w hS => zA rfl (zE (zQ (zQ (zW hS (fun w => w.cell? ⟨b3, 0, none⟩ = some (.int .i64 r.o) ∧ w.cell? ⟨p, 1, none⟩ = some (.int .i64 m.origin)) [] wide_ rfl fun w hS => zPf 0 1 fl_48_0 rfl (zPm 2 5 rfl (zPn 3 13 rfl (zPf 4 29 fl_85_1 rfl (zD 1 31 rfl ⟨hS.c, hS.c⟩ (fun w hS => y_load pl_3 rfl hS.1) (zD 5 63 rfl ⟨hS.c, hS.c⟩ (fun w hS => y_load pl_3 rfl hS.2) (zP 6 127 rfl (fun w => y_eql rfl rfl) (zH (wc_ifT rfl (decide_eq_true ho) (zQ (zQ (zW hS (fun w => w.cell? ⟨p, 5, none⟩ = some (.slice (some ⟨bb, off, none⟩) ys.length pc) ∧ Holds w encRV (.slice (some ⟨bb, off, none⟩) ys.length pc) ys ∧ w.cell? ⟨b3, 1, none⟩ = some (.int .i64 r.n)) [] wide_ rfl fun w hS => zPm 0 1 rfl (zPn 1 3 rfl (zPf 2 7 fl_85_5 rfl (zD 3 15 rfl ⟨hS.c, h3.holds hS, hS.c⟩ (fun w hS => y_load pl_32 rfl hS.1) (zP 4 31 rfl (fun w => y_len_sl Tryz.underlying32 rfl) (zP 5 63 rfl (fun w => (y_eql rfl rfl).val (u := .bool false) (congrArg Value.bool (decide_eq_false (by omega)))) (zPm 6 127 rfl (zPG 7 255 rfl (fun w => y_move rfl) (zPG 8 511 rfl (fun w => y_nil rfl) (zPG 9 1023 rfl (fun w => y_fld fl_85_5 rfl) (zPG 14 17407 rfl (fun w => y_fld fl_48_1 rfl) (zDG 10 18431 rfl ⟨hS.c, h3.holds hS, hS.c⟩ (fun w hS => y_load pl_32 rfl hS.1) (zPG 11 20479 rfl (fun w => y_ixa_sl Tryz.underlying32 sz_48 rfl rfl (by omega) (by omega)) (zPG 12 24575 rfl (fun w => y_fld fl_48_1 rfl) (zDG 13 32767 rfl ⟨hS.c, h3.holds hS, hS.c⟩ (fun w hS => y_load pl_3 rfl (hS.2.1.cellAt hy0 (j := 1) rfl)) (zDG 15 65535 rfl ⟨hS.c, h3.holds hS, hS.c⟩ (fun w hS => y_load pl_3 rfl hS.2.2) (zPG 16 131071 rfl (fun w => y_neq rfl rfl) (zP 17 262143 rfl (fun w => y_pickF rfl rfl) (zH (zIf rfl (fun hc29 => ?_) fun hc29 => ?_)))))))))))))))))))))))))))))))))))))
      · have he : m.takE r = 10 := by unfold Cli.takE; rw [if_pos ho, hp]; simp only []; rw [if_neg (by omega)]
        have hq : m.take r = m := by unfold Cli.take; rw [if_neg (by omega)]
        rw [he, hq]
        refine zQ (zR (zA rfl (zE (zV (z1 rfl ?_)))))
        first
        | exact ⟨M, _, Mle.refl _, rfl, hb0, hS.keep⟩
        | (simp only [zL, cells_agg, setCells] at hS
           exact ⟨M2, _, hM1.trans hM2, rfl, ⟨_, _, _, _, so, r6, ((h2.mono hM1).mono hM2).append (.cons ((hrx.mono hM1).mono hM2) .nil), r2.mono hM2, hdr.mono (hM1.trans hM2), h5.mono (hM1.trans hM2), rfl⟩, hS.keep⟩)
      have he : m.takE r = 0 := by unfold Cli.takE; rw [if_pos ho, hp]; simp only []; rw [if_pos (by omega)]
      have hq : m.take r = { m with known := m.known ++ [r], pending := rest } := by unfold Cli.take; rw [if_pos he, if_pos ho, hp] <;> rfl
      rw [he, hq]
      have hdr := h4.drop 1
      rw [hp, show (x0 :: rest).drop 1 = rest from rfl] at hdr
      refine zK (zR (zM rfl (a_bslice encRV [] (vs := []) (ps := []) Tryz.underlying32 sz_48 z_48 rfl .nil rfl rfl rfl (by decide) hS rfl fun u1 H1 w o1 hS => zM rfl (zN rfl (zF fl_85_5 rfl (wl (y_load pl_32 rfl (hS.c (v := .slice (some ⟨bb, off, none⟩) ys.length pc))) rfl (wl (y_slFrom (lv := 1) Tryz.underlying32 sz_48 rfl rfl (by omega) (by omega) (by omega)) rfl (a_append Tryz.underlying32 Tryz.underlying32 sz_48 z_48 rfl by_48 (by decide) rfl rfl o1 ((h3.holds hS).cut (by omega) hpcap) (hS.pull H1) (by simp; omega) rfl fun s2 H2 w o2 hS => ?_))))))))
      try rw [List.nil_append] at o2
      obtain ⟨M1, hM1, hF2, hS⟩ := (hS.pull H2).freeze
      have r2 := o2.rdc hF2
      obtain ⟨a2, c2, rfl⟩ := o2.slice
      refine zN rfl (zF fl_85_5 rfl (zS sz_32 rfl hS fun w hS => zE (zQ (zW hS (fun w => w.cell? ⟨p, 4, none⟩ = some (.slice ka xs.length kc) ∧ CellsAt w b3 0 [.int .i64 r.o, .int .i64 r.n, .slice sa r.ups.length sc]) [12] wide_ rfl fun w hS => zPm 0 1 rfl (zPm 2 5 rfl (zPn 3 13 rfl (zPf 4 29 fl_85_4 rfl (zD 5 61 rfl ⟨hS.c, hS.cells rfl⟩ (fun w hS => y_load pl_32 rfl hS.1) (zD 7 189 rfl ⟨hS.c, hS.cells rfl⟩ (fun w hS => y_loadS st_48 sz_48 rfl hS.2 rfl) (dr_do2 (i := 1) (j := 8) (lb 13 191) (lb 13 445) rfl rfl (by kernel_rfl) ?_ ?_))))))))))
      · refine a_bslice encRV [] (vs := []) (ps := []) Tryz.underlying32 sz_48 z_48 rfl .nil rfl rfl rfl (by decide) hS rfl fun u3 H3 w o3 hS => ?_
        refine zE ⟨fun _ _ => ⟨hS.c, hS.cells rfl⟩, dr_do2 (i := 6) (j := 8) (lb 13 255) (lb 13 447) rfl rfl (by kernel_rfl) ?_ ?_⟩
        · refine a_append Tryz.underlying32 Tryz.underlying32 sz_48 z_48 rfl by_48 (by decide) rfl rfl o3 ((h1.mono hM1).holds hS) (hS.pull H3) (by simp; omega) rfl fun s4 H4 w o4 hS => ?_
          try rw [List.nil_append] at o4
          refine zE ⟨fun _ _ => ⟨hS.c, hS.cells rfl⟩, zU 8 511 rfl (a_bslice encRV [⟨r.o, r.n, sa, r.ups.length, sc⟩] Tryz.underlying32 sz_48 z_48 rfl (.cons rfl .nil) rfl rfl rfl (by decide) hS rfl fun u5 H5 w o5 hS => zE ⟨fun _ _ => ⟨hS.c, hS.cells rfl⟩, zU 9 1023 rfl (a_append Tryz.underlying32 Tryz.underlying32 sz_48 z_48 rfl by_48 (by decide) rfl rfl o4 (o5.holds (hS.pull H5)) (hS.pull H4) (by simp; omega) rfl fun s6 H6 w o6 hS => ?_)⟩)⟩
          obtain ⟨M2, hM2, hF6, hS⟩ := (hS.pull H6).freeze
          have r6 := o6.rdc hF6
          obtain ⟨a6, c6, rfl⟩ := o6.slice
          refine zE ⟨fun _ _ => ⟨hS.c, hS.cells rfl⟩, zPn 10 2047 rfl (zPf 11 4095 fl_85_4 rfl (zU 12 8191 rfl (zS sz_32 rfl hS fun w hS => zE ⟨fun h => absurd (by decide) h, zH (zQ (zR (zA rfl (zE (zV (z1 rfl ?_))))))⟩)))⟩
          first
          | exact ⟨M, _, Mle.refl _, rfl, hb0, hS.keep⟩
          | (simp only [zL, cells_agg, setCells] at hS
             exact ⟨M2, _, hM1.trans hM2, rfl, ⟨_, _, _, _, so, r6, ((h2.mono hM1).mono hM2).append (.cons ((hrx.mono hM1).mono hM2) .nil), r2.mono hM2, hdr.mono (hM1.trans hM2), h5.mono (hM1.trans hM2), rfl⟩, hS.keep⟩)
        refine a_bslice encRV [⟨r.o, r.n, sa, r.ups.length, sc⟩] Tryz.underlying32 sz_48 z_48 rfl (.cons rfl .nil) rfl rfl rfl (by decide) hS rfl fun u5 H5 w o5 hS => ?_
        refine zE ⟨fun _ _ => ⟨hS.c, hS.cells rfl⟩, zU 6 511 rfl (a_append Tryz.underlying32 Tryz.underlying32 sz_48 z_48 rfl by_48 (by decide) rfl rfl o3 ((h1.mono hM1).holds hS) (hS.pull H3) (by simp; omega) rfl fun s4 H4 w o4 hS => ?_)⟩
        try rw [List.nil_append] at o4
        refine zE ⟨fun _ _ => ⟨hS.c, hS.cells rfl⟩, zU 9 1023 rfl (a_append Tryz.underlying32 Tryz.underlying32 sz_48 z_48 rfl by_48 (by decide) rfl rfl o4 (o5.holds (hS.pull H5)) (hS.pull H4) (by simp; omega) rfl fun s6 H6 w o6 hS => ?_)⟩
        obtain ⟨M2, hM2, hF6, hS⟩ := (hS.pull H6).freeze
        have r6 := o6.rdc hF6
        obtain ⟨a6, c6, rfl⟩ := o6.slice
        refine zE ⟨fun _ _ => ⟨hS.c, hS.cells rfl⟩, zPn 10 2047 rfl (zPf 11 4095 fl_85_4 rfl (zU 12 8191 rfl (zS sz_32 rfl hS fun w hS => zE ⟨fun h => absurd (by decide) h, zH (zQ (zR (zA rfl (zE (zV (z1 rfl ?_))))))⟩)))⟩
        first
        | exact ⟨M, _, Mle.refl _, rfl, hb0, hS.keep⟩
        | (simp only [zL, cells_agg, setCells] at hS
           exact ⟨M2, _, hM1.trans hM2, rfl, ⟨_, _, _, _, so, r6, ((h2.mono hM1).mono hM2).append (.cons ((hrx.mono hM1).mono hM2) .nil), r2.mono hM2, hdr.mono (hM1.trans hM2), h5.mono (hM1.trans hM2), rfl⟩, hS.keep⟩)
      refine a_bslice encRV [⟨r.o, r.n, sa, r.ups.length, sc⟩] Tryz.underlying32 sz_48 z_48 rfl (.cons rfl .nil) rfl rfl rfl (by decide) hS rfl fun u5 H5 w o5 hS => ?_
      refine zE ⟨fun _ _ => ⟨hS.c, hS.cells rfl⟩, zU 1 447 rfl (a_bslice encRV [] (vs := []) (ps := []) Tryz.underlying32 sz_48 z_48 rfl .nil rfl rfl rfl (by decide) hS rfl fun u3 H3 w o3 hS => zE ⟨fun _ _ => ⟨hS.c, hS.cells rfl⟩, zU 6 511 rfl (a_append Tryz.underlying32 Tryz.underlying32 sz_48 z_48 rfl by_48 (by decide) rfl rfl o3 ((h1.mono hM1).holds hS) (hS.pull H3) (by simp; omega) rfl fun s4 H4 w o4 hS => ?_)⟩)⟩
      try rw [List.nil_append] at o4
      refine zE ⟨fun _ _ => ⟨hS.c, hS.cells rfl⟩, zU 9 1023 rfl (a_append Tryz.underlying32 Tryz.underlying32 sz_48 z_48 rfl by_48 (by decide) rfl rfl o4 (o5.holds (hS.pull H5)) (hS.pull H4) (by simp; omega) rfl fun s6 H6 w o6 hS => ?_)⟩
      obtain ⟨M2, hM2, hF6, hS⟩ := (hS.pull H6).freeze
      have r6 := o6.rdc hF6
      obtain ⟨a6, c6, rfl⟩ := o6.slice
      refine zE ⟨fun _ _ => ⟨hS.c, hS.cells rfl⟩, zPn 10 2047 rfl (zPf 11 4095 fl_85_4 rfl (zU 12 8191 rfl (zS sz_32 rfl hS fun w hS => zE ⟨fun h => absurd (by decide) h, zH (zQ (zR (zA rfl (zE (zV (z1 rfl ?_))))))⟩)))⟩
      first
      | exact ⟨M, _, Mle.refl _, rfl, hb0, hS.keep⟩
      | (simp only [zL, cells_agg, setCells] at hS
         exact ⟨M2, _, hM1.trans hM2, rfl, ⟨_, _, _, _, so, r6, ((h2.mono hM1).mono hM2).append (.cons ((hrx.mono hM1).mono hM2) .nil), r2.mono hM2, hdr.mono (hM1.trans hM2), h5.mono (hM1.trans hM2), rfl⟩, hS.keep⟩)
  have he : m.takE r = 0 := by unfold Cli.takE; rw [if_neg ho]
  have hq : m.take r = { m with known := m.known ++ [r] } := by unfold Cli.take; rw [if_pos he, if_neg ho]
  rw [he, hq]
  refine zC 52 Tryz.func95 rfl (zQ (zR (a_box rfl hS rfl fun b3 w hS => zA rfl (zE (zQ (zQ (zW hS (fun w => w.cell? ⟨b3, 0, none⟩ = some (.int .i64 r.o) ∧ w.cell? ⟨p, 1, none⟩ = some (.int .i64 m.origin)) [] wide_ rfl fun w hS => zPf 0 1 fl_48_0 rfl (zPm 2 5 rfl (zPn 3 13 rfl (zPf 4 29 fl_85_1 rfl (zD 1 31 rfl ⟨hS.c, hS.c⟩ (fun w hS => y_load pl_3 rfl hS.1) (zD 5 63 rfl ⟨hS.c, hS.c⟩ (fun w hS => y_load pl_3 rfl hS.2) (zP 6 127 rfl (fun w => y_eql rfl rfl) (zH (wc_ifF rfl (decide_eq_false ho) (zK (zQ (zW hS (fun w => w.cell? ⟨p, 4, none⟩ = some (.slice ka xs.length kc) ∧ CellsAt w b3 0 [.int .i64 r.o, .int .i64 r.n, .slice sa r.ups.length sc]) [12] wide_ rfl fun w hS => zPm 0 1 rfl (zPm 2 5 rfl (zPn 3 13 rfl (zPf 4 29 fl_85_4 rfl (zD 5 61 rfl ⟨hS.c, hS.cells rfl⟩ (fun w hS => y_load pl_32 rfl hS.1) (zD 7 189 rfl ⟨hS.c, hS.cells rfl⟩ (fun w hS => y_loadS st_48 sz_48 rfl hS.2 rfl) (dr_do2 (i := 1) (j := 8) (lb 13 191) (lb 13 445) rfl rfl (by kernel_rfl) ?_ ?_))))))))))))))))))))))))
  · refine a_bslice encRV [] (vs := []) (ps := []) Tryz.underlying32 sz_48 z_48 rfl .nil rfl rfl rfl (by decide) hS rfl fun u3 H3 w o3 hS => ?_
    refine zE ⟨fun _ _ => ⟨hS.c, hS.cells rfl⟩, dr_do2 (i := 6) (j := 8) (lb 13 255) (lb 13 447) rfl rfl (by kernel_rfl) ?_ ?_⟩
    · refine a_append Tryz.underlying32 Tryz.underlying32 sz_48 z_48 rfl by_48 (by decide) rfl rfl o3 (h1.holds hS) (hS.pull H3) (by simp; omega) rfl fun s4 H4 w o4 hS => ?_
      try rw [List.nil_append] at o4
      refine zE ⟨fun _ _ => ⟨hS.c, hS.cells rfl⟩, zU 8 511 rfl (a_bslice encRV [⟨r.o, r.n, sa, r.ups.length, sc⟩] Tryz.underlying32 sz_48 z_48 rfl (.cons rfl .nil) rfl rfl rfl (by decide) hS rfl fun u5 H5 w o5 hS => zE ⟨fun _ _ => ⟨hS.c, hS.cells rfl⟩, zU 9 1023 rfl (a_append Tryz.underlying32 Tryz.underlying32 sz_48 z_48 rfl by_48 (by decide) rfl rfl o4 (o5.holds (hS.pull H5)) (hS.pull H4) (by simp; omega) rfl fun s6 H6 w o6 hS => ?_)⟩)⟩
      obtain ⟨M2, hM2, hF6, hS⟩ := (hS.pull H6).freeze
      have r6 := o6.rdc hF6
      obtain ⟨a6, c6, rfl⟩ := o6.slice
      refine zE ⟨fun _ _ => ⟨hS.c, hS.cells rfl⟩, zPn 10 2047 rfl (zPf 11 4095 fl_85_4 rfl (zU 12 8191 rfl (zS sz_32 rfl hS fun w hS => zE ⟨fun h => absurd (by decide) h, zH (zQ (zR (zA rfl (zE (zV (z1 rfl ?_))))))⟩)))⟩
      simp only [zL, cells_agg, setCells] at hS
      exact ⟨M2, _, hM2, rfl, ⟨_, _, _, _, so, r6, (h2.mono hM2).append (.cons (hrx.mono hM2) .nil), h3'.mono hM2, h4.mono hM2, h5.mono hM2, rfl⟩, hS.keep⟩
    refine a_bslice encRV [⟨r.o, r.n, sa, r.ups.length, sc⟩] Tryz.underlying32 sz_48 z_48 rfl (.cons rfl .nil) rfl rfl rfl (by decide) hS rfl fun u5 H5 w o5 hS => ?_
    refine zE ⟨fun _ _ => ⟨hS.c, hS.cells rfl⟩, zU 6 511 rfl (a_append Tryz.underlying32 Tryz.underlying32 sz_48 z_48 rfl by_48 (by decide) rfl rfl o3 (h1.holds hS) (hS.pull H3) (by simp; omega) rfl fun s4 H4 w o4 hS => ?_)⟩
    try rw [List.nil_append] at o4
    refine zE ⟨fun _ _ => ⟨hS.c, hS.cells rfl⟩, zU 9 1023 rfl (a_append Tryz.underlying32 Tryz.underlying32 sz_48 z_48 rfl by_48 (by decide) rfl rfl o4 (o5.holds (hS.pull H5)) (hS.pull H4) (by simp; omega) rfl fun s6 H6 w o6 hS => ?_)⟩
    obtain ⟨M2, hM2, hF6, hS⟩ := (hS.pull H6).freeze
    have r6 := o6.rdc hF6
    obtain ⟨a6, c6, rfl⟩ := o6.slice
    refine zE ⟨fun _ _ => ⟨hS.c, hS.cells rfl⟩, zPn 10 2047 rfl (zPf 11 4095 fl_85_4 rfl (zU 12 8191 rfl (zS sz_32 rfl hS fun w hS => zE ⟨fun h => absurd (by decide) h, zH (zQ (zR (zA rfl (zE (zV (z1 rfl ?_))))))⟩)))⟩
    simp only [zL, cells_agg, setCells] at hS
    exact ⟨M2, _, hM2, rfl, ⟨_, _, _, _, so, r6, (h2.mono hM2).append (.cons (hrx.mono hM2) .nil), h3'.mono hM2, h4.mono hM2, h5.mono hM2, rfl⟩, hS.keep⟩
  refine a_bslice encRV [⟨r.o, r.n, sa, r.ups.length, sc⟩] Tryz.underlying32 sz_48 z_48 rfl (.cons rfl .nil) rfl rfl rfl (by decide) hS rfl fun u5 H5 w o5 hS => ?_
  refine zE ⟨fun _ _ => ⟨hS.c, hS.cells rfl⟩, zU 1 447 rfl (a_bslice encRV [] (vs := []) (ps := []) Tryz.underlying32 sz_48 z_48 rfl .nil rfl rfl rfl (by decide) hS rfl fun u3 H3 w o3 hS => zE ⟨fun _ _ => ⟨hS.c, hS.cells rfl⟩, zU 6 511 rfl (a_append Tryz.underlying32 Tryz.underlying32 sz_48 z_48 rfl by_48 (by decide) rfl rfl o3 (h1.holds hS) (hS.pull H3) (by simp; omega) rfl fun s4 H4 w o4 hS => ?_)⟩)⟩
  try rw [List.nil_append] at o4
  refine zE ⟨fun _ _ => ⟨hS.c, hS.cells rfl⟩, zU 9 1023 rfl (a_append Tryz.underlying32 Tryz.underlying32 sz_48 z_48 rfl by_48 (by decide) rfl rfl o4 (o5.holds (hS.pull H5)) (hS.pull H4) (by simp; omega) rfl fun s6 H6 w o6 hS => ?_)⟩
  obtain ⟨M2, hM2, hF6, hS⟩ := (hS.pull H6).freeze
  have r6 := o6.rdc hF6
  obtain ⟨a6, c6, rfl⟩ := o6.slice
  refine zE ⟨fun _ _ => ⟨hS.c, hS.cells rfl⟩, zPn 10 2047 rfl (zPf 11 4095 fl_85_4 rfl (zU 12 8191 rfl (zS sz_32 rfl hS fun w hS => zE ⟨fun h => absurd (by decide) h, zH (zQ (zR (zA rfl (zE (zV (z1 rfl ?_))))))⟩)))⟩
  simp only [zL, cells_agg, setCells] at hS
  exact ⟨M2, _, hM2, rfl, ⟨_, _, _, _, so, r6, (h2.mono hM2).append (.cons (hrx.mono hM2) .nil), h3'.mono hM2, h4.mono hM2, h5.mono hM2, rfl⟩, hS.keep⟩
end
end Go.Proofs.YtndahppmjdbifaaGreatDoor.Ref
set_option linter.unusedVariables false
set_option linter.unusedSimpArgs false
namespace Go.Proofs.YtndahppmjdbifaaGreatDoor.Ref
open Go Go.Proofs Eng Snd Lnk Fra Val Rou Jnl Cli Nod Pre Pak Crc
def fmayE (f : Frm) : Nat := if ¬ (1 ≤ f.ep ∧ f.ep ≤ 1099511627776) then 1 else if ¬ (0 ≤ f.seq ∧ f.seq ≤ 1125899906842624) then 1 else if ¬ (0 ≤ f.ack ∧ f.ack ≤ 1125899906842624) then 1 else if f.seq = 0 ∧ ¬ f.data = ⟨#[]⟩ then 13 else 0
theorem fmay_bad {f : Frm} (h : ¬ (1 ≤ f.ep ∧ f.ep ≤ 1099511627776) ∨ ¬ (0 ≤ f.seq ∧ f.seq ≤ 1125899906842624) ∨ ¬ (0 ≤ f.ack ∧ f.ack ≤ 1125899906842624)) : fmayE f = 1 := by
  unfold fmayE; split; · rfl
  split; · rfl
  split; · rfl
  exfalso; omega
theorem fmay_good {f : Frm} (h1 : 1 ≤ f.ep ∧ f.ep ≤ 1099511627776) (h2 : 0 ≤ f.seq ∧ f.seq ≤ 1125899906842624) (h3 : 0 ≤ f.ack ∧ f.ack ≤ 1125899906842624) : fmayE f = if f.seq = 0 ∧ ¬ f.data = ⟨#[]⟩ then 13 else 0 := by
  unfold fmayE; rw [if_neg (by omega), if_neg (by omega), if_neg (by omega)]
theorem fputE_may {f : Frm} {mtu : Int} (h : 64 ≤ mtu ∧ mtu ≤ 1400) : fputE f mtu = if fmayE f ≠ 0 then fmayE f else if ((fbytes f).size : Int) > mtu then 3 else 0 := by
  unfold fputE
  rw [if_neg (by omega)]
  split
  · rename_i h1; rw [fmay_bad (.inl h1)] <;> rfl
  rename_i h1
  split
  · rename_i h2; rw [fmay_bad (.inr (.inl h2))] <;> rfl
  rename_i h2
  split
  · rename_i h3; rw [fmay_bad (.inr (.inr h3))] <;> rfl
  rename_i h3
  rw [fmay_good (by omega) (by omega) (by omega)]
  by_cases h4 : f.seq = 0
  · rw [if_pos h4]
    by_cases h5 : f.data = ⟨#[]⟩
    · have hn : ¬ (f.seq = 0 ∧ ¬ f.data = ⟨#[]⟩) := fun h => h.2 h5
      rw [if_neg (fun h => h h5), if_neg hn] <;> rfl
    have hy : (if f.seq = 0 ∧ ¬ f.data = ⟨#[]⟩ then 13 else 0) = 13 := if_pos ⟨h4, h5⟩
    rw [if_pos h5, hy] <;> rfl
  have hn : ¬ (f.seq = 0 ∧ ¬ f.data = ⟨#[]⟩) := fun h => h4 h.1
  rw [if_neg h4, if_neg hn] <;> rfl
section
variable {M : Mem} {w : World} {Ls : List Chunk}
theorem r9may_c (f : Frm) (hS : St M w Ls) : CallsR Tryz.prog 182 [fv f].toArray w fun v w' => v = .int .i64 (fmayE f) ∧ St M w' Ls := by
  have hbad := @fmay_bad f
  have hgood := @fmay_good f
  refine zC 39 Tryz.func182 rfl (zQ (zR (a_box rfl hS rfl fun b1 w hS => zA rfl (zE (zQ (zQ (zR (zF fl_42_0 rfl (wl (y_load pl_3 rfl (hS.c (v := .int .i64 f.ep))) rfl (wl (y_lss rfl rfl) rfl (zM rfl (zWc (s := 6) rfl (fun hg6 => ?_) fun hg6 => ?_))))))))))))
  · refine zO rfl ?_
    refine zO rfl (zO rfl (wl (y_pickT rfl rfl) rfl (zM rfl (zO rfl (zO rfl (zO rfl (wl (y_pickT rfl rfl) rfl (zM rfl (zO rfl (zO rfl (zO rfl (wl (y_pickT rfl rfl) rfl (zM rfl (zO rfl (zO rfl (zO rfl (wl (y_pickT rfl rfl) rfl (zM rfl (zO rfl (zO rfl (zO rfl (wl (y_pickT rfl rfl) rfl (zE (wc_ifT rfl rfl (zQ (zR (zA rfl (zE (zV (z1 rfl ?_))))))))))))))))))))))))))))))
    first
    | exact ⟨congrArg (Value.int .i64) (by rw [hbad (by omega)] <;> rfl), hS.keep⟩
    | exact ⟨congrArg (Value.int .i64) (by rw [hgood (by omega) (by omega) (by omega), if_pos ⟨by omega, by assumption⟩] <;> rfl), hS.keep⟩
    | exact ⟨congrArg (Value.int .i64) (by rw [hgood (by omega) (by omega) (by omega), if_neg (fun h => by first | omega | exact h.2 (by assumption))] <;> rfl), hS.keep⟩
  refine zI rfl ?_
  refine zF fl_42_0 rfl (zI rfl (wl (y_load pl_3 rfl (hS.c (v := .int .i64 f.ep))) rfl (zI rfl (wl (y_gtr rfl rfl) rfl (wl (y_pickF rfl rfl) rfl (zM rfl (zWc (s := 11) rfl (fun hg11 => ?_) fun hg11 => ?_)))))))
  · refine zO rfl ?_
    refine zO rfl (zO rfl (wl (y_pickT rfl rfl) rfl (zM rfl (zO rfl (zO rfl (zO rfl (wl (y_pickT rfl rfl) rfl (zM rfl (zO rfl (zO rfl (zO rfl (wl (y_pickT rfl rfl) rfl (zM rfl (zO rfl (zO rfl (zO rfl (wl (y_pickT rfl rfl) rfl (zE (wc_ifT rfl rfl (zQ (zR (zA rfl (zE (zV (z1 rfl ?_)))))))))))))))))))))))))
    first
    | exact ⟨congrArg (Value.int .i64) (by rw [hbad (by omega)] <;> rfl), hS.keep⟩
    | exact ⟨congrArg (Value.int .i64) (by rw [hgood (by omega) (by omega) (by omega), if_pos ⟨by omega, by assumption⟩] <;> rfl), hS.keep⟩
    | exact ⟨congrArg (Value.int .i64) (by rw [hgood (by omega) (by omega) (by omega), if_neg (fun h => by first | omega | exact h.2 (by assumption))] <;> rfl), hS.keep⟩
  refine zI rfl ?_
  refine zF fl_42_1 rfl (zI rfl (wl (y_load pl_3 rfl (hS.c (v := .int .i64 f.seq))) rfl (zI rfl (wl (y_lss rfl rfl) rfl (wl (y_pickF rfl rfl) rfl (zM rfl (zWc (s := 16) rfl (fun hg16 => ?_) fun hg16 => ?_)))))))
  · refine zO rfl ?_
    refine zO rfl (zO rfl (wl (y_pickT rfl rfl) rfl (zM rfl (zO rfl (zO rfl (zO rfl (wl (y_pickT rfl rfl) rfl (zM rfl (zO rfl (zO rfl (zO rfl (wl (y_pickT rfl rfl) rfl (zE (wc_ifT rfl rfl (zQ (zR (zA rfl (zE (zV (z1 rfl ?_))))))))))))))))))))
    first
    | exact ⟨congrArg (Value.int .i64) (by rw [hbad (by omega)] <;> rfl), hS.keep⟩
    | exact ⟨congrArg (Value.int .i64) (by rw [hgood (by omega) (by omega) (by omega), if_pos ⟨by omega, by assumption⟩] <;> rfl), hS.keep⟩
    | exact ⟨congrArg (Value.int .i64) (by rw [hgood (by omega) (by omega) (by omega), if_neg (fun h => by first | omega | exact h.2 (by assumption))] <;> rfl), hS.keep⟩
  refine zI rfl ?_
  refine zF fl_42_1 rfl (zI rfl (wl (y_load pl_3 rfl (hS.c (v := .int .i64 f.seq))) rfl (zI rfl (wl (y_gtr rfl rfl) rfl (wl (y_pickF rfl rfl) rfl (zM rfl (zWc (s := 21) rfl (fun hg21 => ?_) fun hg21 => ?_)))))))
  · refine zO rfl ?_
    refine zO rfl (zO rfl (wl (y_pickT rfl rfl) rfl (zM rfl (zO rfl (zO rfl (zO rfl (wl (y_pickT rfl rfl) rfl (zE (wc_ifT rfl rfl (zQ (zR (zA rfl (zE (zV (z1 rfl ?_)))))))))))))))
    first
    | exact ⟨congrArg (Value.int .i64) (by rw [hbad (by omega)] <;> rfl), hS.keep⟩
    | exact ⟨congrArg (Value.int .i64) (by rw [hgood (by omega) (by omega) (by omega), if_pos ⟨by omega, by assumption⟩] <;> rfl), hS.keep⟩
    | exact ⟨congrArg (Value.int .i64) (by rw [hgood (by omega) (by omega) (by omega), if_neg (fun h => by first | omega | exact h.2 (by assumption))] <;> rfl), hS.keep⟩
  refine zI rfl ?_
  refine zF fl_42_2 rfl (zI rfl (wl (y_load pl_3 rfl (hS.c (v := .int .i64 f.ack))) rfl (zI rfl (wl (y_lss rfl rfl) rfl (wl (y_pickF rfl rfl) rfl (zM rfl (zWc (s := 26) rfl (fun hg26 => ?_) fun hg26 => ?_)))))))
  · refine zO rfl ?_
    refine zO rfl (zO rfl (wl (y_pickT rfl rfl) rfl (zE (wc_ifT rfl rfl (zQ (zR (zA rfl (zE (zV (z1 rfl ?_))))))))))
    first
    | exact ⟨congrArg (Value.int .i64) (by rw [hbad (by omega)] <;> rfl), hS.keep⟩
    | exact ⟨congrArg (Value.int .i64) (by rw [hgood (by omega) (by omega) (by omega), if_pos ⟨by omega, by assumption⟩] <;> rfl), hS.keep⟩
    | exact ⟨congrArg (Value.int .i64) (by rw [hgood (by omega) (by omega) (by omega), if_neg (fun h => by first | omega | exact h.2 (by assumption))] <;> rfl), hS.keep⟩
  refine zI rfl ?_
  refine zF fl_42_2 rfl (zI rfl (wl (y_load pl_3 rfl (hS.c (v := .int .i64 f.ack))) rfl (zI rfl (wl (y_gtr rfl rfl) rfl (wl (y_pickF rfl rfl) rfl (zE (zIf rfl (fun hc30 => ?_) fun hc30 => ?_)))))))
  · refine zQ ?_
    refine zR (zA rfl (zE (zV (z1 rfl ?_))))
    first
    | exact ⟨congrArg (Value.int .i64) (by rw [hbad (by omega)] <;> rfl), hS.keep⟩
    | exact ⟨congrArg (Value.int .i64) (by rw [hgood (by omega) (by omega) (by omega), if_pos ⟨by omega, by assumption⟩] <;> rfl), hS.keep⟩
    | exact ⟨congrArg (Value.int .i64) (by rw [hgood (by omega) (by omega) (by omega), if_neg (fun h => by first | omega | exact h.2 (by assumption))] <;> rfl), hS.keep⟩
  refine zK ?_
  refine zQ (zQ (zR (zF fl_42_1 rfl (wl (y_load pl_3 rfl (hS.c (v := .int .i64 f.seq))) rfl (wl (y_eql rfl rfl) rfl (zM rfl (zWc (s := 34) rfl (fun hg34 => ?_) fun hg34 => ?_)))))))
  · refine zI rfl ?_
    refine zF fl_42_3 rfl (zI rfl (wl (y_load pl_9 rfl (hS.c (v := .string f.data))) rfl (zI rfl (wl (y_sneq rfl rfl) rfl (wl (y_pickT rfl rfl) rfl (zE (zIf rfl (fun hc38 => ?_) fun hc38 => ?_)))))))
    · refine zQ ?_
      refine zR (zA rfl (zE (zV (z1 rfl ?_))))
      first
      | exact ⟨congrArg (Value.int .i64) (by rw [hbad (by omega)] <;> rfl), hS.keep⟩
      | exact ⟨congrArg (Value.int .i64) (by rw [hgood (by omega) (by omega) (by omega), if_pos ⟨by omega, by assumption⟩] <;> rfl), hS.keep⟩
      | exact ⟨congrArg (Value.int .i64) (by rw [hgood (by omega) (by omega) (by omega), if_neg (fun h => by first | omega | exact h.2 (by assumption))] <;> rfl), hS.keep⟩
    refine zK ?_
    refine zQ (zR (zA rfl (zE (zV (z1 rfl ?_)))))
    first
    | exact ⟨congrArg (Value.int .i64) (by rw [hbad (by omega)] <;> rfl), hS.keep⟩
    | exact ⟨congrArg (Value.int .i64) (by rw [hgood (by omega) (by omega) (by omega), if_pos ⟨by omega, by assumption⟩] <;> rfl), hS.keep⟩
    | exact ⟨congrArg (Value.int .i64) (by rw [hgood (by omega) (by omega) (by omega), if_neg (fun h => by first | omega | exact h.2 (by assumption))] <;> rfl), hS.keep⟩
  refine zO rfl ?_
  refine zO rfl (zO rfl (wl (y_pickF rfl rfl) rfl (zE (wc_ifF rfl rfl (zK (zQ (zR (zA rfl (zE (zV (z1 rfl ?_)))))))))))
  first
  | exact ⟨congrArg (Value.int .i64) (by rw [hbad (by omega)] <;> rfl), hS.keep⟩
  | exact ⟨congrArg (Value.int .i64) (by rw [hgood (by omega) (by omega) (by omega), if_pos ⟨by omega, by assumption⟩] <;> rfl), hS.keep⟩
  | exact ⟨congrArg (Value.int .i64) (by rw [hgood (by omega) (by omega) (by omega), if_neg (fun h => by first | omega | exact h.2 (by assumption))] <;> rfl), hS.keep⟩
theorem r9bytes_c (f : Frm) (h1 : 1 ≤ f.ep ∧ f.ep ≤ 1099511627776) (h2 : 0 ≤ f.seq ∧ f.seq ≤ 1125899906842624) (h3 : 0 ≤ f.ack ∧ f.ack ≤ 1125899906842624) (hd : f.data.size ≤ 1400) (hS : St M w Ls) :
    CallsR Tryz.prog 183 [fv f].toArray w fun v w' => v = .string (fbytes f) ∧ St M w' Ls := by
  obtain ⟨e, he⟩ : ∃ e : Nat, f.ep = e := ⟨f.ep.toNat, by omega⟩
  obtain ⟨q, hq⟩ : ∃ q : Nat, f.seq = q := ⟨f.seq.toNat, by omega⟩
  obtain ⟨a, ha⟩ : ∃ a : Nat, f.ack = a := ⟨f.ack.toNat, by omega⟩
  have p1 := pput_length e
  have p2 := pput_length q
  have p3 := pput_length a
  have p4 := ptext_length f.data
  have hb : fbytes f = seal_ (str (pput e) ++ str (pput q) ++ str (pput a) ++ str (ptext f.data)) := by
    unfold fbytes fplain
    rw [str_app, str_app, str_app, show f.ep.toNat = e by omega, show f.seq.toNat = q by omega, show f.ack.toNat = a by omega]
  refine zC 37 Tryz.func183 rfl (zQ (zR (a_box rfl hS rfl fun b1 w hS => zA rfl (zE (zQ (zR (zF fl_42_0 rfl (wl (y_load pl_3 rfl (hS.c (v := .int .i64 f.ep))) rfl (wl_call (.cons rfl .nil) (by rw [he]; exact r3num_c e (by omega) hS) rfl ?_)))))))))
  rintro _ w ⟨rfl, hS⟩
  refine zM rfl (zX rfl (zX rfl (zA rfl (zA rfl (zE (zQ (zR (zF fl_42_1 rfl (wl (y_load pl_3 rfl (hS.c (v := .int .i64 f.seq))) rfl (wl_call (.cons rfl .nil) (by rw [hq]; exact r3num_c q (by omega) hS) rfl ?_))))))))))
  rintro _ w ⟨rfl, hS⟩
  refine zM rfl (zX rfl (zX rfl (zA rfl (zA rfl (zE (zQ (zR (zF fl_42_2 rfl (wl (y_load pl_3 rfl (hS.c (v := .int .i64 f.ack))) rfl (wl_call (.cons rfl .nil) (by rw [ha]; exact r3num_c a (by omega) hS) rfl ?_))))))))))
  rintro _ w ⟨rfl, hS⟩
  refine zM rfl (zX rfl (zX rfl (zA rfl (zA rfl (zE (zQ (zR (zM rfl (zM rfl (wl (y_sadd rfl rfl (by rw [str_len, str_len]; omega)) rfl (zM rfl (wl (y_sadd rfl rfl (by rw [ByteArray.size_append, str_len, str_len, str_len]; omega)) rfl (zF fl_42_3 rfl (wl (y_load pl_9 rfl (hS.c (v := .string f.data))) rfl (wl_call (.cons rfl .nil) (r3text_c f.data (by omega) hS) rfl ?_)))))))))))))))
  rintro _ w ⟨rfl, hS⟩
  refine wl (y_sadd rfl rfl (by rw [ByteArray.size_append, ByteArray.size_append, str_len, str_len, str_len, str_len]; omega)) rfl (wl_call (.cons rfl .nil) (rseal_c _ (by rw [ByteArray.size_append, ByteArray.size_append, ByteArray.size_append, str_len, str_len, str_len, str_len]; omega) hS) rfl ?_)
  rintro _ w ⟨rfl, hS⟩
  refine zA rfl (zE (zV (z1 rfl ?_)))
  exact ⟨congrArg Value.string (by rw [rseal_eq, hb]), hS.keep⟩
theorem r9put_c (f : Frm) (mtu : Int) (hd : f.data.size ≤ 1400) (hS : St M w Ls) :
    CallsR Tryz.prog 153 [fv f, .int .i64 mtu].toArray w fun v w' => v = .tuple [.string (fput f mtu), .int .i64 (fputE f mtu)].toArray ∧ St M w' Ls := by
  have hno : fputE f mtu ≠ 0 → fput f mtu = ⟨#[]⟩ := fun h => by unfold fput; rw [if_neg h]
  have hyes : fputE f mtu = 0 → fput f mtu = fbytes f := fun h => by unfold fput; rw [if_pos h]
  have hout : ¬ (64 ≤ mtu ∧ mtu ≤ 1400) → fputE f mtu = 1 := fun h => by unfold fputE; rw [if_pos h]
  have hmay : fmayE f = 0 → (1 ≤ f.ep ∧ f.ep ≤ 1099511627776) ∧ (0 ≤ f.seq ∧ f.seq ≤ 1125899906842624) ∧ (0 ≤ f.ack ∧ f.ack ≤ 1125899906842624) := by
    intro h; unfold fmayE at h
    split at h; · cases h
    split at h; · cases h
    split at h; · cases h
    omega
  refine zC 31 Tryz.func153 rfl (zQ (zR (a_box rfl hS rfl fun b2 w hS => zA rfl (zA rfl (zE (zQ (zQ (zR (zM rfl (wl (y_lss rfl rfl) rfl (zM rfl (zWc (s := 9) rfl (fun hg9 => ?_) fun hg9 => ?_))))))))))))
  · have he := hout (by omega)
    rw [hno (by omega), he]
    refine zO rfl (zO rfl (wl (y_pickT rfl rfl) rfl (zE (wc_ifT rfl rfl (zQ (zR (zA rfl (zA rfl (zE (zV (z2 rfl ?_)))))))))))
    exact ⟨rfl, hS.keep⟩
  refine zI rfl ?_
  refine zM rfl (zI rfl (wl (y_gtr rfl rfl) rfl (wl (y_pickF rfl rfl) rfl (zE (zIf rfl (fun hc12 => ?_) fun hc12 => ?_)))))
  · have he := hout (by omega)
    rw [hno (by omega), he]
    refine zQ (zR (zA rfl (zA rfl (zE (zV (z2 rfl ?_))))))
    exact ⟨rfl, hS.keep⟩
  have hin : 64 ≤ mtu ∧ mtu ≤ 1400 := by omega
  have hE := fputE_may (f := f) hin
  refine zK (zQ (zQ (zR (wl ((y_loadS st_42 sz_42 rfl (vs := encF.f f) (hS.cells rfl) rfl).val (show _ = fv f from rfl)) rfl (wl_call (.cons rfl .nil) (r9may_c f hS) rfl ?_)))))
  rintro _ w ⟨rfl, hS⟩
  refine zA rfl (zE (zQ (zR (zM rfl (wl (y_neq rfl rfl) rfl (zE (zIf rfl (fun hc16 => ?_) fun hc16 => ?_)))))))
  · rw [if_pos (by omega)] at hE
    rw [hno (by omega), hE]
    refine zQ (zR (zM rfl (zA rfl (zA rfl (zE (zV (z2 rfl ?_)))))))
    exact ⟨rfl, hS.keep⟩
  rw [if_neg (by omega)] at hE
  obtain ⟨m1, m2, m3⟩ := hmay (by omega)
  refine zK (zQ (zQ (zR (zF fl_42_3 rfl (wl (y_load pl_9 rfl (hS.c (v := .string f.data))) rfl (wl (y_len_s Tryz.underlying9 rfl) rfl (wl ((y_gtr rfl rfl).val (u := .bool false) (congrArg Value.bool (decide_eq_false (by omega)))) rfl (zM rfl (zI rfl (wl ((y_loadS st_42 sz_42 rfl (vs := encF.f f) (hS.cells rfl) rfl).val (show _ = fv f from rfl)) rfl (zI rfl (wl_call (.cons rfl .nil) (r9bytes_c f m1 m2 m3 hd hS) rfl ?_))))))))))))
  rintro _ w ⟨rfl, hS⟩
  refine zI rfl (wl (y_len_s Tryz.underlying9 rfl) rfl (zI rfl (zM rfl (zI rfl (wl (y_gtr rfl rfl) rfl (wl (y_pickF rfl rfl) rfl (zE (zIf rfl (fun hc28 => ?_) fun hc28 => ?_))))))))
  · rw [if_pos (by omega)] at hE
    rw [hno (by omega), hE]
    refine zQ (zR (zA rfl (zA rfl (zE (zV (z2 rfl ?_))))))
    exact ⟨rfl, hS.keep⟩
  rw [if_neg (by omega)] at hE
  rw [hyes hE, hE]
  refine zK (zQ (zR (wl ((y_loadS st_42 sz_42 rfl (vs := encF.f f) (hS.cells rfl) rfl).val (show _ = fv f from rfl)) rfl (wl_call (.cons rfl .nil) (r9bytes_c f m1 m2 m3 hd hS) rfl ?_))))
  rintro _ w ⟨rfl, hS⟩
  refine zA rfl (zA rfl (zE (zV (z2 rfl ?_))))
  exact ⟨rfl, hS.keep⟩
theorem r16packets_c (frm to_ mtu : Int) (fs : List Frm) (s : Value) {H : Chunk} (hfs : ∀ f ∈ fs, f.data.size ≤ 1400) (hfl : fs.length ≤ 1000) (ho : Own 42 encF s fs H) (hS : St M w (H :: Ls)) :
    CallsR Tryz.prog 99 [.int .i64 frm, .int .i64 to_, s, .int .i64 mtu].toArray w fun v w' => ∃ H', Own 40 encP v (pkts frm to_ mtu fs) H' ∧ St M w' (H' :: H :: Ls) := by
  obtain ⟨fa, fc, rfl⟩ := ho.slice
  refine zC 39 Tryz.func99 rfl (zQ (zR (zA rfl (zE (zQ (zR (a_bslice encP [] (vs := []) (ps := []) Tryz.underlying37 sz_40 z_40 rfl .nil rfl rfl rfl (by decide) hS rfl fun u0 H0 w o0 hS => zA rfl (zE (zQ (zQ (zR (zA rfl (zE (zB (wc_loop (α := Nat × Value × Chunk) (fun ⟨i, s, _⟩ => [(0, .int .i64 frm), (1, .int .i64 to_), (2, .slice fa fs.length fc), (3, .int .i64 mtu), (9, s), (10, .int .i64 i)]) (fun ⟨i, s, Ho⟩ w => i ≤ fs.length ∧ Own 40 encP s (pkts frm to_ mtu (fs.take i)) Ho ∧ St M w (Ho :: H :: Ls)) (fun ⟨i, _, _⟩ => fs.length - i) (0, u0, H0) (sub_cons rfl (sub_cons rfl (sub_cons rfl (sub_cons rfl (sub_cons rfl (subR rfl)))))) ⟨by omega, o0, hS.keep⟩ ?_)))))))))))))))
  clear hS o0
  rintro ⟨i, s, H0⟩ w ⟨hi, o0, hS⟩
  refine zQ (zQ (zR (zM rfl (zM rfl (wl (y_len_sl Tryz.underlying106 rfl) rfl (wl (y_lss rfl rfl) rfl (zE (zIf rfl (fun hc17 => ?_) fun hc17 => ?_))))))))
  · refine zK ?_
    refine zQ (zB (zQ ?_))
    have hi' : i < fs.length := by omega
    obtain ⟨f, hfi⟩ : ∃ f, fs[i]? = some f := ⟨_, List.getElem?_eq_getElem hi'⟩
    have hpt := pkts_take (origin := frm) (to_ := to_) (mtu := mtu) hfi
    have hpl := pkts_length (origin := frm) (to_ := to_) (mtu := mtu) (l := fs.take i)
    rw [List.length_take] at hpl
    have hfz := hfs f (List.mem_of_getElem? hfi)
    obtain ⟨bb, off, c', hse, hce⟩ := (ho.holds (hS.pull H)).at hfi
    simp only [Value.slice.injEq] at hse
    have hSk := hS
    obtain ⟨rfl, _, rfl⟩ := hse
    replace hS := hSk
    obtain ⟨oa, oc, rfl⟩ := o0.slice
    refine zR (zM rfl (zM rfl (wl (y_ixa_sl Tryz.underlying106 sz_42 rfl rfl (by omega) (by omega)) rfl (wl ((y_loadS st_42 sz_42 rfl (vs := encF.f f) hce rfl).val (show _ = fv f from rfl)) rfl (zM rfl (wl_call (.cons rfl (.cons rfl .nil)) (r9put_c f mtu hfz hS) rfl ?_))))))
    rintro _ w ⟨rfl, hS⟩
    refine zM rfl (zX rfl (zX rfl (zA rfl (zA rfl (zE (zQ (zR (zM rfl (wl (y_eql rfl rfl) rfl (zE (zIf rfl (fun hc30 => ?_) fun hc30 => ?_)))))))))))
    · rw [if_pos (by omega)] at hpt
      refine zR (zM rfl (zM rfl (zM rfl (zM rfl (wl (y_build (is := [0, 1, 2]) (xs := [_, _, _]) (out := [_, _, _]) plc_40 z_40 (.cons rfl (.cons rfl (.cons rfl .nil))) rfl) rfl (a_bslice encP [⟨frm, to_, fput f mtu⟩] Tryz.underlying37 sz_40 z_40 rfl (.cons rfl .nil) rfl rfl rfl (by decide) hS rfl fun u1 H1 w o1 hS => a_append Tryz.underlying37 Tryz.underlying37 sz_40 z_40 rfl by_40 (by decide) rfl rfl o0 (o1.holds hS) (hS.pull H0) (by simp; omega) rfl fun s2 H2 w o2 hS => ?_))))))
      try rw [List.nil_append] at o2
      rw [← hpt] at o2
      refine zA rfl (zE (zR (zM rfl (wl (y_add rfl rfl (w64 (by omega) (by omega))) rfl (zA rfl (zE ?_))))))
      first
      | exact ⟨(i + 1, _, H2), by simp only; omega, sub_cons rfl (sub_cons rfl (sub_cons rfl (sub_cons rfl (sub_cons rfl (subR rfl))))), by omega, o2, hS.keep⟩
      | exact ⟨(i + 1, _, H0), by simp only; omega, sub_cons rfl (sub_cons rfl (sub_cons rfl (sub_cons rfl (sub_cons rfl (subR rfl))))), by omega, by rw [hpt]; exact o0, hS.keep⟩
    rw [if_neg (by omega), List.append_nil] at hpt
    refine zK (zR (zM rfl (wl (y_add rfl rfl (w64 (by omega) (by omega))) rfl (zA rfl (zE ?_)))))
    first
    | exact ⟨(i + 1, _, H2), by simp only; omega, sub_cons rfl (sub_cons rfl (sub_cons rfl (sub_cons rfl (sub_cons rfl (subR rfl))))), by omega, o2, hS.keep⟩
    | exact ⟨(i + 1, _, H0), by simp only; omega, sub_cons rfl (sub_cons rfl (sub_cons rfl (sub_cons rfl (sub_cons rfl (subR rfl))))), by omega, by rw [hpt]; exact o0, hS.keep⟩
  obtain rfl : i = fs.length := by omega
  rw [List.take_length] at o0
  refine wc_exit (zQ (zR (zM rfl (zA rfl (zE (zV (z1 rfl ?_)))))))
  exact ⟨H0, o0, hS⟩
end
end Go.Proofs.YtndahppmjdbifaaGreatDoor.Ref
set_option linter.unusedVariables false
set_option linter.unusedSimpArgs false
namespace Go.Proofs.YtndahppmjdbifaaGreatDoor.Nod
open Go Go.Proofs Val Rou Go.Proofs.YtndahppmjdbifaaGreatDoor.Lnk Jnl
structure Nod.rok (m : Nod) : Prop where
  k : m.k.ok
  sm : m.small
  jl : m.j.l.length ≤ m.j.last
  jr : ∀ r ∈ m.j.l, mayR r = 0
  jb : behind 0 m.j.l = m.j.l
  sa : m.k.s.all.length ≤ 100000000000
  ra : m.k.r.all.length ≤ 137438953472
  rd : ∀ d ∈ m.k.r.all, d.size ≤ 1400
  sd : ∀ d ∈ m.k.s.all, d.size ≤ 1400
end Go.Proofs.YtndahppmjdbifaaGreatDoor.Nod
namespace Go.Proofs.YtndahppmjdbifaaGreatDoor.Ref
open Go Go.Proofs Eng Go.Proofs.YtndahppmjdbifaaGreatDoor.Snd Go.Proofs.YtndahppmjdbifaaGreatDoor.Lnk Fra Val Rou Jnl Go.Proofs.YtndahppmjdbifaaGreatDoor.Cli Go.Proofs.YtndahppmjdbifaaGreatDoor.Nod Pre Pak Crc
abbrev rnQ (c : Cfg) (origin : Int) (jp kp cp : Nat) (off : Int) : Obj := .cells #[.int .i64 c.clients, .int .i64 c.window, .int .i64 c.push, .int .i64 c.pull, .int .i64 c.mtu, .int .i64 c.last, .int .i64 origin, .pointer (some ⟨jp, 0, none⟩), .pointer (some ⟨kp, 0, none⟩), .pointer (some ⟨cp, 0, none⟩), .int .i64 off] 76
abbrev rnO (jp kp cp : Nat) (m : Nod) : Obj := rnQ m.c m.origin jp kp cp m.offered
def IsRN (M : Mem) (p : Nat) (m : Nod) (H : Chunk) : Prop :=
  ∃ jp kp cp Hj Hk Hc, IsRJ M jp m.j Hj ∧ IsRL M kp m.k Hk ∧ IsRC M cp jp m.own Hc ∧ H = (p, rnO jp kp cp m) :: (Hj ++ (Hk ++ Hc))
theorem IsRN.mono {M M' : Mem} {p : Nat} {m : Nod} {H : Chunk} (h : IsRN M p m H) (hm : Mle M M') : IsRN M' p m H := by
  obtain ⟨jp, kp, cp, Hj, Hk, Hc, h1, h2, h3, h4⟩ := h
  exact ⟨jp, kp, cp, Hj, Hk, Hc, h1.mono hm, h2.mono hm, h3.mono hm, h4⟩
theorem pops_rpop (m : Lnk) (i : Nat) : (m.pops i).r.pop = (m.pops (i + 1)).r := congrArg Lnk.r (Lnk.pops_pop m i)
theorem fget_rng (b : ByteArray) (hb : b.size ≤ 140737488351232) : (0 ≤ (fget b).ep ∧ (fget b).ep ≤ 1099511627776) ∧ (0 ≤ (fget b).seq ∧ (fget b).seq ≤ 1125899906842624) ∧ 0 ≤ (fget b).ack := by
  unfold fget
  split
  · simp [frm0]
  rename_i s hs
  have hz := open_size hs
  obtain ⟨h1, h1', h2, h3, h4, h5⟩ := fg_ok s (by omega)
  have h0 : (⟨s, 0, 0⟩ : Rdr).ok := ⟨Nat.zero_le _, by show s.size ≤ _; omega⟩
  unfold fgf
  split
  · simp only
    have a1 := (rnum_ok h0 1099511627776).2.1
    have a2 := (rnum_ok h1' 1125899906842624).2.1
    unfold fg1 fg2
    omega
  simp [frm0]
section
variable {M : Mem} {w : World} {Ls : List Chunk}
theorem r18new_c (c : Cfg) (origin : Int) (hS : St M w Ls) :
    CallsR Tryz.prog 30 [cfgV c, .int .i64 origin].toArray w fun v w' => ∃ M' p H, Mle M M' ∧ v = .pointer (some ⟨p, 0, none⟩) ∧ IsRN M' p (Nod.new c origin) H ∧ St M' w' (H :: Ls) := by
  refine zC 27 Tryz.func30 rfl (zQ (zR (a_box rfl hS rfl fun b2 w hS => zA rfl (zE (zQ (zR (zM rfl (zF fl_23_5 rfl (wl (y_load pl_3 rfl (hS.c (v := .int .i64 c.last))) rfl (wl_call (.cons rfl (.cons rfl .nil)) (r13new_c origin c.last hS) rfl ?_))))))))))
  rintro _ w ⟨jp, Hj, rfl, hj, hS⟩
  refine zA rfl (zE (zQ (zW hS (fun w => CellsAt w b2 0 [.int .i64 c.clients, .int .i64 c.window, .int .i64 c.push, .int .i64 c.pull, .int .i64 c.mtu, .int .i64 c.last] ∧ w.cell? ⟨b2, 1, none⟩ = some (.int .i64 c.window) ∧ w.cell? ⟨b2, 3, none⟩ = some (.int .i64 c.pull) ∧ w.cell? ⟨b2, 4, none⟩ = some (.int .i64 c.mtu) ∧ w.cell? ⟨b2, 2, none⟩ = some (.int .i64 c.push)) [] wide_ rfl fun w hS => zPm 1 2 rfl (zPm 2 6 rfl (zPf 3 14 fl_23_1 rfl (zPf 5 46 fl_23_3 rfl (zPm 8 302 rfl (zPm 9 814 rfl (zPf 10 1838 fl_23_4 rfl (zPf 12 5934 fl_23_2 rfl (zD 0 5935 rfl ⟨hS.cells rfl, hS.c, hS.c, hS.c, hS.c⟩ (fun w hS => y_loadS st_23 sz_23 rfl hS.1 rfl) (zD 4 5951 rfl ⟨hS.cells rfl, hS.c, hS.c, hS.c, hS.c⟩ (fun w hS => y_load pl_3 rfl hS.2.1) (zD 6 6015 rfl ⟨hS.cells rfl, hS.c, hS.c, hS.c, hS.c⟩ (fun w hS => y_load pl_3 rfl hS.2.2.1) (zD 11 8063 rfl ⟨hS.cells rfl, hS.c, hS.c, hS.c, hS.c⟩ (fun w hS => y_load pl_3 rfl hS.2.2.2.1) (zD 13 16255 rfl ⟨hS.cells rfl, hS.c, hS.c, hS.c, hS.c⟩ (fun w hS => y_load pl_3 rfl hS.2.2.2.2) (zU 7 16383 rfl (wl_call (.cons rfl (.cons rfl (.cons rfl (.cons rfl .nil)))) (r12new_c 1 c.window c.pull false hS) rfl ?_)))))))))))))))))
  rintro _ w ⟨kp, Hk, rfl, hk, hS⟩
  refine zE ⟨fun _ _ => ⟨hS.cells rfl, hS.c, hS.c, hS.c, hS.c⟩, zU 14 32767 rfl (wl_call (.cons rfl (.cons rfl (.cons rfl (.cons rfl .nil)))) (r17new_c origin c.mtu c.push (show behind 0 (Jnl.new origin c.last).l = (Jnl.new origin c.last).l from rfl) (show (Jnl.new origin c.last).l.length ≤ _ from by unfold Jnl.new; simp) hj (hS.pull Hj)) rfl ?_)⟩
  rintro _ w ⟨M1, cp, Hc, rfl, hM1, hc, hj, hS⟩
  refine zE ⟨fun _ _ => ⟨hS.cells rfl, hS.c, hS.c, hS.c, hS.c⟩, zP 15 65535 rfl (fun w => y_build (is := [0, 1, 2, 3, 4]) (xs := [_, _, _, _, _]) (out := [_, _, _, _, _, _, _, _, _, _, _]) plc_76 z_76 (.cons rfl (.cons rfl (.cons rfl (.cons rfl (.cons rfl .nil))))) rfl) (zU 16 131071 rfl (a_box rfl hS rfl fun b26 w hS => zE ⟨fun _ _ => ⟨hS.cells rfl, hS.c, hS.c, hS.c, hS.c⟩, zPa 17 262143 rfl (zH (zV (z1 rfl ?_)))⟩))⟩
  replace hS := (show St M1 w ([(b26, rnQ c origin jp kp cp 0)] :: Hc :: Hj :: Hk :: [(b2, .cells (cfgV c).cells 23)] :: Ls) from hS)
  exact ⟨M1, _, _, hM1, rfl, ⟨jp, kp, cp, Hj, Hk, Hc, hj, hk.mono hM1, hc, rfl⟩, (by have h := hS.keep (T := ((b26, rnQ c origin jp kp cp 0) :: (Hj ++ (Hk ++ Hc))) :: Ls); exact h)⟩
theorem r18push_c {p : Nat} {m : Nod} {H : Chunk} (hm : m.rok) (hb : IsRN M p m H) (hS : St M w (H :: Ls)) :
    CallsR Tryz.prog 34 [.pointer (some ⟨p, 0, none⟩)].toArray w fun v w' => ∃ M' H', Mle M M' ∧ v = .tuple [.int .i64 (m.own.pushR m.j).n, .int .i64 (m.own.pushE m.j)].toArray ∧ IsRN M' p m.push H' ∧ St M' w' (H' :: Ls) := by
  obtain ⟨s1, s2, s3, s4⟩ := hm.sm
  have hjl := hm.jl
  obtain ⟨jp, kp, cp, Hj, Hk, Hc, h1, h2, h3, rfl⟩ := hb
  replace hS := hS.un3
  refine zC 17 Tryz.func34 rfl (zQ (zR (zA rfl (zA rfl (zE (zQ (zR (zM rfl (zN rfl (zF fl_76_4 rfl (wl (y_load pl_74 rfl (hS.c (v := .pointer (some ⟨cp, 0, none⟩)))) rfl (wl_call (.cons rfl .nil) (r17push_c (by omega) (by omega) (by omega) h3 h1 (hS.keep (T := Hc :: Hj :: [(p, rnO jp kp cp m)] :: Hk :: Ls))) rfl ?_))))))))))))
  rintro _ w ⟨M1, s1, Hc1, Hj1, hM, hs1, rfl, h3, h1, hS⟩
  obtain ⟨sa1, sc1, rfl⟩ := (hs1.holds hS).slice
  refine zM rfl (zX rfl (zX rfl (a_alloc z_48 hS rfl fun b4 w hS => zG (vs := [_, _, _]) sz_48 rfl hS fun w hS => zA rfl (zE (zQ (zR (zF fl_48_1 rfl (wl (y_load pl_3 rfl (hS.c (v := .int .i64 (m.own.pushR m.j).n))) rfl (zM rfl (zA rfl (zA rfl (zE (zV (z2 rfl ?_))))))))))))))
  exact ⟨M1, _, hM, rfl, ⟨jp, kp, cp, Hj1, Hk, Hc1, h1, h2.mono hM, h3, rfl⟩, (by have h := hS.keep (T := ((p, rnO jp kp cp m) :: (Hj1 ++ (Hk ++ Hc1))) :: Ls); exact h)⟩
theorem r18hear_c (b : ByteArray) (hbz : b.size ≤ 140737488351232) {p : Nat} {m : Nod} {H : Chunk} (hm : m.rok) (hb : IsRN M p m H) (hS : St M w (H :: Ls)) :
    CallsR Tryz.prog 37 [.pointer (some ⟨p, 0, none⟩), .string b].toArray w fun v w' => ∃ M' H', Mle M M' ∧ v = .int .i64 (m.hearE b) ∧ IsRN M' p (m.hear b) H' ∧ St M' w' (H' :: Ls) := by
  have hb0 := hb
  have hk := hm.k
  have hra := hm.ra
  obtain ⟨jp, kp, cp, Hj, Hk, Hc, h1, h2, h3, rfl⟩ := hb
  have h2' := h2
  obtain ⟨ps, pr, Hs, Hr, g1, g2, rfl⟩ := h2'
  have hno : m.hearE b ≠ 0 → m.hear b = m := fun h => by unfold Nod.hear; rw [if_neg h]
  have hSp := hS
  replace hS := (hS.un3.pull ((kp, rlO ps pr m.k) :: (Hs ++ Hr))).un2
  refine zC 31 Tryz.func37 rfl (zQ (zR (zA rfl (zE (zQ (zR (zM rfl (wl_call (.cons rfl .nil) (qget_c b hbz hS) rfl ?_))))))))
  rintro _ w ⟨rfl, hS⟩
  refine zM rfl (zX rfl (zX rfl (a_alloc z_42 hS rfl fun b5 w hS => zG (vs := [_, _, _, _]) sz_42 rfl hS fun w hS => zA rfl (zE (zQ (zQ (zR (zM rfl (wl (y_neq rfl rfl) rfl (zE (zIf rfl (fun hc13 => ?_) fun hc13 => ?_)))))))))))
  · have he : m.hearE b = fgetE b := by unfold Nod.hearE; rw [if_pos (by omega)]
    rw [hno (by omega), he]
    refine zQ (zR (zM rfl (zA rfl (zE (zV (z1 rfl ?_))))))
    first
    | exact ⟨M1, _, hM1, rfl, ⟨jp, kp, cp, Hj, Hk1, Hc, h1.mono hM1, hk1, h3.mono hM1, rfl⟩, (by have h := hS.keep (T := ((p, rnO jp kp cp m) :: (Hj ++ (Hk1 ++ Hc))) :: Ls); exact h)⟩
    | exact ⟨M, _, Mle.refl _, rfl, hb0, (by have h := hS.keep (T := ((p, rnO jp kp cp m) :: (Hj ++ (((kp, rlO ps pr m.k) :: (Hs ++ Hr)) ++ Hc))) :: Ls); exact h)⟩
  refine zK ?_
  refine zQ (zQ (zW hS (fun w => w.cell? ⟨b5, 0, none⟩ = some (.int .i64 (fget b).ep) ∧ w.cell? ⟨p, 8, none⟩ = some (.pointer (some ⟨kp, 0, none⟩)) ∧ w.cell? ⟨kp, 0, none⟩ = some (.int .i64 m.k.ep)) [] wide_ rfl fun w hS => zPf 0 1 fl_42_0 rfl (zPm 2 5 rfl (zPn 3 13 rfl (zPf 4 29 fl_76_3 rfl (zD 1 31 rfl ⟨hS.c, hS.c, hS.c⟩ (fun w hS => y_load pl_3 rfl hS.1) (zD 5 63 rfl ⟨hS.c, hS.c, hS.c⟩ (fun w hS => y_load pl_73 rfl hS.2.1) (zPn 6 127 rfl (zPf 7 255 fl_140_0 rfl (zD 8 511 rfl ⟨hS.c, hS.c, hS.c⟩ (fun w hS => y_load pl_3 rfl hS.2.2) (zP 9 1023 rfl (fun w => y_neq rfl rfl) (zH (zIf rfl (fun hc24 => ?_) fun hc24 => ?_)))))))))))))
  · have he : m.hearE b = 9 := by unfold Nod.hearE; rw [if_neg (by omega), if_pos hc24]
    rw [hno (by omega), he]
    refine zQ (zR (zA rfl (zE (zV (z1 rfl ?_)))))
    first
    | exact ⟨M1, _, hM1, rfl, ⟨jp, kp, cp, Hj, Hk1, Hc, h1.mono hM1, hk1, h3.mono hM1, rfl⟩, (by have h := hS.keep (T := ((p, rnO jp kp cp m) :: (Hj ++ (Hk1 ++ Hc))) :: Ls); exact h)⟩
    | exact ⟨M, _, Mle.refl _, rfl, hb0, (by have h := hS.keep (T := ((p, rnO jp kp cp m) :: (Hj ++ (((kp, rlO ps pr m.k) :: (Hs ++ Hr)) ++ Hc))) :: Ls); exact h)⟩
  have he : m.hearE b = 0 := by unfold Nod.hearE; rw [if_neg (by omega), if_neg (by omega)]
  have hq : m.hear b = { m with k := m.k.hear (fget b) } := by unfold Nod.hear; rw [if_pos he]
  rw [he, hq]
  have hfs := fget_rng b hbz
  refine zK (zQ (zW hS (fun w => w.cell? ⟨p, 8, none⟩ = some (.pointer (some ⟨kp, 0, none⟩)) ∧ CellsAt w b5 0 (encF.f (fget b))) [5] wide_ rfl fun w hS => zPm 0 1 rfl (zPn 1 3 rfl (zPf 2 7 fl_76_3 rfl (zD 3 15 rfl ⟨hS.c, hS.cells rfl⟩ (fun w hS => y_load pl_73 rfl hS.1) (zD 4 31 rfl ⟨hS.c, hS.cells rfl⟩ (fun w hS => (y_loadS st_42 sz_42 rfl hS.2 rfl).val (show _ = fv (fget b) from rfl)) (zU 5 63 rfl (wl_call (.cons rfl (.cons rfl .nil)) (r12hear_c (fget b) hra hk (by omega) (by omega) h2 (by have h := hS.keep (T := ((kp, rlO ps pr m.k) :: (Hs ++ Hr)) :: [(p, rnO jp kp cp m)] :: Hj :: Hc :: Ls); exact h)) rfl ?_))))))))
  rintro _ w ⟨M1, Hk1, hM1, rfl, hk1, hS⟩
  refine zE ⟨fun h => absurd (by decide) h, zH (zQ (zR (zA rfl (zE (zV (z1 rfl ?_))))))⟩
  first
  | exact ⟨M1, _, hM1, rfl, ⟨jp, kp, cp, Hj, Hk1, Hc, h1.mono hM1, hk1, h3.mono hM1, rfl⟩, (by have h := hS.keep (T := ((p, rnO jp kp cp m) :: (Hj ++ (Hk1 ++ Hc))) :: Ls); exact h)⟩
  | exact ⟨M, _, Mle.refl _, rfl, hb0, (by have h := hS.keep (T := ((p, rnO jp kp cp m) :: (Hj ++ (((kp, rlO ps pr m.k) :: (Hs ++ Hr)) ++ Hc))) :: Ls); exact h)⟩
theorem r18reset_c {p : Nat} {m : Nod} {H : Chunk} (hm : m.rok) (hc : m.c.last ≤ 1099511627776) (hb : IsRN M p m H) (hS : St M w (H :: Ls)) :
    CallsR Tryz.prog 36 [.pointer (some ⟨p, 0, none⟩)].toArray w fun v w' => ∃ M' H', Mle M M' ∧ v = .int .i64 m.resetE ∧ IsRN M' p m.reset H' ∧ St M' w' (H' :: Ls) := by
  have hb0 := hb
  have hep := hm.k.1
  obtain ⟨s1, s2, s3, s4⟩ := hm.sm
  obtain ⟨jp, kp, cp, Hj, Hk, Hc, h1, h2, h3, rfl⟩ := hb
  have h2' := h2
  obtain ⟨ps, pr, Hs, Hr, g1, g2, rfl⟩ := h2'
  replace hS := (hS.un3.pull ((kp, rlO ps pr m.k) :: (Hs ++ Hr))).un2
  refine zC 46 Tryz.func36 rfl (zQ (zR (zA rfl (zE (zQ (zQ (zW hS (fun w => w.cell? ⟨p, 8, none⟩ = some (.pointer (some ⟨kp, 0, none⟩)) ∧ w.cell? ⟨kp, 0, none⟩ = some (.int .i64 m.k.ep) ∧ w.cell? ⟨p, 5, none⟩ = some (.int .i64 m.c.last)) [] wide_ rfl fun w hS => zPm 0 1 rfl (zPn 1 3 rfl (zPf 2 7 fl_76_3 rfl (zPm 7 135 rfl (zPn 8 391 rfl (zPf 9 903 fl_76_0 rfl (zPf 10 1927 fl_23_5 rfl (zD 3 1935 rfl ⟨hS.c, hS.c, hS.c⟩ (fun w hS => y_load pl_73 rfl hS.1) (zPn 4 1951 rfl (zPf 5 1983 fl_140_0 rfl (zD 6 2047 rfl ⟨hS.c, hS.c, hS.c⟩ (fun w hS => y_load pl_3 rfl hS.2.1) (zD 11 4095 rfl ⟨hS.c, hS.c, hS.c⟩ (fun w hS => y_load pl_3 rfl hS.2.2) (zP 12 8191 rfl (fun w => y_geq rfl rfl) (zH (zIf rfl (fun hc15 => ?_) fun hc15 => ?_)))))))))))))))))))))
  · have he : m.resetE = 8 := by unfold Nod.resetE; rw [if_pos (by omega)]
    have hq : m.reset = m := by unfold Nod.reset; rw [if_neg (by omega)]
    rw [he, hq]
    refine zQ (zR (zA rfl (zE (zV (z1 rfl ?_)))))
    first
    | (simp only [zL, cells_agg, setCells] at hS
       exact ⟨M1, _, hM, rfl, ⟨jp, kp1, cp, Hj, Hk1, Hc1, h1, hk1.mono hM, h3, rfl⟩, (by have h := hS.keep (T := ((p, rnQ m.c m.origin jp kp1 cp 0) :: (Hj ++ (Hk1 ++ Hc1))) :: Ls); exact h)⟩)
    | exact ⟨M, _, Mle.refl _, rfl, hb0, (by have h := hS.keep (T := ((p, rnO jp kp cp m) :: (Hj ++ (((kp, rlO ps pr m.k) :: (Hs ++ Hr)) ++ Hc))) :: Ls); exact h)⟩
  have he : m.resetE = 0 := by unfold Nod.resetE; rw [if_neg (by omega)]
  have hq : m.reset = { m with k := Lnk.new (m.k.ep + 1) m.c.window m.c.pull false, offered := 0, own := m.own.resume m.j } := by unfold Nod.reset; rw [if_pos he]
  rw [he, hq]
  refine zK (zQ (zW hS (fun w => w.cell? ⟨p, 8, none⟩ = some (.pointer (some ⟨kp, 0, none⟩)) ∧ w.cell? ⟨kp, 0, none⟩ = some (.int .i64 m.k.ep) ∧ w.cell? ⟨p, 1, none⟩ = some (.int .i64 m.c.window) ∧ w.cell? ⟨p, 3, none⟩ = some (.int .i64 m.c.pull)) [22] wide_ rfl fun w hS => zPm 0 1 rfl (zPm 1 3 rfl (zPn 2 7 rfl (zPf 3 15 fl_76_3 rfl (zPm 9 527 rfl (zPn 10 1551 rfl (zPf 11 3599 fl_76_0 rfl (zPf 12 7695 fl_23_1 rfl (zPm 14 24079 rfl (zPn 15 56847 rfl (zPf 16 122383 fl_76_0 rfl (zPf 17 253455 fl_23_3 rfl (zD 4 253471 rfl ⟨hS.c, hS.c, hS.c, hS.c⟩ (fun w hS => y_load pl_73 rfl hS.1) (zPn 5 253503 rfl (zPf 6 253567 fl_140_0 rfl (zD 7 253695 rfl ⟨hS.c, hS.c, hS.c, hS.c⟩ (fun w hS => y_load pl_3 rfl hS.2.1) (zP 8 253951 rfl (fun w => y_add rfl rfl (w64 (by omega) (by omega))) (zD 13 262143 rfl ⟨hS.c, hS.c, hS.c, hS.c⟩ (fun w hS => y_load pl_3 rfl hS.2.2.1) (zD 18 524287 rfl ⟨hS.c, hS.c, hS.c, hS.c⟩ (fun w hS => y_load pl_3 rfl hS.2.2.2) (zU 19 1048575 rfl (wl_call (.cons rfl (.cons rfl (.cons rfl (.cons rfl .nil)))) (r12new_c (m.k.ep + 1) m.c.window m.c.pull false hS) rfl ?_))))))))))))))))))))))
  rintro _ w ⟨kp1, Hk1, rfl, hk1, hS⟩
  refine zE ⟨fun _ _ => ⟨hS.c, hS.c, hS.c, hS.c⟩, zPn 20 2097151 rfl (zPf 21 4194303 fl_76_3 rfl (zU 22 8388607 rfl (zS sz_73 rfl hS fun w hS => zE ⟨fun h => absurd (by decide) h, zH (zQ (zR (zM rfl (zN rfl (zF fl_76_5 rfl (zS sz_3 rfl hS fun w hS => zE (zQ (zR (zM rfl (zN rfl (zF fl_76_4 rfl (wl (y_load pl_74 rfl (hS.c (v := .pointer (some ⟨cp, 0, none⟩)))) rfl (wl_call (.cons rfl .nil) (r17resume_c hm.jb (by omega) h3 h1 ((hS.pull Hj).pull Hc)) rfl ?_)))))))))))))⟩)))⟩
  rintro _ w ⟨M1, Hc1, hM, rfl, h3, h1, hS⟩
  refine zE (zQ (zR (zA rfl (zE (zV (z1 rfl ?_))))))
  first
  | (simp only [zL, cells_agg, setCells] at hS
     exact ⟨M1, _, hM, rfl, ⟨jp, kp1, cp, Hj, Hk1, Hc1, h1, hk1.mono hM, h3, rfl⟩, (by have h := hS.keep (T := ((p, rnQ m.c m.origin jp kp1 cp 0) :: (Hj ++ (Hk1 ++ Hc1))) :: Ls); exact h)⟩)
  | exact ⟨M, _, Mle.refl _, rfl, hb0, (by have h := hS.keep (T := ((p, rnO jp kp cp m) :: (Hj ++ (((kp, rlO ps pr m.k) :: (Hs ++ Hr)) ++ Hc))) :: Ls); exact h)⟩
end
end Go.Proofs.YtndahppmjdbifaaGreatDoor.Ref
set_option linter.unusedVariables false
set_option linter.unusedSimpArgs false
namespace Go.Proofs.YtndahppmjdbifaaGreatDoor.Ref
open Go Go.Proofs Eng Snd Lnk Fra Val Rou Jnl Cli Nod Pre Pak Crc
theorem rlO_tick (ps pr : Nat) (m : Nod) : rlO ps pr m.tick.k = rlO ps pr m.k := by
  obtain ⟨e1, e2, e3, e4, e5⟩ := offl_r (m.j.l.drop m.offered) m.k m.offered
  unfold rlO
  rw [show m.tick.k.ep = m.k.ep from e2, show m.tick.k.win = m.k.win from e3, show m.tick.k.room = m.k.room from e4, show m.tick.k.pas = m.k.pas from e5]
section
variable {M : Mem} {w : World} {Ls : List Chunk}
theorem r18pull_c {p : Nat} {m : Nod} {H : Chunk} (hm : m.rok) (hb : IsRN M p m H) (hS : St M w (H :: Ls)) :
    CallsR Tryz.prog 35 [.pointer (some ⟨p, 0, none⟩)].toArray w fun v w' => ∃ M' H', Mle M M' ∧ v = .int .i64 m.pullN ∧ IsRN M' p m.pull H' ∧ St M' w' (H' :: Ls) := by
  obtain ⟨s1, s2, s3, s4⟩ := hm.sm
  have hk := hm.k
  have hd := hm.rd
  obtain ⟨jp, kp, cp, Hj, Hk, Hc, h1, h2, h3, rfl⟩ := hb
  obtain ⟨ps, pr, Hs, Hr, g1, g2, rfl⟩ := h2
  have hcl := Rcv.came_length m.k.r
  have hw16 : m.k.r.wait ≤ 16 := by have := hk.2.2; unfold Rcv.ok at this; omega
  have hda : ∀ d ∈ m.k.r.came, d.size ≤ 1400 := fun d hd' => hd d (List.mem_of_mem_drop hd')
  have hpv := fun i => Lnk.pops_popV m.k i hk
  have hg2 : IsRR M pr (m.k.pops 0).r Hr := by rw [Lnk.pops_0]; exact g2
  replace hS := (hS.un3.pull ((kp, rlO ps pr m.k) :: (Hs ++ Hr))).un2
  refine zC 40 Tryz.func35 rfl (zQ (zR (zA rfl (zE (zQ (zR (zA rfl (zE (zB (wc_loop (α := Nat × Mem × Chunk × Chunk) (fun ⟨i, _, _, _⟩ => [(0, .pointer (some ⟨p, 0, none⟩)), (3, .int .i64 (m.own.tookL (m.k.r.came.take i)))]) (fun ⟨i, M1, H1, H2⟩ w => i ≤ m.k.r.wait ∧ Mle M M1 ∧ IsRJ M1 jp m.j Hj ∧ IsRS M1 ps m.k.s Hs ∧ IsRR M1 pr (m.k.pops i).r H1 ∧ IsRC M1 cp jp (m.own.takeL (m.k.r.came.take i)) H2 ∧ St M1 w ([(p, rnO jp kp cp m)] :: [(kp, rlO ps pr m.k)] :: Hs :: H1 :: Hj :: H2 :: Ls)) (fun ⟨i, _, _, _⟩ => m.k.r.wait - i) (0, M, Hr, Hc) (sub_cons rfl (subR rfl)) ⟨by omega, Mle.refl _, h1, g1, hg2, h3, hS.keep⟩ ?_))))))))))
  clear hS h3 hg2 h1 g1 g2
  rintro ⟨i, M1, H1, H2⟩ w ⟨hi, hM, h1, g1, g2, h3, hS⟩
  refine zB (zQ (zR (zM rfl (zN rfl (zF fl_76_3 rfl (wl (y_load pl_73 rfl (hS.c (v := .pointer (some ⟨kp, 0, none⟩)))) rfl (zN rfl (zF fl_140_2 rfl (wl (y_load pl_138 rfl (hS.c (v := .pointer (some ⟨pr, 0, none⟩)))) rfl (wl_call (.cons rfl .nil) (r11pop_c (Lnk.pops_ok _ i hk).2.2 g2 (hS.pull H1)) rfl ?_))))))))))
  rintro _ w ⟨H1', rfl, g2', hS⟩
  rw [pops_rpop] at g2'
  rw [hpv i]
  refine zM rfl (zX rfl (zX rfl (zA rfl (zA rfl (zE (zQ (zQ (zR (zM rfl (wl (y_not rfl) rfl (zE (zIf rfl (fun hc20 => ?_) fun hc20 => ?_))))))))))))
  · obtain rfl : i = m.k.r.wait := by omega
    rw [List.take_of_length_le (by omega)] at h3
    have hp : m.k.pops (m.k.r.wait + 1) = m.k.pops m.k.r.wait := by unfold Lnk.pops; congr 2; omega
    rw [hp] at g2'
    refine zQ (zR (zM rfl (zA rfl (zE (zV (z1 rfl ?_))))))
    exact ⟨M1, _, hM, congrArg (Value.int .i64) (by unfold Nod.pullN; rw [List.take_of_length_le (by omega)]), ⟨jp, kp, cp, Hj, _, H2, h1, ⟨ps, pr, Hs, H1', g1, g2', rfl⟩, h3, rfl⟩, (by have h := hS.keep (T := ((p, rnO jp kp cp m) :: (Hj ++ (((kp, rlO ps pr m.k) :: (Hs ++ H1')) ++ H2))) :: Ls); exact h)⟩
  obtain ⟨d, hdi⟩ : ∃ d, m.k.r.came[i]? = some d := ⟨_, List.getElem?_eq_getElem (by omega)⟩
  have hpd : Rcv.pd m.k.r i = d := by unfold Rcv.pd; rw [hdi] <;> rfl
  have hdz := hda d (List.mem_of_getElem? hdi)
  have htk : m.k.r.came.take (i + 1) = m.k.r.came.take i ++ [d] := by rw [List.take_add_one, hdi] <;> rfl
  have hT : m.own.takeL (m.k.r.came.take (i + 1)) = (m.own.takeL (m.k.r.came.take i)).take1 d := by rw [htk, Cli.takeL_app] <;> rfl
  have hN : m.own.tookL (m.k.r.came.take (i + 1)) = m.own.tookL (m.k.r.came.take i) + (m.own.takeL (m.k.r.came.take i)).took1 d := by rw [htk, Cli.tookL_app]; simp [Cli.tookL]
  have hNl := Cli.tookL_le m.own (m.k.r.came.take i)
  have hKl := Cli.takeL_known m.own (m.k.r.came.take i)
  have hPl := (Cli.takeL_same m.own (m.k.r.came.take i)).2.2.2.2
  have hul := grr_ups d (by omega)
  simp only [List.length_take] at hNl hKl
  refine zK (zQ (zR (wl ((y_move rfl).val (congrArg Value.string hpd)) rfl (wl_call (.cons rfl .nil) (q7get_c d (by omega) hS) rfl ?_))))
  rintro _ w ⟨M2, s2, rfl, hM2, hs2, hS⟩
  obtain ⟨sa2, sc2, rfl⟩ := (hs2.holds hS).slice
  refine zM rfl (zX rfl (zX rfl (a_alloc z_48 hS rfl fun b6 w hS => zG (vs := [_, _, _]) sz_48 rfl hS fun w hS => zA rfl (zE (zQ (zW hS (fun w => w.cell? ⟨p, 9, none⟩ = some (.pointer (some ⟨cp, 0, none⟩)) ∧ CellsAt w b6 0 [.int .i64 (grr d).o, .int .i64 (grr d).n, .slice sa2 (grr d).ups.length sc2]) [8] wide_ rfl fun w hS => zPm 0 1 rfl (zP 1 3 rfl (fun w => y_eql rfl rfl) (zPm 2 7 rfl (zDc (s := 29) rfl (fun hg29 => ?_) fun hg29 => ?_)))))))))
  · have hT1 : (m.own.takeL (m.k.r.came.take i)).take1 d = (m.own.takeL (m.k.r.came.take i)).take (grr d) := by unfold Cli.take1; rw [if_pos (by omega)]
    rw [hT1] at hT
    refine zPG 3 15 rfl (fun w => y_move rfl) (zPG 4 31 rfl (fun w => y_nil rfl) (zPG 5 63 rfl (fun w => y_fld fl_76_4 rfl) (zDG 6 127 rfl ⟨hS.c, hS.cells rfl⟩ (fun w hS => y_load pl_74 rfl hS.1) (zDG 7 255 rfl ⟨hS.c, hS.cells rfl⟩ (fun w hS => y_loadS st_48 sz_48 rfl hS.2 rfl) (zU 8 511 rfl (zI rfl (wl_call (.cons rfl (.cons rfl .nil)) (r17take_c (grr d) (.slice sa2 (grr d).ups.length sc2) (by omega) hs2 ⟨by omega, by omega⟩ (h3.mono hM2) (hS.pull H2)) rfl ?_)))))))
    rintro _ w ⟨M3, H3, hM3, rfl, h3', hS⟩
    refine zE ⟨fun h => absurd (by decide) h, zPG 9 1023 rfl (fun w => y_eql rfl rfl) (zP 10 2047 rfl (fun w => y_pickT rfl rfl) (zH (zIf rfl (fun hc37 => ?_) fun hc37 => ?_)))⟩
    · have ht : (m.own.takeL (m.k.r.came.take i)).took1 d = 1 := by unfold Cli.took1; rw [if_pos (by omega)]
      rw [ht] at hN
      refine zR (zM rfl (wl ((y_add rfl rfl (w64 (by omega) (by omega))).val (u := .int .i64 (m.own.tookL (m.k.r.came.take (i + 1)))) (congrArg (Value.int .i64) (by omega))) rfl (zA rfl (zE ?_))))
      first
      | exact ⟨(i + 1, M3, H1', H3), by simp only; omega, sub_cons rfl (subR rfl), by omega, hM.trans (hM2.trans hM3), h1.mono (hM2.trans hM3), g1.mono (hM2.trans hM3), g2'.mono (hM2.trans hM3), by rw [hT]; exact h3', hS.keep⟩
      | exact ⟨(i + 1, M3, H1', H3), by simp only; omega, sub_cons rfl (sub_cons (congrArg (fun n : Nat => some (Value.int .i64 (n : Int))) hN.symm) sub_nil), by omega, hM.trans (hM2.trans hM3), h1.mono (hM2.trans hM3), g1.mono (hM2.trans hM3), g2'.mono (hM2.trans hM3), by rw [hT]; exact h3', hS.keep⟩
      | exact ⟨(i + 1, M2, H1', H2), by simp only; omega, sub_cons rfl (sub_cons (congrArg (fun n : Nat => some (Value.int .i64 (n : Int))) hN.symm) sub_nil), by omega, hM.trans hM2, h1.mono hM2, g1.mono hM2, g2'.mono hM2, by rw [hT]; exact h3.mono hM2, hS.keep⟩
    have ht : (m.own.takeL (m.k.r.came.take i)).took1 d = 0 := by unfold Cli.took1; rw [if_neg (by omega)]
    rw [ht, Nat.add_zero] at hN
    refine zK ?_
    first
    | exact ⟨(i + 1, M3, H1', H3), by simp only; omega, sub_cons rfl (subR rfl), by omega, hM.trans (hM2.trans hM3), h1.mono (hM2.trans hM3), g1.mono (hM2.trans hM3), g2'.mono (hM2.trans hM3), by rw [hT]; exact h3', hS.keep⟩
    | exact ⟨(i + 1, M3, H1', H3), by simp only; omega, sub_cons rfl (sub_cons (congrArg (fun n : Nat => some (Value.int .i64 (n : Int))) hN.symm) sub_nil), by omega, hM.trans (hM2.trans hM3), h1.mono (hM2.trans hM3), g1.mono (hM2.trans hM3), g2'.mono (hM2.trans hM3), by rw [hT]; exact h3', hS.keep⟩
    | exact ⟨(i + 1, M2, H1', H2), by simp only; omega, sub_cons rfl (sub_cons (congrArg (fun n : Nat => some (Value.int .i64 (n : Int))) hN.symm) sub_nil), by omega, hM.trans hM2, h1.mono hM2, g1.mono hM2, g2'.mono hM2, by rw [hT]; exact h3.mono hM2, hS.keep⟩
  have hT1 : (m.own.takeL (m.k.r.came.take i)).take1 d = (m.own.takeL (m.k.r.came.take i)) := by unfold Cli.take1; rw [if_neg (by omega)]
  have ht : (m.own.takeL (m.k.r.came.take i)).took1 d = 0 := by unfold Cli.took1; rw [if_neg (by omega)]
  rw [hT1] at hT
  rw [ht, Nat.add_zero] at hN
  refine zDO 3 15 rfl (zDO 4 31 rfl (zDO 5 63 rfl (zDO 6 127 rfl (zDO 7 255 rfl (zDO 8 511 rfl (zDO 9 1023 rfl (zP 10 2047 rfl (fun w => y_pickF rfl rfl) (zH (wc_ifF rfl rfl (zK ?_))))))))))
  first
  | exact ⟨(i + 1, M3, H1', H3), by simp only; omega, sub_cons rfl (subR rfl), by omega, hM.trans (hM2.trans hM3), h1.mono (hM2.trans hM3), g1.mono (hM2.trans hM3), g2'.mono (hM2.trans hM3), by rw [hT]; exact h3', hS.keep⟩
  | exact ⟨(i + 1, M3, H1', H3), by simp only; omega, sub_cons rfl (sub_cons (congrArg (fun n : Nat => some (Value.int .i64 (n : Int))) hN.symm) sub_nil), by omega, hM.trans (hM2.trans hM3), h1.mono (hM2.trans hM3), g1.mono (hM2.trans hM3), g2'.mono (hM2.trans hM3), by rw [hT]; exact h3', hS.keep⟩
  | exact ⟨(i + 1, M2, H1', H2), by simp only; omega, sub_cons rfl (sub_cons (congrArg (fun n : Nat => some (Value.int .i64 (n : Int))) hN.symm) sub_nil), by omega, hM.trans hM2, h1.mono hM2, g1.mono hM2, g2'.mono hM2, by rw [hT]; exact h3.mono hM2, hS.keep⟩
theorem r18look_c {p : Nat} {m : Nod} {H : Chunk} (hm : m.rok) (hb : IsRN M p m H) (hS : St M w (H :: Ls)) :
    CallsR Tryz.prog 39 [.pointer (some ⟨p, 0, none⟩)].toArray w fun v w' => v = lkV m.look ∧ St M w' (H :: Ls) := by
  obtain ⟨s1, s2, s3, s4⟩ := hm.sm
  have hk := hm.k
  obtain ⟨jp, kp, cp, Hj, Hk, Hc, h1, h2, h3, rfl⟩ := hb
  obtain ⟨ps, pr, Hs, Hr, g1, g2, rfl⟩ := h2
  obtain ⟨xs, sk, ys, sp, so, f1, f2, f3, f4, f5, rfl⟩ := h3
  obtain ⟨_, ka, kc, rfl, _⟩ := f1
  obtain ⟨_, pa, pc, rfl, _⟩ := f3
  obtain ⟨_, oa, oc, rfl, _⟩ := f5
  have e2 := f2.len
  have e4 := f4.len
  replace hS := (hS.un3.pull ((kp, rlO ps pr m.k) :: (Hs ++ Hr))).un2
  refine zC 53 Tryz.func39 rfl (zQ (zR (a_alloc z_30 hS rfl fun b2 w hS => zE (zQ (zW hS (fun w => w.cell? ⟨p, 8, none⟩ = some (.pointer (some ⟨kp, 0, none⟩)) ∧ w.cell? ⟨kp, 0, none⟩ = some (.int .i64 m.k.ep) ∧ w.cell? ⟨p, 9, none⟩ = some (.pointer (some ⟨cp, 0, none⟩)) ∧ w.cell? ⟨cp, 4, none⟩ = some (.slice ka xs.length kc) ∧ w.cell? ⟨cp, 5, none⟩ = some (.slice pa ys.length pc) ∧ w.cell? ⟨cp, 6, none⟩ = some (.slice oa m.own.opn.length oc) ∧ w.cell? ⟨kp, 2, none⟩ = some (.pointer (some ⟨pr, 0, none⟩)) ∧ w.cell? ⟨kp, 1, none⟩ = some (.pointer (some ⟨ps, 0, none⟩))) [50] wide_ rfl fun w hS => zPm 0 1 rfl (zPn 1 3 rfl (zPf 2 7 fl_76_3 rfl (zPm 7 135 rfl (zPn 8 391 rfl (zPf 9 903 fl_76_4 rfl (zPm 15 33671 rfl (zPn 16 99207 rfl (zPf 17 230279 fl_76_4 rfl (zPm 23 8618887 rfl (zPn 24 25396103 rfl (zPf 25 58950535 fl_76_4 rfl (zPm 31 2206434183 rfl (zPn 32 6501401479 rfl (zPf 33 15091336071 fl_76_3 rfl (zPm 40 1114602963847 rfl (zPn 41 3313626219399 rfl (zPf 42 7711672730503 fl_76_3 rfl (zD 3 7711672730511 rfl ⟨hS.c, hS.c, hS.c, hS.c, hS.c, hS.c, hS.c, hS.c⟩ (fun w hS => y_load pl_73 rfl hS.1) (zPn 4 7711672730527 rfl (zPf 5 7711672730559 fl_140_0 rfl (zD 6 7711672730623 rfl ⟨hS.c, hS.c, hS.c, hS.c, hS.c, hS.c, hS.c, hS.c⟩ (fun w hS => y_load pl_3 rfl hS.2.1) (zD 10 7711672731647 rfl ⟨hS.c, hS.c, hS.c, hS.c, hS.c, hS.c, hS.c, hS.c⟩ (fun w hS => y_load pl_74 rfl hS.2.2.1) (zPn 11 7711672733695 rfl (zPf 12 7711672737791 fl_85_4 rfl (zD 13 7711672745983 rfl ⟨hS.c, hS.c, hS.c, hS.c, hS.c, hS.c, hS.c, hS.c⟩ (fun w hS => y_load pl_32 rfl hS.2.2.2.1) (zP 14 7711672762367 rfl (fun w => y_len_sl Tryz.underlying32 rfl) (zD 18 7711673024511 rfl ⟨hS.c, hS.c, hS.c, hS.c, hS.c, hS.c, hS.c, hS.c⟩ (fun w hS => y_load pl_74 rfl hS.2.2.1) (zPn 19 7711673548799 rfl (zPf 20 7711674597375 fl_85_5 rfl (zD 21 7711676694527 rfl ⟨hS.c, hS.c, hS.c, hS.c, hS.c, hS.c, hS.c, hS.c⟩ (fun w hS => y_load pl_32 rfl hS.2.2.2.2.1) (zP 22 7711680888831 rfl (fun w => y_len_sl Tryz.underlying32 rfl) (zD 26 7711747997695 rfl ⟨hS.c, hS.c, hS.c, hS.c, hS.c, hS.c, hS.c, hS.c⟩ (fun w hS => y_load pl_74 rfl hS.2.2.1) (zPn 27 7711882215423 rfl (zPf 28 7712150650879 fl_85_6 rfl (zD 29 7712687521791 rfl ⟨hS.c, hS.c, hS.c, hS.c, hS.c, hS.c, hS.c, hS.c⟩ (fun w hS => y_load pl_46 rfl hS.2.2.2.2.2.1) (zP 30 7713761263615 rfl (fun w => y_len_sl Tryz.underlying46 rfl) (zD 34 7730941132799 rfl ⟨hS.c, hS.c, hS.c, hS.c, hS.c, hS.c, hS.c, hS.c⟩ (fun w hS => y_load pl_73 rfl hS.1) (zPn 35 7765300871167 rfl (zPf 36 7834020347903 fl_140_2 rfl (zD 37 7971459301375 rfl ⟨hS.c, hS.c, hS.c, hS.c, hS.c, hS.c, hS.c, hS.c⟩ (fun w hS => y_load pl_138 rfl hS.2.2.2.2.2.2.1) (zD 43 16767552323583 rfl ⟨hS.c, hS.c, hS.c, hS.c, hS.c, hS.c, hS.c, hS.c⟩ (fun w hS => y_load pl_73 rfl hS.1) (zPn 44 34359738367999 rfl (zPf 45 69544110456831 fl_140_1 rfl (zD 46 139912854634495 rfl ⟨hS.c, hS.c, hS.c, hS.c, hS.c, hS.c, hS.c, hS.c⟩ (fun w hS => y_load pl_137 rfl hS.2.2.2.2.2.2.2) (zU 38 140187732541439 rfl (wl_call (.cons rfl .nil) (r11look_c hk.2.2 g2 (hS.pull Hr)) rfl ?_)))))))))))))))))))))))))))))))))))))))))))))))))))
  rintro v w ⟨Hy, hoy, hS⟩
  obtain ⟨ya, yc, rfl⟩ := hoy.slice
  rw [List.length_drop]
  refine zE ⟨fun _ _ => ⟨hS.c, hS.c, hS.c, hS.c, hS.c, hS.c, hS.c, hS.c⟩, zP 39 140737488355327 rfl (fun w => y_len_sl Tryz.underlying83 rfl) (zU 47 281474976710655 rfl (wl_call (.cons rfl .nil) (r10left_c hk.2.1 g1 (hS.pull Hs)) rfl ?_))⟩
  rintro v w ⟨Hz, hoz, hS⟩
  obtain ⟨za, zc, rfl⟩ := hoz.slice
  rw [List.length_drop]
  refine zE ⟨fun _ _ => ⟨hS.c, hS.c, hS.c, hS.c, hS.c, hS.c, hS.c, hS.c⟩, zP 48 562949953421311 rfl (fun w => y_len_sl Tryz.underlying83 rfl) (zP 49 1125899906842623 rfl (fun w => y_build (is := [0, 1, 2, 3, 4, 5]) (xs := [_, _, _, _, _, _]) (out := [_, _, _, _, _, _]) plc_30 z_30 (.cons rfl (.cons rfl (.cons rfl (.cons rfl (.cons rfl (.cons rfl .nil)))))) rfl) (zU 50 2251799813685247 rfl (zG (vs := [_, _, _, _, _, _]) sz_30 rfl hS fun w hS => zE ⟨fun h => absurd (by decide) h, zH (zV (wret (vs := [_]) (.cell rfl (loadVar_struct st_30 sz_30 (vs := [_, _, _, _, _, _]) rfl (hS.cells rfl)) .nil) ?_))⟩)))⟩
  exact ⟨by unfold lkV Nod.look; simp only; rw [← e2, ← e4] <;> rfl, (by have h := hS.keep (T := ((p, rnO jp kp cp m) :: (Hj ++ (((kp, rlO ps pr m.k) :: (Hs ++ Hr)) ++ [(cp, rcO jp m.own (.slice ka xs.length kc) (.slice pa ys.length pc) (.slice oa m.own.opn.length oc))]))) :: Ls); exact h)⟩
end
end Go.Proofs.YtndahppmjdbifaaGreatDoor.Ref
set_option linter.unusedVariables false
set_option linter.unusedSimpArgs false
namespace Go.Proofs.YtndahppmjdbifaaGreatDoor.Ref
open Go Go.Proofs Eng Snd Lnk Fra Val Rou Jnl Cli Nod Pre Pak Crc
section
variable {M : Mem} {w : World} {Ls : List Chunk}
theorem r18tick_c {p : Nat} {m : Nod} {H : Chunk} (hm : m.rok) (hb : IsRN M p m H) (hS : St M w (H :: Ls)) :
    CallsR Tryz.prog 38 [.pointer (some ⟨p, 0, none⟩)].toArray w fun v w' => ∃ M' H' Hp, Mle M M' ∧ Own 40 encP v m.tickP Hp ∧ IsRN M' p m.tick H' ∧ St M' w' (Hp :: H' :: Ls) := by
  obtain ⟨s1, s2, s3, s4⟩ := hm.sm
  have hk := hm.k
  have hjr := hm.jr
  have hsa := hm.sa
  obtain ⟨jp, kp, cp, Hj, Hk, Hc, h1, h2, h3, rfl⟩ := hb
  obtain ⟨ps, pr, Hs, Hr, g1, g2, rfl⟩ := h2
  obtain ⟨js, sj, ho, hr, rfl⟩ := h1
  have hlen := hr.len
  obtain ⟨ho, ja, jc, rfl, hjcap⟩ := ho
  have hRt : m.tick.k.r = m.k.r := (offl_r _ _ _).1
  have hRl := rlO_tick
  replace hS := (hS.un3.pull ((kp, rlO ps pr m.k) :: (Hs ++ Hr))).un2
  refine zC 68 Tryz.func38 rfl (zQ (zR (zA rfl (zE (wc_cut (α := Mem × Chunk) (fun _ => [(0, .pointer (some ⟨p, 0, none⟩))]) (fun ⟨M1, H1⟩ w => Mle M M1 ∧ IsRS M1 ps m.tick.k.s H1 ∧ St M1 w ([(p, rnQ m.c m.origin jp kp cp m.tick.offered)] :: [(kp, rlO ps pr m.k)] :: H1 :: Hr :: [(jp, rjO m.j (.slice ja js.length jc))] :: Hc :: Ls)) ?_ ?_)))))
  · refine zB ?_
    refine wc_loop (α := Nat × Lnk × Mem × Chunk) (fun _ => [(0, .pointer (some ⟨p, 0, none⟩))]) (fun ⟨n, k, M1, H1⟩ w => offl (m.j.l.drop m.offered) m.k m.offered = offl (m.j.l.drop n) k n ∧ k.s.all.length ≤ 100000000000 + (n - m.offered) ∧ m.offered ≤ n ∧ (m.offered < n → n ≤ m.j.l.length) ∧ k.ok ∧ Mle M M1 ∧ IsRS M1 ps k.s H1 ∧ St M1 w ([(p, rnQ m.c m.origin jp kp cp n)] :: [(kp, rlO ps pr m.k)] :: H1 :: Hr :: [(jp, rjO m.j (.slice ja js.length jc))] :: Hc :: Ls)) (fun ⟨n, _⟩ => m.j.l.length - n) (m.offered, m.k, M, Hs) (subR rfl) ⟨rfl, by omega, by omega, fun h => absurd h (by omega), hk, Mle.refl _, g1, hS.keep⟩ ?_
    clear hS g1
    rintro ⟨n, k, M1, H1⟩ w ⟨hq, hkl, hmn, hnj, hk1, hM1, g1, hS⟩
    refine zQ (zQ (zW hS (fun w => w.cell? ⟨p, 10, none⟩ = some (.int .i64 n) ∧ w.cell? ⟨p, 7, none⟩ = some (.pointer (some ⟨jp, 0, none⟩)) ∧ w.cell? ⟨jp, 2, none⟩ = some (.slice ja js.length jc)) [] wide_ rfl fun w hS => zPm 0 1 rfl (zPn 1 3 rfl (zPf 2 7 fl_76_5 rfl (zPm 4 23 rfl (zPn 5 55 rfl (zPf 6 119 fl_76_2 rfl (zD 3 127 rfl ⟨hS.c, hS.c, hS.c⟩ (fun w hS => y_load pl_3 rfl hS.1) (zD 7 255 rfl ⟨hS.c, hS.c, hS.c⟩ (fun w hS => y_load pl_72 rfl hS.2.1) (zPn 8 511 rfl (zPf 9 1023 fl_87_2 rfl (zD 10 2047 rfl ⟨hS.c, hS.c, hS.c⟩ (fun w hS => y_load pl_32 rfl hS.2.2) (zP 11 4095 rfl (fun w => y_len_sl Tryz.underlying32 rfl) (zP 12 8191 rfl (fun w => y_lss rfl rfl) (zH (zIf rfl (fun hc17 => ?_) fun hc17 => ?_))))))))))))))))
    · obtain ⟨r, hri⟩ : ∃ r, m.j.l[n]? = some r := ⟨_, List.getElem?_eq_getElem (by omega)⟩
      have hmr := hjr r (List.mem_of_getElem? hri)
      obtain ⟨x, hx, hxr⟩ := (hr.mono hM1).at hri
      obtain ⟨bb, off, c', hse, hce⟩ := ((ho.mono hM1).holds hS).at hx
      simp only [Value.slice.injEq] at hse
      have hSk := hS
      obtain ⟨rfl, _, rfl⟩ := hse
      replace hS := hSk
      refine zK (zB (zQ (zW hS (fun w => w.cell? ⟨p, 8, none⟩ = some (.pointer (some ⟨kp, 0, none⟩)) ∧ w.cell? ⟨kp, 1, none⟩ = some (.pointer (some ⟨ps, 0, none⟩)) ∧ w.cell? ⟨p, 7, none⟩ = some (.pointer (some ⟨jp, 0, none⟩)) ∧ w.cell? ⟨jp, 2, none⟩ = some (.slice (some ⟨bb, off, none⟩) js.length jc) ∧ w.cell? ⟨p, 10, none⟩ = some (.int .i64 n) ∧ CellsAt w bb (off + n * encRV.k) (encRV.f x)) [21] wide_ rfl fun w hS => zPm 0 1 rfl (zPn 1 3 rfl (zPf 2 7 fl_76_3 rfl (zPm 7 135 rfl (zPn 8 391 rfl (zPf 9 903 fl_76_2 rfl (zPm 14 17287 rfl (zPn 15 50055 rfl (zPf 16 115591 fl_76_5 rfl (zD 3 115599 rfl ⟨hS.c, hS.c, hS.c, hS.c, hS.c, ((ho.mono hM1).holds hS).cells hx⟩ (fun w hS => y_load pl_73 rfl hS.1) (zPn 4 115615 rfl (zPf 5 115647 fl_140_1 rfl (zD 6 115711 rfl ⟨hS.c, hS.c, hS.c, hS.c, hS.c, ((ho.mono hM1).holds hS).cells hx⟩ (fun w hS => y_load pl_137 rfl hS.2.1) (zD 10 116735 rfl ⟨hS.c, hS.c, hS.c, hS.c, hS.c, ((ho.mono hM1).holds hS).cells hx⟩ (fun w hS => y_load pl_72 rfl hS.2.2.1) (zPn 11 118783 rfl (zPf 12 122879 fl_87_2 rfl (zD 13 131071 rfl ⟨hS.c, hS.c, hS.c, hS.c, hS.c, ((ho.mono hM1).holds hS).cells hx⟩ (fun w hS => y_load pl_32 rfl hS.2.2.2.1) (zD 17 262143 rfl ⟨hS.c, hS.c, hS.c, hS.c, hS.c, ((ho.mono hM1).holds hS).cells hx⟩ (fun w hS => y_load pl_3 rfl hS.2.2.2.2.1) (zP 18 524287 rfl (fun w => y_ixa_sl Tryz.underlying32 sz_48 rfl rfl (by omega) (by omega)) (zD 19 1048575 rfl ⟨hS.c, hS.c, hS.c, hS.c, hS.c, ((ho.mono hM1).holds hS).cells hx⟩ (fun w hS => (y_loadS st_48 sz_48 rfl hS.2.2.2.2.2 rfl).val hxr.val) (zU 20 2097151 rfl (wl_call (.cons rfl .nil) (r7bytes_c r _ hxr.2.2.1 hmr hS) rfl ?_))))))))))))))))))))))))
      rintro _ w ⟨rfl, hS⟩
      rw [← putB_eq hmr]
      refine zE ⟨fun _ _ => ⟨hS.c, hS.c, hS.c, hS.c, hS.c, ((ho.mono hM1).holds hS).cells hx⟩, zU 21 4194303 rfl (wl_call (.cons rfl (.cons rfl .nil)) (r10offer_c (putB r) (by have := hk1.2.1; unfold Snd.ok at this; omega) hk1.2.1 g1 (hS.pull H1)) rfl ?_)⟩
      rintro _ w ⟨_, M2, H2, hM2, rfl, g3, hS⟩
      refine zE ⟨fun h => absurd (by decide) h, zPm 22 8388607 rfl (zPx 23 16777215 rfl (zPx 24 33554431 rfl (zPa 25 67108863 rfl (zPa 26 134217727 rfl (zH (zQ (zQ (zR (zM rfl (wl (y_neq rfl rfl) rfl (zE (zIf rfl (fun hc44 => ?_) fun hc44 => ?_))))))))))))⟩
      · replace hq := hq.trans (offl_stop (.inr (by omega)))
        have hk' : m.tick.k = k := by unfold Nod.tick; rw [hq]
        have ho' : m.tick.offered = n := by unfold Nod.tick; rw [hq]
        have hkk : k.s.offer (putB r) = k.s := by unfold Snd.offer; rw [if_neg (by omega)]
        rw [hkk] at g3
        refine wc_exit ?_
        first
        | exact ⟨(M2, H2), subR rfl, hM1.trans hM2, by rw [hk']; exact g3, by rw [ho']; exact hS.keep⟩
        | exact ⟨(M1, H1), subR rfl, hM1, by rw [hk']; exact g1, by rw [ho']; exact hS.keep⟩
      replace hq := hq.trans (offl_step hri (by omega))
      have hal : (k.s.offer (putB r)).all.length = k.s.all.length + 1 := by unfold Snd.offer; rw [if_pos (by omega)]; simp
      refine zK (zR (zM rfl (zM rfl (zN rfl (zF fl_76_5 rfl (wl (y_load pl_3 rfl (hS.c (v := .int .i64 n))) rfl (wl ((y_add rfl rfl (w64 (by omega) (by omega))).val (u := .int .i64 ((n + 1 : Nat) : Int)) (congrArg (Value.int .i64) (by omega))) rfl (zN rfl (zF fl_76_5 rfl (zS sz_3 rfl hS fun w hS => zE ?_))))))))))
      simp only [zL, cells_agg, setCells] at hS
      exact ⟨(n + 1, k.offer (putB r), M2, H2), by simp only; omega, subR rfl, hq, by show (k.s.offer (putB r)).all.length ≤ _; omega, by omega, fun _ => by omega, Lnk.offer_ok hk1 _, hM1.trans hM2, g3, hS.keep⟩
    replace hq := hq.trans (offl_stop (.inl (by omega)))
    have hk' : m.tick.k = k := by unfold Nod.tick; rw [hq]
    have ho' : m.tick.offered = n := by unfold Nod.tick; rw [hq]
    refine wc_exit ?_
    first
    | exact ⟨(M2, H2), subR rfl, hM1.trans hM2, by rw [hk']; exact g3, by rw [ho']; exact hS.keep⟩
    | exact ⟨(M1, H1), subR rfl, hM1, by rw [hk']; exact g1, by rw [ho']; exact hS.keep⟩
  clear hS
  rintro ⟨M1, H1⟩ w ⟨hM1, g1, hS⟩
  have htk : m.tick.k.ok := offl_ok hk
  have hfl := frames_length m.tick.k htk
  have hkR : IsRL M1 kp m.tick.k ((kp, rlO ps pr m.k) :: (H1 ++ Hr)) := ⟨ps, pr, H1, Hr, g1, by rw [hRt]; exact g2.mono hM1, by rw [hRl]⟩
  have hfs : ∀ f ∈ m.tick.k.frames, f.data.size ≤ 1400 := frames_data (P := fun d => d.size ≤ 1400) (show ∀ d ∈ (offl (m.j.l.drop m.offered) m.k m.offered).1.s.all, d.size ≤ 1400 from offl_s hm.sd fun r _ => putB_size r) (by simp)
  have hal : m.tick.k.s.all.length ≤ 1125899906842624 := by have := htk.2.1; unfold Snd.ok at this; omega
  refine zQ (zW hS (fun w => w.cell? ⟨p, 6, none⟩ = some (.int .i64 m.origin) ∧ w.cell? ⟨p, 8, none⟩ = some (.pointer (some ⟨kp, 0, none⟩)) ∧ w.cell? ⟨p, 4, none⟩ = some (.int .i64 m.c.mtu)) [] wide_ rfl fun w hS => zPm 0 1 rfl (zPn 1 3 rfl (zPf 2 7 fl_76_1 rfl (zPm 4 23 rfl (zPn 5 55 rfl (zPf 6 119 fl_76_3 rfl (zPm 9 631 rfl (zPn 10 1655 rfl (zPf 11 3703 fl_76_0 rfl (zPf 12 7799 fl_23_4 rfl (zD 3 7807 rfl ⟨hS.c, hS.c, hS.c⟩ (fun w hS => y_load pl_3 rfl hS.1) (zD 7 7935 rfl ⟨hS.c, hS.c, hS.c⟩ (fun w hS => y_load pl_73 rfl hS.2.1) (zD 13 16127 rfl ⟨hS.c, hS.c, hS.c⟩ (fun w hS => y_load pl_3 rfl hS.2.2) (zU 8 16383 rfl (wl_call (.cons rfl .nil) (r12frames_c htk hal hkR (by have h := hS.keep (T := ((kp, rlO ps pr m.k) :: (H1 ++ Hr)) :: [(p, rnQ m.c m.origin jp kp cp m.tick.offered)] :: [(jp, rjO m.j (.slice ja js.length jc))] :: Hc :: Ls); exact h)) rfl ?_)))))))))))))))
  rintro v w ⟨Hf, hof, hS⟩
  obtain ⟨fa, fc, rfl⟩ := hof.slice
  replace hS := (hS.pull ((kp, rlO ps pr m.k) :: (H1 ++ Hr))).un2
  refine zE ⟨fun _ _ => ⟨hS.c, hS.c, hS.c⟩, zU 14 32767 rfl (wl_call (.cons rfl (.cons rfl (.cons rfl (.cons rfl .nil)))) (r16packets_c m.origin 0 m.c.mtu m.tick.k.frames _ hfs (by omega) hof (hS.pull Hf)) rfl ?_)⟩
  rintro v w ⟨Ho, hoo, hS⟩
  refine zE ⟨fun _ _ => ⟨hS.c, hS.c, hS.c⟩, zPa 15 65535 rfl (zH (zV (z1 rfl ?_)))⟩
  exact ⟨M1, _, Ho, hM1, hoo, ⟨jp, kp, cp, _, _, Hc, ⟨js, _, ⟨ho.mono hM1, _, _, rfl, hjcap⟩, hr.mono hM1, rfl⟩, hkR, h3.mono hM1, rfl⟩, (by have h := hS.keep (T := Ho :: ((p, rnQ m.c m.origin jp kp cp m.tick.offered) :: ([(jp, rjO m.j (.slice ja js.length jc))] ++ (((kp, rlO ps pr m.k) :: (H1 ++ Hr)) ++ Hc))) :: Ls); exact h)⟩
end
end Go.Proofs.YtndahppmjdbifaaGreatDoor.Ref
