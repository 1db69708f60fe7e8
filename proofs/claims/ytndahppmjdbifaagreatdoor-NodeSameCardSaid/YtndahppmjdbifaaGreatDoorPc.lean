/-
  Part 3 of the proof: UpdC, RouC, RgtC, CrcM, CrcA, CrcB, CrcP, FraC, SndC.
-/
import Derived.Test.YtndahppmjdbifaaGreatDoorPb
import Derived.KernelRfl
set_option linter.unusedVariables false
set_option linter.unusedSimpArgs false
namespace Go.Proofs.YtndahppmjdbifaaGreatDoor.Val
open Go Go.Proofs Go.Proofs.YtndahppmjdbifaaGreatDoor.Eng Go.Proofs.YtndahppmjdbifaaGreatDoor.Pre Go.Proofs.YtndahppmjdbifaaGreatDoor.Pak

@[irreducible] def ubytes (u : Upd) : List UInt8 :=
  pput u.kind.toNat ++ ptext u.key ++ (if u.kind = 1 ∨ u.kind = 3 then pput (zig u.n) else if u.kind = 2 ∨ u.kind = 4 then ptext u.s else [])
theorem pput_length (n : Nat) : (pput n).length ≤ 8 := by unfold pput; rw [be_length]; exact psize_le n
theorem ptext_length (b : ByteArray) : (ptext b).length ≤ 8 + b.size := by
  unfold ptext
  rw [List.length_append]
  have := pput_length b.size
  have h2 : b.data.toList.length = b.size := by simp
  omega
theorem mayU_ok {u : Upd} (h : mayU u = 0) : 1 ≤ u.kind ∧ u.kind ≤ 5 ∧ 1 ≤ u.key.size ∧ u.key.size ≤ 16 ∧ u.s.size ≤ 32 ∧ -2305843009213693952 ≤ u.n ∧ u.n < 2305843009213693952 := by
  have he : ((⟨#[]⟩ : ByteArray)).size = 0 := rfl
  unfold mayU at h
  split at h; · cases h
  split at h; · cases h
  split at h
  · rename_i h1 h2 h3
    split at h; · cases h
    split at h; · cases h
    split at h; · cases h
    rename_i h4 h5 h6
    have h7 : u.s = ⟨#[]⟩ := by simpa using h4
    rw [h7, he]
    omega
  · split at h
    · split at h; · cases h
      split at h; · cases h
      omega
    · split at h
      · split at h; · cases h
        split at h; · cases h
        rename_i h4 h5 h6
        have h7 : u.s = ⟨#[]⟩ := by simpa using h6
        rw [h7, he]
        omega
      · cases h
theorem ubytes_length {u : Upd} (h : mayU u = 0) : (ubytes u).length ≤ 72 := by
  have h1 := mayU_ok h
  unfold ubytes
  rw [List.length_append, List.length_append]
  have a := pput_length u.kind.toNat
  have b := ptext_length u.key
  have c : (if u.kind = 1 ∨ u.kind = 3 then pput (zig u.n) else if u.kind = 2 ∨ u.kind = 4 then ptext u.s else []).length ≤ 40 := by
    split
    · have := pput_length (zig u.n); omega
    · split
      · have := ptext_length u.s; omega
      · simp
  omega

/-! ### reading -/
@[irreducible] def ru1 (r : Rdr) : Rdr := if (rnum r 5).1 = 0 then rfail (rnum r 5).2 5 else (rnum r 5).2
@[irreducible] def ru2 (r : Rdr) : ByteArray × Rdr := rtext (ru1 r) 16
@[irreducible] def ru3 (r : Rdr) : Rdr := if (ru2 r).1 = ⟨#[]⟩ then rfail (ru2 r).2 1 else (ru2 r).2
@[irreducible] def ru4 (r : Rdr) : Int × ByteArray × Rdr :=
  if (rnum r 5).1 = 1 ∨ (rnum r 5).1 = 3 then ((rsig (ru3 r)).1, ByteArray.empty, (rsig (ru3 r)).2) else
  if (rnum r 5).1 = 2 ∨ (rnum r 5).1 = 4 then (0, (rtext (ru3 r) 32).1, (rtext (ru3 r) 32).2) else (0, ByteArray.empty, ru3 r)
@[irreducible] def ruU (r : Rdr) : Upd := if (ru4 r).2.2.e ≠ 0 then upd0 else ⟨(ru2 r).1, (rnum r 5).1, (ru4 r).1, (ru4 r).2.1⟩
@[irreducible] def ruR (r : Rdr) : Rdr := (ru4 r).2.2
theorem ru1_ok {r : Rdr} (h : r.ok) : (ru1 r).ok := by
  have h1 := rnum_ok h 5
  unfold ru1; split
  · exact (rfail_ok h1.1 5).1
  · exact h1.1
theorem ru3_ok {r : Rdr} (h : r.ok) : (ru3 r).ok := by
  have h1 : (ru2 r).2.ok := by unfold ru2; exact (rtext_ok (ru1_ok h) 16).1
  unfold ru3
  by_cases hc : (ru2 r).1 = ⟨#[]⟩
  · rw [if_pos hc]; exact (rfail_ok h1 1).1
  · rw [if_neg hc]; exact h1
theorem rsig_ok {r : Rdr} (h : r.ok) : (rsig r).2.ok := by unfold rsig; exact (rraw_ok h).1
theorem ruR_ok {r : Rdr} (h : r.ok) : (ruR r).ok := by
  have h3 := ru3_ok h
  unfold ruR ru4; split
  · exact rsig_ok h3
  · split
    · exact (rtext_ok h3 32).1
    · exact h3

section
variable {M : Mem} {w : World} {Ls : List Chunk}
theorem uwrite_c (hG : Bits M) {p : Nat} {bs : List UInt8} {H : Chunk} (u : Upd) (hu : mayU u = 0) (hb : IsW p bs false H) (hs : bs.length ≤ 17179869184) (hS : St M w (H :: Ls)) :
    CallsR Tryz.prog 123 [.pointer (some ⟨p, 0, none⟩), uv u].toArray w fun v w' => ∃ H', IsW p (bs ++ ubytes u) false H' ∧ St M w' (H' :: Ls) := by
  obtain ⟨k1, k2, k3, k4, k5, k6, k7⟩ := mayU_ok hu
  obtain ⟨k, hk⟩ : ∃ k : Nat, u.kind = k := ⟨u.kind.toNat, by omega⟩
  have hub : bs ++ ubytes u = bs ++ pput k ++ ptext u.key ++ (if u.kind = 1 ∨ u.kind = 3 then pput (zig u.n) else if u.kind = 2 ∨ u.kind = 4 then ptext u.s else []) := by
    unfold ubytes; rw [hk]; simp
  rw [hub]
  have l1 := pput_length k
  have l2 := ptext_length u.key
  refine calls_of (c := _) (rs := _) (n := 28) Tryz.func123 rfl rfl rfl rfl rfl ?_
  refine wc_seq ?_
  refine wc_region ?_
  refine a_box rfl hS rfl fun b3 w hS => ?_
  refine wl_nil ?_
  refine wc_seq ?_
  refine wc_region ?_
  refine wl (y_move rfl) rfl ?_
  refine wl (y_fld fl_59_1 rfl) rfl ?_
  refine wl ((y_load pl_3 rfl (hS.cell rfl)).val (congrArg (Value.int .i64) hk)) rfl ?_
  refine wl_call (.cons rfl (.cons rfl .nil)) (wnum_c hG k (by omega) hb (by omega) (hS.pull H)) rfl ?_
  rintro _ w ⟨H1, hb, hS⟩
  refine wl_nil ?_
  refine wc_seq ?_
  refine wc_region ?_
  refine wl (y_move rfl) rfl ?_
  refine wl (y_fld fl_59_0 rfl) rfl ?_
  refine wl (y_load pl_9 rfl (hS.cell (v := .string u.key) rfl)) rfl ?_
  refine wl_call (.cons rfl (.cons rfl .nil)) (wtext_c hG u.key (by omega) hb (by rw [List.length_append]; omega) hS) rfl ?_
  rintro _ w ⟨H2, hb, hS⟩
  refine wl_nil ?_
  refine wc_seq ?_
  refine wc_region ?_
  refine wl (y_fld fl_59_1 rfl) rfl ?_
  refine wl (y_load pl_3 rfl (hS.cell (v := .int .i64 u.kind) rfl)) rfl ?_
  refine wl_nil ?_
  refine wc_block ?_
  refine wc_seq ?_
  refine wc_seq ?_
  refine wc_region ?_
  refine wl (y_eql rfl rfl) rfl ?_
  refine wl (y_assign rfl) rfl ?_
  refine wl_nil ?_
  refine wc_case rfl (fun hc14 => ?_) (fun hc14 => ?_)
  · try simp only [zq1, zq2, zq3, zq4, zq5, zq6, zq7] at hc14
    refine wc_skip ?_
    refine wc_ifT rfl rfl ?_
    refine wc_region ?_
    refine wl (y_move rfl) rfl ?_
    refine wl (y_fld fl_59_2 rfl) rfl ?_
    refine wl (y_load pl_2 rfl (hS.cell (v := .int .i64 u.n) rfl)) rfl ?_
    refine wl_call (.cons rfl (.cons rfl .nil)) (wsig_c hG u.n ⟨k6, k7⟩ hb (by simp only [List.length_append]; omega) hS) rfl ?_
    rintro _ w ⟨H3, hb, hS⟩
    refine wl_nil ?_
    refine wretN (vs := []) .nil ?_
    first
    | (rw [if_pos (by omega)]; exact ⟨_, hb, hS.keep⟩)
    | (rw [if_neg (by omega), if_pos (by omega)]; exact ⟨_, hb, hS.keep⟩)
    | (rw [if_neg (by omega), if_neg (by omega), List.append_nil]; exact ⟨_, hb, hS.keep⟩)
  · try simp only [zq1, zq2, zq3, zq4, zq5, zq6, zq7] at hc14
    refine wc_region ?_
    refine wl (y_eql rfl rfl) rfl ?_
    refine wl (y_assign rfl) rfl ?_
    refine wl_nil ?_
    refine wc_case rfl (fun hc14 => ?_) (fun hc14 => ?_)
    · try simp only [zq1, zq2, zq3, zq4, zq5, zq6, zq7] at hc14
      refine wc_region ?_
      refine wl (y_move rfl) rfl ?_
      refine wl (y_fld fl_59_2 rfl) rfl ?_
      refine wl (y_load pl_2 rfl (hS.cell (v := .int .i64 u.n) rfl)) rfl ?_
      refine wl_call (.cons rfl (.cons rfl .nil)) (wsig_c hG u.n ⟨k6, k7⟩ hb (by simp only [List.length_append]; omega) hS) rfl ?_
      rintro _ w ⟨H3, hb, hS⟩
      refine wl_nil ?_
      refine wretN (vs := []) .nil ?_
      first
      | (rw [if_pos (by omega)]; exact ⟨_, hb, hS.keep⟩)
      | (rw [if_neg (by omega), if_pos (by omega)]; exact ⟨_, hb, hS.keep⟩)
      | (rw [if_neg (by omega), if_neg (by omega), List.append_nil]; exact ⟨_, hb, hS.keep⟩)
    · try simp only [zq1, zq2, zq3, zq4, zq5, zq6, zq7] at hc14
      refine wc_seq ?_
      refine wc_seq ?_
      refine wc_region ?_
      refine wl (y_eql rfl rfl) rfl ?_
      refine wl (y_assign rfl) rfl ?_
      refine wl_nil ?_
      refine wc_case rfl (fun hc21 => ?_) (fun hc21 => ?_)
      · try simp only [zq1, zq2, zq3, zq4, zq5, zq6, zq7] at hc21
        refine wc_skip ?_
        refine wc_ifT rfl rfl ?_
        refine wc_region ?_
        refine wl (y_move rfl) rfl ?_
        refine wl (y_fld fl_59_3 rfl) rfl ?_
        refine wl (y_load pl_9 rfl (hS.cell (v := .string u.s) rfl)) rfl ?_
        refine wl_call (.cons rfl (.cons rfl .nil)) (wtext_c hG u.s (by omega) hb (by simp only [List.length_append]; omega) hS) rfl ?_
        rintro _ w ⟨H3, hb, hS⟩
        refine wl_nil ?_
        refine wretN (vs := []) .nil ?_
        first
        | (rw [if_pos (by omega)]; exact ⟨_, hb, hS.keep⟩)
        | (rw [if_neg (by omega), if_pos (by omega)]; exact ⟨_, hb, hS.keep⟩)
        | (rw [if_neg (by omega), if_neg (by omega), List.append_nil]; exact ⟨_, hb, hS.keep⟩)
      · try simp only [zq1, zq2, zq3, zq4, zq5, zq6, zq7] at hc21
        refine wc_region ?_
        refine wl (y_eql rfl rfl) rfl ?_
        refine wl (y_assign rfl) rfl ?_
        refine wl_nil ?_
        refine wc_case rfl (fun hc21 => ?_) (fun hc21 => ?_)
        · try simp only [zq1, zq2, zq3, zq4, zq5, zq6, zq7] at hc21
          refine wc_region ?_
          refine wl (y_move rfl) rfl ?_
          refine wl (y_fld fl_59_3 rfl) rfl ?_
          refine wl (y_load pl_9 rfl (hS.cell (v := .string u.s) rfl)) rfl ?_
          refine wl_call (.cons rfl (.cons rfl .nil)) (wtext_c hG u.s (by omega) hb (by simp only [List.length_append]; omega) hS) rfl ?_
          rintro _ w ⟨H3, hb, hS⟩
          refine wl_nil ?_
          refine wretN (vs := []) .nil ?_
          first
          | (rw [if_pos (by omega)]; exact ⟨_, hb, hS.keep⟩)
          | (rw [if_neg (by omega), if_pos (by omega)]; exact ⟨_, hb, hS.keep⟩)
          | (rw [if_neg (by omega), if_neg (by omega), List.append_nil]; exact ⟨_, hb, hS.keep⟩)
        · try simp only [zq1, zq2, zq3, zq4, zq5, zq6, zq7] at hc21
          refine wc_skip ?_
          refine wretN (vs := []) .nil ?_
          first
          | (rw [if_pos (by omega)]; exact ⟨_, hb, hS.keep⟩)
          | (rw [if_neg (by omega), if_pos (by omega)]; exact ⟨_, hb, hS.keep⟩)
          | (rw [if_neg (by omega), if_neg (by omega), List.append_nil]; exact ⟨_, hb, hS.keep⟩)
theorem uread_c (hG : Bits M) {p : Nat} {r : Rdr} (h : r.ok) (hS : St M w ([(p, rdrO r)] :: Ls)) :
    CallsR Tryz.prog 142 [.pointer (some ⟨p, 0, none⟩)].toArray w fun v w' => v = uv (ruU r) ∧ St M w' ([(p, rdrO (ruR r))] :: Ls) := by
  have h1 := ru1_ok h
  have h3 := ru3_ok h
  unfold ruU ruR
  have e2 : rtext (ru1 r) 16 = ru2 r := by unfold ru2; rfl
  refine calls_of (c := _) (rs := _) (n := 39) Tryz.func142 rfl rfl rfl rfl rfl ?_
  refine wc_seq ?_
  refine wc_region ?_
  refine a_alloc z_59 hS rfl fun b2 w hS => ?_
  refine wl_nil ?_
  refine wc_seq ?_
  refine wc_region ?_
  refine wl (y_move rfl) rfl ?_
  refine wl_call (.cons rfl (.cons rfl .nil)) (rnum_c hG 5 (by decide) h (hS.pull [(p, rdrO r)])) rfl ?_
  rintro _ w ⟨rfl, hS⟩
  refine wl (y_build (is := [1]) (xs := [_]) (out := [_, _, _, _]) plc_59 z_59 (.cons rfl .nil) rfl) rfl ?_
  refine a_alloc z_59 hS rfl fun b3 w hS => ?_
  refine a_storeS (vs := [_, _, _, _]) sz_59 rfl rfl rfl rfl hS (Nat.le_of_ble_eq_true rfl) fun w hS => ?_
  refine wl_nil ?_
  simp only [List.setIfInBounds_toArray, List.set_cons_zero, List.set_cons_succ, Nat.zero_add, Nat.add_zero, cells_agg, setCells] at hS
  refine wc_seq ?_
  refine wc_seq ?_
  refine wc_region ?_
  refine wl (y_fld fl_59_1 rfl) rfl ?_
  refine wl (y_load pl_3 rfl (hS.cell rfl)) rfl ?_
  refine wl (y_eql rfl rfl) rfl ?_
  refine wl_nil ?_
  refine wc_if rfl (fun hc9 => ?_) (fun hc9 => ?_)
  · try simp only [zq1, zq2, zq3, zq4, zq5, zq6, zq7] at hc9
    have e1 : rfail (rnum r 5).2 5 = ru1 r := by unfold ru1; rw [if_pos (by omega)]
    refine wc_region ?_
    refine wl (y_move rfl) rfl ?_
    refine wl_call (.cons rfl (.cons rfl .nil)) (rfail_c 5 (hS.pull [(p, rdrO (rnum r 5).2)])) rfl ?_
    intro _ w hS
    rw [e1] at hS
    refine wl_nil ?_
    refine wc_seq ?_
    refine wc_seq ?_
    refine wc_region ?_
    refine wl (y_move rfl) rfl ?_
    refine wl_call (.cons rfl (.cons rfl .nil)) (rtext_c hG 16 (by decide) h1 (hS.pull [(p, rdrO (ru1 r))])) rfl ?_
    rintro _ w ⟨rfl, hS⟩
    rw [e2] at hS ⊢
    refine wl (y_fld fl_59_0 rfl) rfl ?_
    refine a_store sz_9 rfl rfl rfl hS (Nat.le_of_ble_eq_true rfl) fun w hS => ?_
    refine wl_nil ?_
    simp only [List.setIfInBounds_toArray, List.set_cons_zero, List.set_cons_succ, Nat.zero_add, Nat.add_zero, cells_agg, setCells] at hS
    refine wc_seq ?_
    refine wc_region ?_
    refine wl (y_fld fl_59_0 rfl) rfl ?_
    refine wl (y_load pl_9 rfl (hS.cell rfl)) rfl ?_
    refine wl (y_seql rfl rfl) rfl ?_
    refine wl_nil ?_
    refine wc_if rfl (fun hc17 => ?_) (fun hc17 => ?_)
    · try simp only [zq1, zq2, zq3, zq4, zq5, zq6, zq7] at hc17
      have e3 : rfail (ru2 r).2 1 = ru3 r := by unfold ru3; rw [if_pos hc17]
      refine wc_region ?_
      refine wl (y_move rfl) rfl ?_
      refine wl_call (.cons rfl (.cons rfl .nil)) (rfail_c 1 (hS.pull [(p, rdrO (ru2 r).2)])) rfl ?_
      intro _ w hS
      rw [e3] at hS
      refine wl_nil ?_
      refine wc_seq ?_
      refine wc_seq ?_
      refine wc_region ?_
      refine wl (y_fld fl_59_1 rfl) rfl ?_
      refine wl (y_load pl_3 rfl (hS.cell rfl)) rfl ?_
      refine wl_nil ?_
      refine wc_block ?_
      refine wc_seq ?_
      refine wc_seq ?_
      refine wc_region ?_
      refine wl (y_eql rfl rfl) rfl ?_
      refine wl (y_assign rfl) rfl ?_
      refine wl_nil ?_
      refine wc_case rfl (fun hc22 => ?_) (fun hc22 => ?_)
      · try simp only [zq1, zq2, zq3, zq4, zq5, zq6, zq7] at hc22
        refine wc_skip ?_
        refine wc_ifT rfl rfl ?_
        refine wc_region ?_
        refine wl (y_move rfl) rfl ?_
        refine wl_call (.cons rfl .nil) (rsig_c hG h3 (hS.pull [(p, rdrO (ru3 r))])) rfl ?_
        rintro _ w ⟨rfl, hS⟩
        refine wl (y_fld fl_59_2 rfl) rfl ?_
        refine a_store sz_2 rfl rfl rfl hS (Nat.le_of_ble_eq_true rfl) fun w hS => ?_
        refine wl_nil ?_
        simp only [List.setIfInBounds_toArray, List.set_cons_zero, List.set_cons_succ, Nat.zero_add, Nat.add_zero, cells_agg, setCells] at hS
        refine wc_seq ?_
        refine wc_seq ?_
        obtain ⟨q, hq⟩ : ∃ q, q = (ru4 r).2.2 := ⟨_, rfl⟩
        first
          | (have e4 : ru4 r = ((rsig (ru3 r)).1, ByteArray.empty, (rsig (ru3 r)).2) := by (unfold ru4; rw [if_pos (by omega)])
             have eq : (rsig (ru3 r)).2 = q := by rw [hq, e4]
             rw [e4]; simp only; rw [eq] at hS ⊢)
          | (have e4 : ru4 r = (0, (rtext (ru3 r) 32).1, (rtext (ru3 r) 32).2) := by (unfold ru4; rw [if_neg (by omega), if_pos (by omega)])
             have eq : (rtext (ru3 r) 32).2 = q := by rw [hq, e4]
             rw [e4]; simp only; rw [eq] at hS ⊢)
          | (have e4 : ru4 r = (0, ByteArray.empty, ru3 r) := by (unfold ru4; rw [if_neg (by omega), if_neg (by omega)])
             have eq : ru3 r = q := by rw [hq, e4]
             rw [e4]; simp only; rw [eq] at hS ⊢)
        clear hq
        refine wc_region ?_
        refine wl (y_move rfl) rfl ?_
        refine wl_call (.cons rfl .nil) (rerr_c (hS.pull [(p, rdrO q)])) rfl ?_
        rintro _ w ⟨rfl, hS⟩
        refine wl (y_neq rfl rfl) rfl ?_
        refine wl_nil ?_
        refine wc_if rfl (fun hc36 => ?_) (fun hc36 => ?_)
        · try simp only [zq1, zq2, zq3, zq4, zq5, zq6, zq7] at hc36
          rw [if_pos (by omega)]
          refine wc_seq ?_
          refine wc_region ?_
          refine wl (y_build (is := []) (xs := []) (out := [_, _, _, _]) plc_59 z_59 .nil rfl) rfl ?_
          refine a_storeS (vs := [_, _, _, _]) sz_59 rfl rfl rfl rfl hS (Nat.le_of_ble_eq_true rfl) fun w hS => ?_
          refine wl_nil ?_
          refine wc_ret ?_
          refine wret (vs := [_]) (.cell rfl (loadVar_struct st_59 sz_59 (vs := [_, _, _, _]) rfl (hS.cells rfl)) .nil) ?_
          exact ⟨rfl, hS.keep⟩
        · try simp only [zq1, zq2, zq3, zq4, zq5, zq6, zq7] at hc36
          rw [if_neg (by omega)]
          refine wc_skip ?_
          refine wc_seq ?_
          refine wc_region ?_
          refine wl (y_loadS st_59 sz_59 rfl (hS.cells (vs := [_, _, _, _]) rfl) rfl) rfl ?_
          refine a_storeS (vs := [_, _, _, _]) sz_59 rfl rfl rfl rfl hS (Nat.le_of_ble_eq_true rfl) fun w hS => ?_
          refine wl_nil ?_
          refine wc_ret ?_
          refine wret (vs := [_]) (.cell rfl (loadVar_struct st_59 sz_59 (vs := [_, _, _, _]) rfl (hS.cells rfl)) .nil) ?_
          exact ⟨rfl, hS.keep⟩
      · try simp only [zq1, zq2, zq3, zq4, zq5, zq6, zq7] at hc22
        refine wc_region ?_
        refine wl (y_eql rfl rfl) rfl ?_
        refine wl (y_assign rfl) rfl ?_
        refine wl_nil ?_
        refine wc_case rfl (fun hc22 => ?_) (fun hc22 => ?_)
        · try simp only [zq1, zq2, zq3, zq4, zq5, zq6, zq7] at hc22
          refine wc_region ?_
          refine wl (y_move rfl) rfl ?_
          refine wl_call (.cons rfl .nil) (rsig_c hG h3 (hS.pull [(p, rdrO (ru3 r))])) rfl ?_
          rintro _ w ⟨rfl, hS⟩
          refine wl (y_fld fl_59_2 rfl) rfl ?_
          refine a_store sz_2 rfl rfl rfl hS (Nat.le_of_ble_eq_true rfl) fun w hS => ?_
          refine wl_nil ?_
          simp only [List.setIfInBounds_toArray, List.set_cons_zero, List.set_cons_succ, Nat.zero_add, Nat.add_zero, cells_agg, setCells] at hS
          refine wc_seq ?_
          refine wc_seq ?_
          obtain ⟨q, hq⟩ : ∃ q, q = (ru4 r).2.2 := ⟨_, rfl⟩
          first
            | (have e4 : ru4 r = ((rsig (ru3 r)).1, ByteArray.empty, (rsig (ru3 r)).2) := by (unfold ru4; rw [if_pos (by omega)])
               have eq : (rsig (ru3 r)).2 = q := by rw [hq, e4]
               rw [e4]; simp only; rw [eq] at hS ⊢)
            | (have e4 : ru4 r = (0, (rtext (ru3 r) 32).1, (rtext (ru3 r) 32).2) := by (unfold ru4; rw [if_neg (by omega), if_pos (by omega)])
               have eq : (rtext (ru3 r) 32).2 = q := by rw [hq, e4]
               rw [e4]; simp only; rw [eq] at hS ⊢)
            | (have e4 : ru4 r = (0, ByteArray.empty, ru3 r) := by (unfold ru4; rw [if_neg (by omega), if_neg (by omega)])
               have eq : ru3 r = q := by rw [hq, e4]
               rw [e4]; simp only; rw [eq] at hS ⊢)
          clear hq
          refine wc_region ?_
          refine wl (y_move rfl) rfl ?_
          refine wl_call (.cons rfl .nil) (rerr_c (hS.pull [(p, rdrO q)])) rfl ?_
          rintro _ w ⟨rfl, hS⟩
          refine wl (y_neq rfl rfl) rfl ?_
          refine wl_nil ?_
          refine wc_if rfl (fun hc36 => ?_) (fun hc36 => ?_)
          · try simp only [zq1, zq2, zq3, zq4, zq5, zq6, zq7] at hc36
            rw [if_pos (by omega)]
            refine wc_seq ?_
            refine wc_region ?_
            refine wl (y_build (is := []) (xs := []) (out := [_, _, _, _]) plc_59 z_59 .nil rfl) rfl ?_
            refine a_storeS (vs := [_, _, _, _]) sz_59 rfl rfl rfl rfl hS (Nat.le_of_ble_eq_true rfl) fun w hS => ?_
            refine wl_nil ?_
            refine wc_ret ?_
            refine wret (vs := [_]) (.cell rfl (loadVar_struct st_59 sz_59 (vs := [_, _, _, _]) rfl (hS.cells rfl)) .nil) ?_
            exact ⟨rfl, hS.keep⟩
          · try simp only [zq1, zq2, zq3, zq4, zq5, zq6, zq7] at hc36
            rw [if_neg (by omega)]
            refine wc_skip ?_
            refine wc_seq ?_
            refine wc_region ?_
            refine wl (y_loadS st_59 sz_59 rfl (hS.cells (vs := [_, _, _, _]) rfl) rfl) rfl ?_
            refine a_storeS (vs := [_, _, _, _]) sz_59 rfl rfl rfl rfl hS (Nat.le_of_ble_eq_true rfl) fun w hS => ?_
            refine wl_nil ?_
            refine wc_ret ?_
            refine wret (vs := [_]) (.cell rfl (loadVar_struct st_59 sz_59 (vs := [_, _, _, _]) rfl (hS.cells rfl)) .nil) ?_
            exact ⟨rfl, hS.keep⟩
        · try simp only [zq1, zq2, zq3, zq4, zq5, zq6, zq7] at hc22
          refine wc_seq ?_
          refine wc_seq ?_
          refine wc_region ?_
          refine wl (y_eql rfl rfl) rfl ?_
          refine wl (y_assign rfl) rfl ?_
          refine wl_nil ?_
          refine wc_case rfl (fun hc28 => ?_) (fun hc28 => ?_)
          · try simp only [zq1, zq2, zq3, zq4, zq5, zq6, zq7] at hc28
            refine wc_skip ?_
            refine wc_ifT rfl rfl ?_
            refine wc_region ?_
            refine wl (y_move rfl) rfl ?_
            refine wl_call (.cons rfl (.cons rfl .nil)) (rtext_c hG 32 (by decide) h3 (hS.pull [(p, rdrO (ru3 r))])) rfl ?_
            rintro _ w ⟨rfl, hS⟩
            refine wl (y_fld fl_59_3 rfl) rfl ?_
            refine a_store sz_9 rfl rfl rfl hS (Nat.le_of_ble_eq_true rfl) fun w hS => ?_
            refine wl_nil ?_
            simp only [List.setIfInBounds_toArray, List.set_cons_zero, List.set_cons_succ, Nat.zero_add, Nat.add_zero, cells_agg, setCells] at hS
            refine wc_seq ?_
            refine wc_seq ?_
            obtain ⟨q, hq⟩ : ∃ q, q = (ru4 r).2.2 := ⟨_, rfl⟩
            first
              | (have e4 : ru4 r = ((rsig (ru3 r)).1, ByteArray.empty, (rsig (ru3 r)).2) := by (unfold ru4; rw [if_pos (by omega)])
                 have eq : (rsig (ru3 r)).2 = q := by rw [hq, e4]
                 rw [e4]; simp only; rw [eq] at hS ⊢)
              | (have e4 : ru4 r = (0, (rtext (ru3 r) 32).1, (rtext (ru3 r) 32).2) := by (unfold ru4; rw [if_neg (by omega), if_pos (by omega)])
                 have eq : (rtext (ru3 r) 32).2 = q := by rw [hq, e4]
                 rw [e4]; simp only; rw [eq] at hS ⊢)
              | (have e4 : ru4 r = (0, ByteArray.empty, ru3 r) := by (unfold ru4; rw [if_neg (by omega), if_neg (by omega)])
                 have eq : ru3 r = q := by rw [hq, e4]
                 rw [e4]; simp only; rw [eq] at hS ⊢)
            clear hq
            refine wc_region ?_
            refine wl (y_move rfl) rfl ?_
            refine wl_call (.cons rfl .nil) (rerr_c (hS.pull [(p, rdrO q)])) rfl ?_
            rintro _ w ⟨rfl, hS⟩
            refine wl (y_neq rfl rfl) rfl ?_
            refine wl_nil ?_
            refine wc_if rfl (fun hc36 => ?_) (fun hc36 => ?_)
            · try simp only [zq1, zq2, zq3, zq4, zq5, zq6, zq7] at hc36
              rw [if_pos (by omega)]
              refine wc_seq ?_
              refine wc_region ?_
              refine wl (y_build (is := []) (xs := []) (out := [_, _, _, _]) plc_59 z_59 .nil rfl) rfl ?_
              refine a_storeS (vs := [_, _, _, _]) sz_59 rfl rfl rfl rfl hS (Nat.le_of_ble_eq_true rfl) fun w hS => ?_
              refine wl_nil ?_
              refine wc_ret ?_
              refine wret (vs := [_]) (.cell rfl (loadVar_struct st_59 sz_59 (vs := [_, _, _, _]) rfl (hS.cells rfl)) .nil) ?_
              exact ⟨rfl, hS.keep⟩
            · try simp only [zq1, zq2, zq3, zq4, zq5, zq6, zq7] at hc36
              rw [if_neg (by omega)]
              refine wc_skip ?_
              refine wc_seq ?_
              refine wc_region ?_
              refine wl (y_loadS st_59 sz_59 rfl (hS.cells (vs := [_, _, _, _]) rfl) rfl) rfl ?_
              refine a_storeS (vs := [_, _, _, _]) sz_59 rfl rfl rfl rfl hS (Nat.le_of_ble_eq_true rfl) fun w hS => ?_
              refine wl_nil ?_
              refine wc_ret ?_
              refine wret (vs := [_]) (.cell rfl (loadVar_struct st_59 sz_59 (vs := [_, _, _, _]) rfl (hS.cells rfl)) .nil) ?_
              exact ⟨rfl, hS.keep⟩
          · try simp only [zq1, zq2, zq3, zq4, zq5, zq6, zq7] at hc28
            refine wc_region ?_
            refine wl (y_eql rfl rfl) rfl ?_
            refine wl (y_assign rfl) rfl ?_
            refine wl_nil ?_
            refine wc_case rfl (fun hc28 => ?_) (fun hc28 => ?_)
            · try simp only [zq1, zq2, zq3, zq4, zq5, zq6, zq7] at hc28
              refine wc_region ?_
              refine wl (y_move rfl) rfl ?_
              refine wl_call (.cons rfl (.cons rfl .nil)) (rtext_c hG 32 (by decide) h3 (hS.pull [(p, rdrO (ru3 r))])) rfl ?_
              rintro _ w ⟨rfl, hS⟩
              refine wl (y_fld fl_59_3 rfl) rfl ?_
              refine a_store sz_9 rfl rfl rfl hS (Nat.le_of_ble_eq_true rfl) fun w hS => ?_
              refine wl_nil ?_
              simp only [List.setIfInBounds_toArray, List.set_cons_zero, List.set_cons_succ, Nat.zero_add, Nat.add_zero, cells_agg, setCells] at hS
              refine wc_seq ?_
              refine wc_seq ?_
              obtain ⟨q, hq⟩ : ∃ q, q = (ru4 r).2.2 := ⟨_, rfl⟩
              first
                | (have e4 : ru4 r = ((rsig (ru3 r)).1, ByteArray.empty, (rsig (ru3 r)).2) := by (unfold ru4; rw [if_pos (by omega)])
                   have eq : (rsig (ru3 r)).2 = q := by rw [hq, e4]
                   rw [e4]; simp only; rw [eq] at hS ⊢)
                | (have e4 : ru4 r = (0, (rtext (ru3 r) 32).1, (rtext (ru3 r) 32).2) := by (unfold ru4; rw [if_neg (by omega), if_pos (by omega)])
                   have eq : (rtext (ru3 r) 32).2 = q := by rw [hq, e4]
                   rw [e4]; simp only; rw [eq] at hS ⊢)
                | (have e4 : ru4 r = (0, ByteArray.empty, ru3 r) := by (unfold ru4; rw [if_neg (by omega), if_neg (by omega)])
                   have eq : ru3 r = q := by rw [hq, e4]
                   rw [e4]; simp only; rw [eq] at hS ⊢)
              clear hq
              refine wc_region ?_
              refine wl (y_move rfl) rfl ?_
              refine wl_call (.cons rfl .nil) (rerr_c (hS.pull [(p, rdrO q)])) rfl ?_
              rintro _ w ⟨rfl, hS⟩
              refine wl (y_neq rfl rfl) rfl ?_
              refine wl_nil ?_
              refine wc_if rfl (fun hc36 => ?_) (fun hc36 => ?_)
              · try simp only [zq1, zq2, zq3, zq4, zq5, zq6, zq7] at hc36
                rw [if_pos (by omega)]
                refine wc_seq ?_
                refine wc_region ?_
                refine wl (y_build (is := []) (xs := []) (out := [_, _, _, _]) plc_59 z_59 .nil rfl) rfl ?_
                refine a_storeS (vs := [_, _, _, _]) sz_59 rfl rfl rfl rfl hS (Nat.le_of_ble_eq_true rfl) fun w hS => ?_
                refine wl_nil ?_
                refine wc_ret ?_
                refine wret (vs := [_]) (.cell rfl (loadVar_struct st_59 sz_59 (vs := [_, _, _, _]) rfl (hS.cells rfl)) .nil) ?_
                exact ⟨rfl, hS.keep⟩
              · try simp only [zq1, zq2, zq3, zq4, zq5, zq6, zq7] at hc36
                rw [if_neg (by omega)]
                refine wc_skip ?_
                refine wc_seq ?_
                refine wc_region ?_
                refine wl (y_loadS st_59 sz_59 rfl (hS.cells (vs := [_, _, _, _]) rfl) rfl) rfl ?_
                refine a_storeS (vs := [_, _, _, _]) sz_59 rfl rfl rfl rfl hS (Nat.le_of_ble_eq_true rfl) fun w hS => ?_
                refine wl_nil ?_
                refine wc_ret ?_
                refine wret (vs := [_]) (.cell rfl (loadVar_struct st_59 sz_59 (vs := [_, _, _, _]) rfl (hS.cells rfl)) .nil) ?_
                exact ⟨rfl, hS.keep⟩
            · try simp only [zq1, zq2, zq3, zq4, zq5, zq6, zq7] at hc28
              refine wc_skip ?_
              refine wc_seq ?_
              refine wc_seq ?_
              obtain ⟨q, hq⟩ : ∃ q, q = (ru4 r).2.2 := ⟨_, rfl⟩
              first
                | (have e4 : ru4 r = ((rsig (ru3 r)).1, ByteArray.empty, (rsig (ru3 r)).2) := by (unfold ru4; rw [if_pos (by omega)])
                   have eq : (rsig (ru3 r)).2 = q := by rw [hq, e4]
                   rw [e4]; simp only; rw [eq] at hS ⊢)
                | (have e4 : ru4 r = (0, (rtext (ru3 r) 32).1, (rtext (ru3 r) 32).2) := by (unfold ru4; rw [if_neg (by omega), if_pos (by omega)])
                   have eq : (rtext (ru3 r) 32).2 = q := by rw [hq, e4]
                   rw [e4]; simp only; rw [eq] at hS ⊢)
                | (have e4 : ru4 r = (0, ByteArray.empty, ru3 r) := by (unfold ru4; rw [if_neg (by omega), if_neg (by omega)])
                   have eq : ru3 r = q := by rw [hq, e4]
                   rw [e4]; simp only; rw [eq] at hS ⊢)
              clear hq
              refine wc_region ?_
              refine wl (y_move rfl) rfl ?_
              refine wl_call (.cons rfl .nil) (rerr_c (hS.pull [(p, rdrO q)])) rfl ?_
              rintro _ w ⟨rfl, hS⟩
              refine wl (y_neq rfl rfl) rfl ?_
              refine wl_nil ?_
              refine wc_if rfl (fun hc36 => ?_) (fun hc36 => ?_)
              · try simp only [zq1, zq2, zq3, zq4, zq5, zq6, zq7] at hc36
                rw [if_pos (by omega)]
                refine wc_seq ?_
                refine wc_region ?_
                refine wl (y_build (is := []) (xs := []) (out := [_, _, _, _]) plc_59 z_59 .nil rfl) rfl ?_
                refine a_storeS (vs := [_, _, _, _]) sz_59 rfl rfl rfl rfl hS (Nat.le_of_ble_eq_true rfl) fun w hS => ?_
                refine wl_nil ?_
                refine wc_ret ?_
                refine wret (vs := [_]) (.cell rfl (loadVar_struct st_59 sz_59 (vs := [_, _, _, _]) rfl (hS.cells rfl)) .nil) ?_
                exact ⟨rfl, hS.keep⟩
              · try simp only [zq1, zq2, zq3, zq4, zq5, zq6, zq7] at hc36
                rw [if_neg (by omega)]
                refine wc_skip ?_
                refine wc_seq ?_
                refine wc_region ?_
                refine wl (y_loadS st_59 sz_59 rfl (hS.cells (vs := [_, _, _, _]) rfl) rfl) rfl ?_
                refine a_storeS (vs := [_, _, _, _]) sz_59 rfl rfl rfl rfl hS (Nat.le_of_ble_eq_true rfl) fun w hS => ?_
                refine wl_nil ?_
                refine wc_ret ?_
                refine wret (vs := [_]) (.cell rfl (loadVar_struct st_59 sz_59 (vs := [_, _, _, _]) rfl (hS.cells rfl)) .nil) ?_
                exact ⟨rfl, hS.keep⟩
    · try simp only [zq1, zq2, zq3, zq4, zq5, zq6, zq7] at hc17
      have e3 : (ru2 r).2 = ru3 r := by unfold ru3; rw [if_neg hc17]
      rw [e3] at hS
      refine wc_skip ?_
      refine wc_seq ?_
      refine wc_seq ?_
      refine wc_region ?_
      refine wl (y_fld fl_59_1 rfl) rfl ?_
      refine wl (y_load pl_3 rfl (hS.cell rfl)) rfl ?_
      refine wl_nil ?_
      refine wc_block ?_
      refine wc_seq ?_
      refine wc_seq ?_
      refine wc_region ?_
      refine wl (y_eql rfl rfl) rfl ?_
      refine wl (y_assign rfl) rfl ?_
      refine wl_nil ?_
      refine wc_case rfl (fun hc22 => ?_) (fun hc22 => ?_)
      · try simp only [zq1, zq2, zq3, zq4, zq5, zq6, zq7] at hc22
        refine wc_skip ?_
        refine wc_ifT rfl rfl ?_
        refine wc_region ?_
        refine wl (y_move rfl) rfl ?_
        refine wl_call (.cons rfl .nil) (rsig_c hG h3 (hS.pull [(p, rdrO (ru3 r))])) rfl ?_
        rintro _ w ⟨rfl, hS⟩
        refine wl (y_fld fl_59_2 rfl) rfl ?_
        refine a_store sz_2 rfl rfl rfl hS (Nat.le_of_ble_eq_true rfl) fun w hS => ?_
        refine wl_nil ?_
        simp only [List.setIfInBounds_toArray, List.set_cons_zero, List.set_cons_succ, Nat.zero_add, Nat.add_zero, cells_agg, setCells] at hS
        refine wc_seq ?_
        refine wc_seq ?_
        obtain ⟨q, hq⟩ : ∃ q, q = (ru4 r).2.2 := ⟨_, rfl⟩
        first
          | (have e4 : ru4 r = ((rsig (ru3 r)).1, ByteArray.empty, (rsig (ru3 r)).2) := by (unfold ru4; rw [if_pos (by omega)])
             have eq : (rsig (ru3 r)).2 = q := by rw [hq, e4]
             rw [e4]; simp only; rw [eq] at hS ⊢)
          | (have e4 : ru4 r = (0, (rtext (ru3 r) 32).1, (rtext (ru3 r) 32).2) := by (unfold ru4; rw [if_neg (by omega), if_pos (by omega)])
             have eq : (rtext (ru3 r) 32).2 = q := by rw [hq, e4]
             rw [e4]; simp only; rw [eq] at hS ⊢)
          | (have e4 : ru4 r = (0, ByteArray.empty, ru3 r) := by (unfold ru4; rw [if_neg (by omega), if_neg (by omega)])
             have eq : ru3 r = q := by rw [hq, e4]
             rw [e4]; simp only; rw [eq] at hS ⊢)
        clear hq
        refine wc_region ?_
        refine wl (y_move rfl) rfl ?_
        refine wl_call (.cons rfl .nil) (rerr_c (hS.pull [(p, rdrO q)])) rfl ?_
        rintro _ w ⟨rfl, hS⟩
        refine wl (y_neq rfl rfl) rfl ?_
        refine wl_nil ?_
        refine wc_if rfl (fun hc36 => ?_) (fun hc36 => ?_)
        · try simp only [zq1, zq2, zq3, zq4, zq5, zq6, zq7] at hc36
          rw [if_pos (by omega)]
          refine wc_seq ?_
          refine wc_region ?_
          refine wl (y_build (is := []) (xs := []) (out := [_, _, _, _]) plc_59 z_59 .nil rfl) rfl ?_
          refine a_storeS (vs := [_, _, _, _]) sz_59 rfl rfl rfl rfl hS (Nat.le_of_ble_eq_true rfl) fun w hS => ?_
          refine wl_nil ?_
          refine wc_ret ?_
          refine wret (vs := [_]) (.cell rfl (loadVar_struct st_59 sz_59 (vs := [_, _, _, _]) rfl (hS.cells rfl)) .nil) ?_
          exact ⟨rfl, hS.keep⟩
        · try simp only [zq1, zq2, zq3, zq4, zq5, zq6, zq7] at hc36
          rw [if_neg (by omega)]
          refine wc_skip ?_
          refine wc_seq ?_
          refine wc_region ?_
          refine wl (y_loadS st_59 sz_59 rfl (hS.cells (vs := [_, _, _, _]) rfl) rfl) rfl ?_
          refine a_storeS (vs := [_, _, _, _]) sz_59 rfl rfl rfl rfl hS (Nat.le_of_ble_eq_true rfl) fun w hS => ?_
          refine wl_nil ?_
          refine wc_ret ?_
          refine wret (vs := [_]) (.cell rfl (loadVar_struct st_59 sz_59 (vs := [_, _, _, _]) rfl (hS.cells rfl)) .nil) ?_
          exact ⟨rfl, hS.keep⟩
      · try simp only [zq1, zq2, zq3, zq4, zq5, zq6, zq7] at hc22
        refine wc_region ?_
        refine wl (y_eql rfl rfl) rfl ?_
        refine wl (y_assign rfl) rfl ?_
        refine wl_nil ?_
        refine wc_case rfl (fun hc22 => ?_) (fun hc22 => ?_)
        · try simp only [zq1, zq2, zq3, zq4, zq5, zq6, zq7] at hc22
          refine wc_region ?_
          refine wl (y_move rfl) rfl ?_
          refine wl_call (.cons rfl .nil) (rsig_c hG h3 (hS.pull [(p, rdrO (ru3 r))])) rfl ?_
          rintro _ w ⟨rfl, hS⟩
          refine wl (y_fld fl_59_2 rfl) rfl ?_
          refine a_store sz_2 rfl rfl rfl hS (Nat.le_of_ble_eq_true rfl) fun w hS => ?_
          refine wl_nil ?_
          simp only [List.setIfInBounds_toArray, List.set_cons_zero, List.set_cons_succ, Nat.zero_add, Nat.add_zero, cells_agg, setCells] at hS
          refine wc_seq ?_
          refine wc_seq ?_
          obtain ⟨q, hq⟩ : ∃ q, q = (ru4 r).2.2 := ⟨_, rfl⟩
          first
            | (have e4 : ru4 r = ((rsig (ru3 r)).1, ByteArray.empty, (rsig (ru3 r)).2) := by (unfold ru4; rw [if_pos (by omega)])
               have eq : (rsig (ru3 r)).2 = q := by rw [hq, e4]
               rw [e4]; simp only; rw [eq] at hS ⊢)
            | (have e4 : ru4 r = (0, (rtext (ru3 r) 32).1, (rtext (ru3 r) 32).2) := by (unfold ru4; rw [if_neg (by omega), if_pos (by omega)])
               have eq : (rtext (ru3 r) 32).2 = q := by rw [hq, e4]
               rw [e4]; simp only; rw [eq] at hS ⊢)
            | (have e4 : ru4 r = (0, ByteArray.empty, ru3 r) := by (unfold ru4; rw [if_neg (by omega), if_neg (by omega)])
               have eq : ru3 r = q := by rw [hq, e4]
               rw [e4]; simp only; rw [eq] at hS ⊢)
          clear hq
          refine wc_region ?_
          refine wl (y_move rfl) rfl ?_
          refine wl_call (.cons rfl .nil) (rerr_c (hS.pull [(p, rdrO q)])) rfl ?_
          rintro _ w ⟨rfl, hS⟩
          refine wl (y_neq rfl rfl) rfl ?_
          refine wl_nil ?_
          refine wc_if rfl (fun hc36 => ?_) (fun hc36 => ?_)
          · try simp only [zq1, zq2, zq3, zq4, zq5, zq6, zq7] at hc36
            rw [if_pos (by omega)]
            refine wc_seq ?_
            refine wc_region ?_
            refine wl (y_build (is := []) (xs := []) (out := [_, _, _, _]) plc_59 z_59 .nil rfl) rfl ?_
            refine a_storeS (vs := [_, _, _, _]) sz_59 rfl rfl rfl rfl hS (Nat.le_of_ble_eq_true rfl) fun w hS => ?_
            refine wl_nil ?_
            refine wc_ret ?_
            refine wret (vs := [_]) (.cell rfl (loadVar_struct st_59 sz_59 (vs := [_, _, _, _]) rfl (hS.cells rfl)) .nil) ?_
            exact ⟨rfl, hS.keep⟩
          · try simp only [zq1, zq2, zq3, zq4, zq5, zq6, zq7] at hc36
            rw [if_neg (by omega)]
            refine wc_skip ?_
            refine wc_seq ?_
            refine wc_region ?_
            refine wl (y_loadS st_59 sz_59 rfl (hS.cells (vs := [_, _, _, _]) rfl) rfl) rfl ?_
            refine a_storeS (vs := [_, _, _, _]) sz_59 rfl rfl rfl rfl hS (Nat.le_of_ble_eq_true rfl) fun w hS => ?_
            refine wl_nil ?_
            refine wc_ret ?_
            refine wret (vs := [_]) (.cell rfl (loadVar_struct st_59 sz_59 (vs := [_, _, _, _]) rfl (hS.cells rfl)) .nil) ?_
            exact ⟨rfl, hS.keep⟩
        · try simp only [zq1, zq2, zq3, zq4, zq5, zq6, zq7] at hc22
          refine wc_seq ?_
          refine wc_seq ?_
          refine wc_region ?_
          refine wl (y_eql rfl rfl) rfl ?_
          refine wl (y_assign rfl) rfl ?_
          refine wl_nil ?_
          refine wc_case rfl (fun hc28 => ?_) (fun hc28 => ?_)
          · try simp only [zq1, zq2, zq3, zq4, zq5, zq6, zq7] at hc28
            refine wc_skip ?_
            refine wc_ifT rfl rfl ?_
            refine wc_region ?_
            refine wl (y_move rfl) rfl ?_
            refine wl_call (.cons rfl (.cons rfl .nil)) (rtext_c hG 32 (by decide) h3 (hS.pull [(p, rdrO (ru3 r))])) rfl ?_
            rintro _ w ⟨rfl, hS⟩
            refine wl (y_fld fl_59_3 rfl) rfl ?_
            refine a_store sz_9 rfl rfl rfl hS (Nat.le_of_ble_eq_true rfl) fun w hS => ?_
            refine wl_nil ?_
            simp only [List.setIfInBounds_toArray, List.set_cons_zero, List.set_cons_succ, Nat.zero_add, Nat.add_zero, cells_agg, setCells] at hS
            refine wc_seq ?_
            refine wc_seq ?_
            obtain ⟨q, hq⟩ : ∃ q, q = (ru4 r).2.2 := ⟨_, rfl⟩
            first
              | (have e4 : ru4 r = ((rsig (ru3 r)).1, ByteArray.empty, (rsig (ru3 r)).2) := by (unfold ru4; rw [if_pos (by omega)])
                 have eq : (rsig (ru3 r)).2 = q := by rw [hq, e4]
                 rw [e4]; simp only; rw [eq] at hS ⊢)
              | (have e4 : ru4 r = (0, (rtext (ru3 r) 32).1, (rtext (ru3 r) 32).2) := by (unfold ru4; rw [if_neg (by omega), if_pos (by omega)])
                 have eq : (rtext (ru3 r) 32).2 = q := by rw [hq, e4]
                 rw [e4]; simp only; rw [eq] at hS ⊢)
              | (have e4 : ru4 r = (0, ByteArray.empty, ru3 r) := by (unfold ru4; rw [if_neg (by omega), if_neg (by omega)])
                 have eq : ru3 r = q := by rw [hq, e4]
                 rw [e4]; simp only; rw [eq] at hS ⊢)
            clear hq
            refine wc_region ?_
            refine wl (y_move rfl) rfl ?_
            refine wl_call (.cons rfl .nil) (rerr_c (hS.pull [(p, rdrO q)])) rfl ?_
            rintro _ w ⟨rfl, hS⟩
            refine wl (y_neq rfl rfl) rfl ?_
            refine wl_nil ?_
            refine wc_if rfl (fun hc36 => ?_) (fun hc36 => ?_)
            · try simp only [zq1, zq2, zq3, zq4, zq5, zq6, zq7] at hc36
              rw [if_pos (by omega)]
              refine wc_seq ?_
              refine wc_region ?_
              refine wl (y_build (is := []) (xs := []) (out := [_, _, _, _]) plc_59 z_59 .nil rfl) rfl ?_
              refine a_storeS (vs := [_, _, _, _]) sz_59 rfl rfl rfl rfl hS (Nat.le_of_ble_eq_true rfl) fun w hS => ?_
              refine wl_nil ?_
              refine wc_ret ?_
              refine wret (vs := [_]) (.cell rfl (loadVar_struct st_59 sz_59 (vs := [_, _, _, _]) rfl (hS.cells rfl)) .nil) ?_
              exact ⟨rfl, hS.keep⟩
            · try simp only [zq1, zq2, zq3, zq4, zq5, zq6, zq7] at hc36
              rw [if_neg (by omega)]
              refine wc_skip ?_
              refine wc_seq ?_
              refine wc_region ?_
              refine wl (y_loadS st_59 sz_59 rfl (hS.cells (vs := [_, _, _, _]) rfl) rfl) rfl ?_
              refine a_storeS (vs := [_, _, _, _]) sz_59 rfl rfl rfl rfl hS (Nat.le_of_ble_eq_true rfl) fun w hS => ?_
              refine wl_nil ?_
              refine wc_ret ?_
              refine wret (vs := [_]) (.cell rfl (loadVar_struct st_59 sz_59 (vs := [_, _, _, _]) rfl (hS.cells rfl)) .nil) ?_
              exact ⟨rfl, hS.keep⟩
          · try simp only [zq1, zq2, zq3, zq4, zq5, zq6, zq7] at hc28
            refine wc_region ?_
            refine wl (y_eql rfl rfl) rfl ?_
            refine wl (y_assign rfl) rfl ?_
            refine wl_nil ?_
            refine wc_case rfl (fun hc28 => ?_) (fun hc28 => ?_)
            · try simp only [zq1, zq2, zq3, zq4, zq5, zq6, zq7] at hc28
              refine wc_region ?_
              refine wl (y_move rfl) rfl ?_
              refine wl_call (.cons rfl (.cons rfl .nil)) (rtext_c hG 32 (by decide) h3 (hS.pull [(p, rdrO (ru3 r))])) rfl ?_
              rintro _ w ⟨rfl, hS⟩
              refine wl (y_fld fl_59_3 rfl) rfl ?_
              refine a_store sz_9 rfl rfl rfl hS (Nat.le_of_ble_eq_true rfl) fun w hS => ?_
              refine wl_nil ?_
              simp only [List.setIfInBounds_toArray, List.set_cons_zero, List.set_cons_succ, Nat.zero_add, Nat.add_zero, cells_agg, setCells] at hS
              refine wc_seq ?_
              refine wc_seq ?_
              obtain ⟨q, hq⟩ : ∃ q, q = (ru4 r).2.2 := ⟨_, rfl⟩
              first
                | (have e4 : ru4 r = ((rsig (ru3 r)).1, ByteArray.empty, (rsig (ru3 r)).2) := by (unfold ru4; rw [if_pos (by omega)])
                   have eq : (rsig (ru3 r)).2 = q := by rw [hq, e4]
                   rw [e4]; simp only; rw [eq] at hS ⊢)
                | (have e4 : ru4 r = (0, (rtext (ru3 r) 32).1, (rtext (ru3 r) 32).2) := by (unfold ru4; rw [if_neg (by omega), if_pos (by omega)])
                   have eq : (rtext (ru3 r) 32).2 = q := by rw [hq, e4]
                   rw [e4]; simp only; rw [eq] at hS ⊢)
                | (have e4 : ru4 r = (0, ByteArray.empty, ru3 r) := by (unfold ru4; rw [if_neg (by omega), if_neg (by omega)])
                   have eq : ru3 r = q := by rw [hq, e4]
                   rw [e4]; simp only; rw [eq] at hS ⊢)
              clear hq
              refine wc_region ?_
              refine wl (y_move rfl) rfl ?_
              refine wl_call (.cons rfl .nil) (rerr_c (hS.pull [(p, rdrO q)])) rfl ?_
              rintro _ w ⟨rfl, hS⟩
              refine wl (y_neq rfl rfl) rfl ?_
              refine wl_nil ?_
              refine wc_if rfl (fun hc36 => ?_) (fun hc36 => ?_)
              · try simp only [zq1, zq2, zq3, zq4, zq5, zq6, zq7] at hc36
                rw [if_pos (by omega)]
                refine wc_seq ?_
                refine wc_region ?_
                refine wl (y_build (is := []) (xs := []) (out := [_, _, _, _]) plc_59 z_59 .nil rfl) rfl ?_
                refine a_storeS (vs := [_, _, _, _]) sz_59 rfl rfl rfl rfl hS (Nat.le_of_ble_eq_true rfl) fun w hS => ?_
                refine wl_nil ?_
                refine wc_ret ?_
                refine wret (vs := [_]) (.cell rfl (loadVar_struct st_59 sz_59 (vs := [_, _, _, _]) rfl (hS.cells rfl)) .nil) ?_
                exact ⟨rfl, hS.keep⟩
              · try simp only [zq1, zq2, zq3, zq4, zq5, zq6, zq7] at hc36
                rw [if_neg (by omega)]
                refine wc_skip ?_
                refine wc_seq ?_
                refine wc_region ?_
                refine wl (y_loadS st_59 sz_59 rfl (hS.cells (vs := [_, _, _, _]) rfl) rfl) rfl ?_
                refine a_storeS (vs := [_, _, _, _]) sz_59 rfl rfl rfl rfl hS (Nat.le_of_ble_eq_true rfl) fun w hS => ?_
                refine wl_nil ?_
                refine wc_ret ?_
                refine wret (vs := [_]) (.cell rfl (loadVar_struct st_59 sz_59 (vs := [_, _, _, _]) rfl (hS.cells rfl)) .nil) ?_
                exact ⟨rfl, hS.keep⟩
            · try simp only [zq1, zq2, zq3, zq4, zq5, zq6, zq7] at hc28
              refine wc_skip ?_
              refine wc_seq ?_
              refine wc_seq ?_
              obtain ⟨q, hq⟩ : ∃ q, q = (ru4 r).2.2 := ⟨_, rfl⟩
              first
                | (have e4 : ru4 r = ((rsig (ru3 r)).1, ByteArray.empty, (rsig (ru3 r)).2) := by (unfold ru4; rw [if_pos (by omega)])
                   have eq : (rsig (ru3 r)).2 = q := by rw [hq, e4]
                   rw [e4]; simp only; rw [eq] at hS ⊢)
                | (have e4 : ru4 r = (0, (rtext (ru3 r) 32).1, (rtext (ru3 r) 32).2) := by (unfold ru4; rw [if_neg (by omega), if_pos (by omega)])
                   have eq : (rtext (ru3 r) 32).2 = q := by rw [hq, e4]
                   rw [e4]; simp only; rw [eq] at hS ⊢)
                | (have e4 : ru4 r = (0, ByteArray.empty, ru3 r) := by (unfold ru4; rw [if_neg (by omega), if_neg (by omega)])
                   have eq : ru3 r = q := by rw [hq, e4]
                   rw [e4]; simp only; rw [eq] at hS ⊢)
              clear hq
              refine wc_region ?_
              refine wl (y_move rfl) rfl ?_
              refine wl_call (.cons rfl .nil) (rerr_c (hS.pull [(p, rdrO q)])) rfl ?_
              rintro _ w ⟨rfl, hS⟩
              refine wl (y_neq rfl rfl) rfl ?_
              refine wl_nil ?_
              refine wc_if rfl (fun hc36 => ?_) (fun hc36 => ?_)
              · try simp only [zq1, zq2, zq3, zq4, zq5, zq6, zq7] at hc36
                rw [if_pos (by omega)]
                refine wc_seq ?_
                refine wc_region ?_
                refine wl (y_build (is := []) (xs := []) (out := [_, _, _, _]) plc_59 z_59 .nil rfl) rfl ?_
                refine a_storeS (vs := [_, _, _, _]) sz_59 rfl rfl rfl rfl hS (Nat.le_of_ble_eq_true rfl) fun w hS => ?_
                refine wl_nil ?_
                refine wc_ret ?_
                refine wret (vs := [_]) (.cell rfl (loadVar_struct st_59 sz_59 (vs := [_, _, _, _]) rfl (hS.cells rfl)) .nil) ?_
                exact ⟨rfl, hS.keep⟩
              · try simp only [zq1, zq2, zq3, zq4, zq5, zq6, zq7] at hc36
                rw [if_neg (by omega)]
                refine wc_skip ?_
                refine wc_seq ?_
                refine wc_region ?_
                refine wl (y_loadS st_59 sz_59 rfl (hS.cells (vs := [_, _, _, _]) rfl) rfl) rfl ?_
                refine a_storeS (vs := [_, _, _, _]) sz_59 rfl rfl rfl rfl hS (Nat.le_of_ble_eq_true rfl) fun w hS => ?_
                refine wl_nil ?_
                refine wc_ret ?_
                refine wret (vs := [_]) (.cell rfl (loadVar_struct st_59 sz_59 (vs := [_, _, _, _]) rfl (hS.cells rfl)) .nil) ?_
                exact ⟨rfl, hS.keep⟩
  · try simp only [zq1, zq2, zq3, zq4, zq5, zq6, zq7] at hc9
    have e1 : (rnum r 5).2 = ru1 r := by unfold ru1; rw [if_neg (by omega)]
    rw [e1] at hS
    refine wc_skip ?_
    refine wc_seq ?_
    refine wc_seq ?_
    refine wc_region ?_
    refine wl (y_move rfl) rfl ?_
    refine wl_call (.cons rfl (.cons rfl .nil)) (rtext_c hG 16 (by decide) h1 (hS.pull [(p, rdrO (ru1 r))])) rfl ?_
    rintro _ w ⟨rfl, hS⟩
    rw [e2] at hS ⊢
    refine wl (y_fld fl_59_0 rfl) rfl ?_
    refine a_store sz_9 rfl rfl rfl hS (Nat.le_of_ble_eq_true rfl) fun w hS => ?_
    refine wl_nil ?_
    simp only [List.setIfInBounds_toArray, List.set_cons_zero, List.set_cons_succ, Nat.zero_add, Nat.add_zero, cells_agg, setCells] at hS
    refine wc_seq ?_
    refine wc_region ?_
    refine wl (y_fld fl_59_0 rfl) rfl ?_
    refine wl (y_load pl_9 rfl (hS.cell rfl)) rfl ?_
    refine wl (y_seql rfl rfl) rfl ?_
    refine wl_nil ?_
    refine wc_if rfl (fun hc17 => ?_) (fun hc17 => ?_)
    · try simp only [zq1, zq2, zq3, zq4, zq5, zq6, zq7] at hc17
      have e3 : rfail (ru2 r).2 1 = ru3 r := by unfold ru3; rw [if_pos hc17]
      refine wc_region ?_
      refine wl (y_move rfl) rfl ?_
      refine wl_call (.cons rfl (.cons rfl .nil)) (rfail_c 1 (hS.pull [(p, rdrO (ru2 r).2)])) rfl ?_
      intro _ w hS
      rw [e3] at hS
      refine wl_nil ?_
      refine wc_seq ?_
      refine wc_seq ?_
      refine wc_region ?_
      refine wl (y_fld fl_59_1 rfl) rfl ?_
      refine wl (y_load pl_3 rfl (hS.cell rfl)) rfl ?_
      refine wl_nil ?_
      refine wc_block ?_
      refine wc_seq ?_
      refine wc_seq ?_
      refine wc_region ?_
      refine wl (y_eql rfl rfl) rfl ?_
      refine wl (y_assign rfl) rfl ?_
      refine wl_nil ?_
      refine wc_case rfl (fun hc22 => ?_) (fun hc22 => ?_)
      · try simp only [zq1, zq2, zq3, zq4, zq5, zq6, zq7] at hc22
        refine wc_skip ?_
        refine wc_ifT rfl rfl ?_
        refine wc_region ?_
        refine wl (y_move rfl) rfl ?_
        refine wl_call (.cons rfl .nil) (rsig_c hG h3 (hS.pull [(p, rdrO (ru3 r))])) rfl ?_
        rintro _ w ⟨rfl, hS⟩
        refine wl (y_fld fl_59_2 rfl) rfl ?_
        refine a_store sz_2 rfl rfl rfl hS (Nat.le_of_ble_eq_true rfl) fun w hS => ?_
        refine wl_nil ?_
        simp only [List.setIfInBounds_toArray, List.set_cons_zero, List.set_cons_succ, Nat.zero_add, Nat.add_zero, cells_agg, setCells] at hS
        refine wc_seq ?_
        refine wc_seq ?_
        obtain ⟨q, hq⟩ : ∃ q, q = (ru4 r).2.2 := ⟨_, rfl⟩
        first
          | (have e4 : ru4 r = ((rsig (ru3 r)).1, ByteArray.empty, (rsig (ru3 r)).2) := by (unfold ru4; rw [if_pos (by omega)])
             have eq : (rsig (ru3 r)).2 = q := by rw [hq, e4]
             rw [e4]; simp only; rw [eq] at hS ⊢)
          | (have e4 : ru4 r = (0, (rtext (ru3 r) 32).1, (rtext (ru3 r) 32).2) := by (unfold ru4; rw [if_neg (by omega), if_pos (by omega)])
             have eq : (rtext (ru3 r) 32).2 = q := by rw [hq, e4]
             rw [e4]; simp only; rw [eq] at hS ⊢)
          | (have e4 : ru4 r = (0, ByteArray.empty, ru3 r) := by (unfold ru4; rw [if_neg (by omega), if_neg (by omega)])
             have eq : ru3 r = q := by rw [hq, e4]
             rw [e4]; simp only; rw [eq] at hS ⊢)
        clear hq
        refine wc_region ?_
        refine wl (y_move rfl) rfl ?_
        refine wl_call (.cons rfl .nil) (rerr_c (hS.pull [(p, rdrO q)])) rfl ?_
        rintro _ w ⟨rfl, hS⟩
        refine wl (y_neq rfl rfl) rfl ?_
        refine wl_nil ?_
        refine wc_if rfl (fun hc36 => ?_) (fun hc36 => ?_)
        · try simp only [zq1, zq2, zq3, zq4, zq5, zq6, zq7] at hc36
          rw [if_pos (by omega)]
          refine wc_seq ?_
          refine wc_region ?_
          refine wl (y_build (is := []) (xs := []) (out := [_, _, _, _]) plc_59 z_59 .nil rfl) rfl ?_
          refine a_storeS (vs := [_, _, _, _]) sz_59 rfl rfl rfl rfl hS (Nat.le_of_ble_eq_true rfl) fun w hS => ?_
          refine wl_nil ?_
          refine wc_ret ?_
          refine wret (vs := [_]) (.cell rfl (loadVar_struct st_59 sz_59 (vs := [_, _, _, _]) rfl (hS.cells rfl)) .nil) ?_
          exact ⟨rfl, hS.keep⟩
        · try simp only [zq1, zq2, zq3, zq4, zq5, zq6, zq7] at hc36
          rw [if_neg (by omega)]
          refine wc_skip ?_
          refine wc_seq ?_
          refine wc_region ?_
          refine wl (y_loadS st_59 sz_59 rfl (hS.cells (vs := [_, _, _, _]) rfl) rfl) rfl ?_
          refine a_storeS (vs := [_, _, _, _]) sz_59 rfl rfl rfl rfl hS (Nat.le_of_ble_eq_true rfl) fun w hS => ?_
          refine wl_nil ?_
          refine wc_ret ?_
          refine wret (vs := [_]) (.cell rfl (loadVar_struct st_59 sz_59 (vs := [_, _, _, _]) rfl (hS.cells rfl)) .nil) ?_
          exact ⟨rfl, hS.keep⟩
      · try simp only [zq1, zq2, zq3, zq4, zq5, zq6, zq7] at hc22
        refine wc_region ?_
        refine wl (y_eql rfl rfl) rfl ?_
        refine wl (y_assign rfl) rfl ?_
        refine wl_nil ?_
        refine wc_case rfl (fun hc22 => ?_) (fun hc22 => ?_)
        · try simp only [zq1, zq2, zq3, zq4, zq5, zq6, zq7] at hc22
          refine wc_region ?_
          refine wl (y_move rfl) rfl ?_
          refine wl_call (.cons rfl .nil) (rsig_c hG h3 (hS.pull [(p, rdrO (ru3 r))])) rfl ?_
          rintro _ w ⟨rfl, hS⟩
          refine wl (y_fld fl_59_2 rfl) rfl ?_
          refine a_store sz_2 rfl rfl rfl hS (Nat.le_of_ble_eq_true rfl) fun w hS => ?_
          refine wl_nil ?_
          simp only [List.setIfInBounds_toArray, List.set_cons_zero, List.set_cons_succ, Nat.zero_add, Nat.add_zero, cells_agg, setCells] at hS
          refine wc_seq ?_
          refine wc_seq ?_
          obtain ⟨q, hq⟩ : ∃ q, q = (ru4 r).2.2 := ⟨_, rfl⟩
          first
            | (have e4 : ru4 r = ((rsig (ru3 r)).1, ByteArray.empty, (rsig (ru3 r)).2) := by (unfold ru4; rw [if_pos (by omega)])
               have eq : (rsig (ru3 r)).2 = q := by rw [hq, e4]
               rw [e4]; simp only; rw [eq] at hS ⊢)
            | (have e4 : ru4 r = (0, (rtext (ru3 r) 32).1, (rtext (ru3 r) 32).2) := by (unfold ru4; rw [if_neg (by omega), if_pos (by omega)])
               have eq : (rtext (ru3 r) 32).2 = q := by rw [hq, e4]
               rw [e4]; simp only; rw [eq] at hS ⊢)
            | (have e4 : ru4 r = (0, ByteArray.empty, ru3 r) := by (unfold ru4; rw [if_neg (by omega), if_neg (by omega)])
               have eq : ru3 r = q := by rw [hq, e4]
               rw [e4]; simp only; rw [eq] at hS ⊢)
          clear hq
          refine wc_region ?_
          refine wl (y_move rfl) rfl ?_
          refine wl_call (.cons rfl .nil) (rerr_c (hS.pull [(p, rdrO q)])) rfl ?_
          rintro _ w ⟨rfl, hS⟩
          refine wl (y_neq rfl rfl) rfl ?_
          refine wl_nil ?_
          refine wc_if rfl (fun hc36 => ?_) (fun hc36 => ?_)
          · try simp only [zq1, zq2, zq3, zq4, zq5, zq6, zq7] at hc36
            rw [if_pos (by omega)]
            refine wc_seq ?_
            refine wc_region ?_
            refine wl (y_build (is := []) (xs := []) (out := [_, _, _, _]) plc_59 z_59 .nil rfl) rfl ?_
            refine a_storeS (vs := [_, _, _, _]) sz_59 rfl rfl rfl rfl hS (Nat.le_of_ble_eq_true rfl) fun w hS => ?_
            refine wl_nil ?_
            refine wc_ret ?_
            refine wret (vs := [_]) (.cell rfl (loadVar_struct st_59 sz_59 (vs := [_, _, _, _]) rfl (hS.cells rfl)) .nil) ?_
            exact ⟨rfl, hS.keep⟩
          · try simp only [zq1, zq2, zq3, zq4, zq5, zq6, zq7] at hc36
            rw [if_neg (by omega)]
            refine wc_skip ?_
            refine wc_seq ?_
            refine wc_region ?_
            refine wl (y_loadS st_59 sz_59 rfl (hS.cells (vs := [_, _, _, _]) rfl) rfl) rfl ?_
            refine a_storeS (vs := [_, _, _, _]) sz_59 rfl rfl rfl rfl hS (Nat.le_of_ble_eq_true rfl) fun w hS => ?_
            refine wl_nil ?_
            refine wc_ret ?_
            refine wret (vs := [_]) (.cell rfl (loadVar_struct st_59 sz_59 (vs := [_, _, _, _]) rfl (hS.cells rfl)) .nil) ?_
            exact ⟨rfl, hS.keep⟩
        · try simp only [zq1, zq2, zq3, zq4, zq5, zq6, zq7] at hc22
          refine wc_seq ?_
          refine wc_seq ?_
          refine wc_region ?_
          refine wl (y_eql rfl rfl) rfl ?_
          refine wl (y_assign rfl) rfl ?_
          refine wl_nil ?_
          refine wc_case rfl (fun hc28 => ?_) (fun hc28 => ?_)
          · try simp only [zq1, zq2, zq3, zq4, zq5, zq6, zq7] at hc28
            refine wc_skip ?_
            refine wc_ifT rfl rfl ?_
            refine wc_region ?_
            refine wl (y_move rfl) rfl ?_
            refine wl_call (.cons rfl (.cons rfl .nil)) (rtext_c hG 32 (by decide) h3 (hS.pull [(p, rdrO (ru3 r))])) rfl ?_
            rintro _ w ⟨rfl, hS⟩
            refine wl (y_fld fl_59_3 rfl) rfl ?_
            refine a_store sz_9 rfl rfl rfl hS (Nat.le_of_ble_eq_true rfl) fun w hS => ?_
            refine wl_nil ?_
            simp only [List.setIfInBounds_toArray, List.set_cons_zero, List.set_cons_succ, Nat.zero_add, Nat.add_zero, cells_agg, setCells] at hS
            refine wc_seq ?_
            refine wc_seq ?_
            obtain ⟨q, hq⟩ : ∃ q, q = (ru4 r).2.2 := ⟨_, rfl⟩
            first
              | (have e4 : ru4 r = ((rsig (ru3 r)).1, ByteArray.empty, (rsig (ru3 r)).2) := by (unfold ru4; rw [if_pos (by omega)])
                 have eq : (rsig (ru3 r)).2 = q := by rw [hq, e4]
                 rw [e4]; simp only; rw [eq] at hS ⊢)
              | (have e4 : ru4 r = (0, (rtext (ru3 r) 32).1, (rtext (ru3 r) 32).2) := by (unfold ru4; rw [if_neg (by omega), if_pos (by omega)])
                 have eq : (rtext (ru3 r) 32).2 = q := by rw [hq, e4]
                 rw [e4]; simp only; rw [eq] at hS ⊢)
              | (have e4 : ru4 r = (0, ByteArray.empty, ru3 r) := by (unfold ru4; rw [if_neg (by omega), if_neg (by omega)])
                 have eq : ru3 r = q := by rw [hq, e4]
                 rw [e4]; simp only; rw [eq] at hS ⊢)
            clear hq
            refine wc_region ?_
            refine wl (y_move rfl) rfl ?_
            refine wl_call (.cons rfl .nil) (rerr_c (hS.pull [(p, rdrO q)])) rfl ?_
            rintro _ w ⟨rfl, hS⟩
            refine wl (y_neq rfl rfl) rfl ?_
            refine wl_nil ?_
            refine wc_if rfl (fun hc36 => ?_) (fun hc36 => ?_)
            · try simp only [zq1, zq2, zq3, zq4, zq5, zq6, zq7] at hc36
              rw [if_pos (by omega)]
              refine wc_seq ?_
              refine wc_region ?_
              refine wl (y_build (is := []) (xs := []) (out := [_, _, _, _]) plc_59 z_59 .nil rfl) rfl ?_
              refine a_storeS (vs := [_, _, _, _]) sz_59 rfl rfl rfl rfl hS (Nat.le_of_ble_eq_true rfl) fun w hS => ?_
              refine wl_nil ?_
              refine wc_ret ?_
              refine wret (vs := [_]) (.cell rfl (loadVar_struct st_59 sz_59 (vs := [_, _, _, _]) rfl (hS.cells rfl)) .nil) ?_
              exact ⟨rfl, hS.keep⟩
            · try simp only [zq1, zq2, zq3, zq4, zq5, zq6, zq7] at hc36
              rw [if_neg (by omega)]
              refine wc_skip ?_
              refine wc_seq ?_
              refine wc_region ?_
              refine wl (y_loadS st_59 sz_59 rfl (hS.cells (vs := [_, _, _, _]) rfl) rfl) rfl ?_
              refine a_storeS (vs := [_, _, _, _]) sz_59 rfl rfl rfl rfl hS (Nat.le_of_ble_eq_true rfl) fun w hS => ?_
              refine wl_nil ?_
              refine wc_ret ?_
              refine wret (vs := [_]) (.cell rfl (loadVar_struct st_59 sz_59 (vs := [_, _, _, _]) rfl (hS.cells rfl)) .nil) ?_
              exact ⟨rfl, hS.keep⟩
          · try simp only [zq1, zq2, zq3, zq4, zq5, zq6, zq7] at hc28
            refine wc_region ?_
            refine wl (y_eql rfl rfl) rfl ?_
            refine wl (y_assign rfl) rfl ?_
            refine wl_nil ?_
            refine wc_case rfl (fun hc28 => ?_) (fun hc28 => ?_)
            · try simp only [zq1, zq2, zq3, zq4, zq5, zq6, zq7] at hc28
              refine wc_region ?_
              refine wl (y_move rfl) rfl ?_
              refine wl_call (.cons rfl (.cons rfl .nil)) (rtext_c hG 32 (by decide) h3 (hS.pull [(p, rdrO (ru3 r))])) rfl ?_
              rintro _ w ⟨rfl, hS⟩
              refine wl (y_fld fl_59_3 rfl) rfl ?_
              refine a_store sz_9 rfl rfl rfl hS (Nat.le_of_ble_eq_true rfl) fun w hS => ?_
              refine wl_nil ?_
              simp only [List.setIfInBounds_toArray, List.set_cons_zero, List.set_cons_succ, Nat.zero_add, Nat.add_zero, cells_agg, setCells] at hS
              refine wc_seq ?_
              refine wc_seq ?_
              obtain ⟨q, hq⟩ : ∃ q, q = (ru4 r).2.2 := ⟨_, rfl⟩
              first
                | (have e4 : ru4 r = ((rsig (ru3 r)).1, ByteArray.empty, (rsig (ru3 r)).2) := by (unfold ru4; rw [if_pos (by omega)])
                   have eq : (rsig (ru3 r)).2 = q := by rw [hq, e4]
                   rw [e4]; simp only; rw [eq] at hS ⊢)
                | (have e4 : ru4 r = (0, (rtext (ru3 r) 32).1, (rtext (ru3 r) 32).2) := by (unfold ru4; rw [if_neg (by omega), if_pos (by omega)])
                   have eq : (rtext (ru3 r) 32).2 = q := by rw [hq, e4]
                   rw [e4]; simp only; rw [eq] at hS ⊢)
                | (have e4 : ru4 r = (0, ByteArray.empty, ru3 r) := by (unfold ru4; rw [if_neg (by omega), if_neg (by omega)])
                   have eq : ru3 r = q := by rw [hq, e4]
                   rw [e4]; simp only; rw [eq] at hS ⊢)
              clear hq
              refine wc_region ?_
              refine wl (y_move rfl) rfl ?_
              refine wl_call (.cons rfl .nil) (rerr_c (hS.pull [(p, rdrO q)])) rfl ?_
              rintro _ w ⟨rfl, hS⟩
              refine wl (y_neq rfl rfl) rfl ?_
              refine wl_nil ?_
              refine wc_if rfl (fun hc36 => ?_) (fun hc36 => ?_)
              · try simp only [zq1, zq2, zq3, zq4, zq5, zq6, zq7] at hc36
                rw [if_pos (by omega)]
                refine wc_seq ?_
                refine wc_region ?_
                refine wl (y_build (is := []) (xs := []) (out := [_, _, _, _]) plc_59 z_59 .nil rfl) rfl ?_
                refine a_storeS (vs := [_, _, _, _]) sz_59 rfl rfl rfl rfl hS (Nat.le_of_ble_eq_true rfl) fun w hS => ?_
                refine wl_nil ?_
                refine wc_ret ?_
                refine wret (vs := [_]) (.cell rfl (loadVar_struct st_59 sz_59 (vs := [_, _, _, _]) rfl (hS.cells rfl)) .nil) ?_
                exact ⟨rfl, hS.keep⟩
              · try simp only [zq1, zq2, zq3, zq4, zq5, zq6, zq7] at hc36
                rw [if_neg (by omega)]
                refine wc_skip ?_
                refine wc_seq ?_
                refine wc_region ?_
                refine wl (y_loadS st_59 sz_59 rfl (hS.cells (vs := [_, _, _, _]) rfl) rfl) rfl ?_
                refine a_storeS (vs := [_, _, _, _]) sz_59 rfl rfl rfl rfl hS (Nat.le_of_ble_eq_true rfl) fun w hS => ?_
                refine wl_nil ?_
                refine wc_ret ?_
                refine wret (vs := [_]) (.cell rfl (loadVar_struct st_59 sz_59 (vs := [_, _, _, _]) rfl (hS.cells rfl)) .nil) ?_
                exact ⟨rfl, hS.keep⟩
            · try simp only [zq1, zq2, zq3, zq4, zq5, zq6, zq7] at hc28
              refine wc_skip ?_
              refine wc_seq ?_
              refine wc_seq ?_
              obtain ⟨q, hq⟩ : ∃ q, q = (ru4 r).2.2 := ⟨_, rfl⟩
              first
                | (have e4 : ru4 r = ((rsig (ru3 r)).1, ByteArray.empty, (rsig (ru3 r)).2) := by (unfold ru4; rw [if_pos (by omega)])
                   have eq : (rsig (ru3 r)).2 = q := by rw [hq, e4]
                   rw [e4]; simp only; rw [eq] at hS ⊢)
                | (have e4 : ru4 r = (0, (rtext (ru3 r) 32).1, (rtext (ru3 r) 32).2) := by (unfold ru4; rw [if_neg (by omega), if_pos (by omega)])
                   have eq : (rtext (ru3 r) 32).2 = q := by rw [hq, e4]
                   rw [e4]; simp only; rw [eq] at hS ⊢)
                | (have e4 : ru4 r = (0, ByteArray.empty, ru3 r) := by (unfold ru4; rw [if_neg (by omega), if_neg (by omega)])
                   have eq : ru3 r = q := by rw [hq, e4]
                   rw [e4]; simp only; rw [eq] at hS ⊢)
              clear hq
              refine wc_region ?_
              refine wl (y_move rfl) rfl ?_
              refine wl_call (.cons rfl .nil) (rerr_c (hS.pull [(p, rdrO q)])) rfl ?_
              rintro _ w ⟨rfl, hS⟩
              refine wl (y_neq rfl rfl) rfl ?_
              refine wl_nil ?_
              refine wc_if rfl (fun hc36 => ?_) (fun hc36 => ?_)
              · try simp only [zq1, zq2, zq3, zq4, zq5, zq6, zq7] at hc36
                rw [if_pos (by omega)]
                refine wc_seq ?_
                refine wc_region ?_
                refine wl (y_build (is := []) (xs := []) (out := [_, _, _, _]) plc_59 z_59 .nil rfl) rfl ?_
                refine a_storeS (vs := [_, _, _, _]) sz_59 rfl rfl rfl rfl hS (Nat.le_of_ble_eq_true rfl) fun w hS => ?_
                refine wl_nil ?_
                refine wc_ret ?_
                refine wret (vs := [_]) (.cell rfl (loadVar_struct st_59 sz_59 (vs := [_, _, _, _]) rfl (hS.cells rfl)) .nil) ?_
                exact ⟨rfl, hS.keep⟩
              · try simp only [zq1, zq2, zq3, zq4, zq5, zq6, zq7] at hc36
                rw [if_neg (by omega)]
                refine wc_skip ?_
                refine wc_seq ?_
                refine wc_region ?_
                refine wl (y_loadS st_59 sz_59 rfl (hS.cells (vs := [_, _, _, _]) rfl) rfl) rfl ?_
                refine a_storeS (vs := [_, _, _, _]) sz_59 rfl rfl rfl rfl hS (Nat.le_of_ble_eq_true rfl) fun w hS => ?_
                refine wl_nil ?_
                refine wc_ret ?_
                refine wret (vs := [_]) (.cell rfl (loadVar_struct st_59 sz_59 (vs := [_, _, _, _]) rfl (hS.cells rfl)) .nil) ?_
                exact ⟨rfl, hS.keep⟩
    · try simp only [zq1, zq2, zq3, zq4, zq5, zq6, zq7] at hc17
      have e3 : (ru2 r).2 = ru3 r := by unfold ru3; rw [if_neg hc17]
      rw [e3] at hS
      refine wc_skip ?_
      refine wc_seq ?_
      refine wc_seq ?_
      refine wc_region ?_
      refine wl (y_fld fl_59_1 rfl) rfl ?_
      refine wl (y_load pl_3 rfl (hS.cell rfl)) rfl ?_
      refine wl_nil ?_
      refine wc_block ?_
      refine wc_seq ?_
      refine wc_seq ?_
      refine wc_region ?_
      refine wl (y_eql rfl rfl) rfl ?_
      refine wl (y_assign rfl) rfl ?_
      refine wl_nil ?_
      refine wc_case rfl (fun hc22 => ?_) (fun hc22 => ?_)
      · try simp only [zq1, zq2, zq3, zq4, zq5, zq6, zq7] at hc22
        refine wc_skip ?_
        refine wc_ifT rfl rfl ?_
        refine wc_region ?_
        refine wl (y_move rfl) rfl ?_
        refine wl_call (.cons rfl .nil) (rsig_c hG h3 (hS.pull [(p, rdrO (ru3 r))])) rfl ?_
        rintro _ w ⟨rfl, hS⟩
        refine wl (y_fld fl_59_2 rfl) rfl ?_
        refine a_store sz_2 rfl rfl rfl hS (Nat.le_of_ble_eq_true rfl) fun w hS => ?_
        refine wl_nil ?_
        simp only [List.setIfInBounds_toArray, List.set_cons_zero, List.set_cons_succ, Nat.zero_add, Nat.add_zero, cells_agg, setCells] at hS
        refine wc_seq ?_
        refine wc_seq ?_
        obtain ⟨q, hq⟩ : ∃ q, q = (ru4 r).2.2 := ⟨_, rfl⟩
        first
          | (have e4 : ru4 r = ((rsig (ru3 r)).1, ByteArray.empty, (rsig (ru3 r)).2) := by (unfold ru4; rw [if_pos (by omega)])
             have eq : (rsig (ru3 r)).2 = q := by rw [hq, e4]
             rw [e4]; simp only; rw [eq] at hS ⊢)
          | (have e4 : ru4 r = (0, (rtext (ru3 r) 32).1, (rtext (ru3 r) 32).2) := by (unfold ru4; rw [if_neg (by omega), if_pos (by omega)])
             have eq : (rtext (ru3 r) 32).2 = q := by rw [hq, e4]
             rw [e4]; simp only; rw [eq] at hS ⊢)
          | (have e4 : ru4 r = (0, ByteArray.empty, ru3 r) := by (unfold ru4; rw [if_neg (by omega), if_neg (by omega)])
             have eq : ru3 r = q := by rw [hq, e4]
             rw [e4]; simp only; rw [eq] at hS ⊢)
        clear hq
        refine wc_region ?_
        refine wl (y_move rfl) rfl ?_
        refine wl_call (.cons rfl .nil) (rerr_c (hS.pull [(p, rdrO q)])) rfl ?_
        rintro _ w ⟨rfl, hS⟩
        refine wl (y_neq rfl rfl) rfl ?_
        refine wl_nil ?_
        refine wc_if rfl (fun hc36 => ?_) (fun hc36 => ?_)
        · try simp only [zq1, zq2, zq3, zq4, zq5, zq6, zq7] at hc36
          rw [if_pos (by omega)]
          refine wc_seq ?_
          refine wc_region ?_
          refine wl (y_build (is := []) (xs := []) (out := [_, _, _, _]) plc_59 z_59 .nil rfl) rfl ?_
          refine a_storeS (vs := [_, _, _, _]) sz_59 rfl rfl rfl rfl hS (Nat.le_of_ble_eq_true rfl) fun w hS => ?_
          refine wl_nil ?_
          refine wc_ret ?_
          refine wret (vs := [_]) (.cell rfl (loadVar_struct st_59 sz_59 (vs := [_, _, _, _]) rfl (hS.cells rfl)) .nil) ?_
          exact ⟨rfl, hS.keep⟩
        · try simp only [zq1, zq2, zq3, zq4, zq5, zq6, zq7] at hc36
          rw [if_neg (by omega)]
          refine wc_skip ?_
          refine wc_seq ?_
          refine wc_region ?_
          refine wl (y_loadS st_59 sz_59 rfl (hS.cells (vs := [_, _, _, _]) rfl) rfl) rfl ?_
          refine a_storeS (vs := [_, _, _, _]) sz_59 rfl rfl rfl rfl hS (Nat.le_of_ble_eq_true rfl) fun w hS => ?_
          refine wl_nil ?_
          refine wc_ret ?_
          refine wret (vs := [_]) (.cell rfl (loadVar_struct st_59 sz_59 (vs := [_, _, _, _]) rfl (hS.cells rfl)) .nil) ?_
          exact ⟨rfl, hS.keep⟩
      · try simp only [zq1, zq2, zq3, zq4, zq5, zq6, zq7] at hc22
        refine wc_region ?_
        refine wl (y_eql rfl rfl) rfl ?_
        refine wl (y_assign rfl) rfl ?_
        refine wl_nil ?_
        refine wc_case rfl (fun hc22 => ?_) (fun hc22 => ?_)
        · try simp only [zq1, zq2, zq3, zq4, zq5, zq6, zq7] at hc22
          refine wc_region ?_
          refine wl (y_move rfl) rfl ?_
          refine wl_call (.cons rfl .nil) (rsig_c hG h3 (hS.pull [(p, rdrO (ru3 r))])) rfl ?_
          rintro _ w ⟨rfl, hS⟩
          refine wl (y_fld fl_59_2 rfl) rfl ?_
          refine a_store sz_2 rfl rfl rfl hS (Nat.le_of_ble_eq_true rfl) fun w hS => ?_
          refine wl_nil ?_
          simp only [List.setIfInBounds_toArray, List.set_cons_zero, List.set_cons_succ, Nat.zero_add, Nat.add_zero, cells_agg, setCells] at hS
          refine wc_seq ?_
          refine wc_seq ?_
          obtain ⟨q, hq⟩ : ∃ q, q = (ru4 r).2.2 := ⟨_, rfl⟩
          first
            | (have e4 : ru4 r = ((rsig (ru3 r)).1, ByteArray.empty, (rsig (ru3 r)).2) := by (unfold ru4; rw [if_pos (by omega)])
               have eq : (rsig (ru3 r)).2 = q := by rw [hq, e4]
               rw [e4]; simp only; rw [eq] at hS ⊢)
            | (have e4 : ru4 r = (0, (rtext (ru3 r) 32).1, (rtext (ru3 r) 32).2) := by (unfold ru4; rw [if_neg (by omega), if_pos (by omega)])
               have eq : (rtext (ru3 r) 32).2 = q := by rw [hq, e4]
               rw [e4]; simp only; rw [eq] at hS ⊢)
            | (have e4 : ru4 r = (0, ByteArray.empty, ru3 r) := by (unfold ru4; rw [if_neg (by omega), if_neg (by omega)])
               have eq : ru3 r = q := by rw [hq, e4]
               rw [e4]; simp only; rw [eq] at hS ⊢)
          clear hq
          refine wc_region ?_
          refine wl (y_move rfl) rfl ?_
          refine wl_call (.cons rfl .nil) (rerr_c (hS.pull [(p, rdrO q)])) rfl ?_
          rintro _ w ⟨rfl, hS⟩
          refine wl (y_neq rfl rfl) rfl ?_
          refine wl_nil ?_
          refine wc_if rfl (fun hc36 => ?_) (fun hc36 => ?_)
          · try simp only [zq1, zq2, zq3, zq4, zq5, zq6, zq7] at hc36
            rw [if_pos (by omega)]
            refine wc_seq ?_
            refine wc_region ?_
            refine wl (y_build (is := []) (xs := []) (out := [_, _, _, _]) plc_59 z_59 .nil rfl) rfl ?_
            refine a_storeS (vs := [_, _, _, _]) sz_59 rfl rfl rfl rfl hS (Nat.le_of_ble_eq_true rfl) fun w hS => ?_
            refine wl_nil ?_
            refine wc_ret ?_
            refine wret (vs := [_]) (.cell rfl (loadVar_struct st_59 sz_59 (vs := [_, _, _, _]) rfl (hS.cells rfl)) .nil) ?_
            exact ⟨rfl, hS.keep⟩
          · try simp only [zq1, zq2, zq3, zq4, zq5, zq6, zq7] at hc36
            rw [if_neg (by omega)]
            refine wc_skip ?_
            refine wc_seq ?_
            refine wc_region ?_
            refine wl (y_loadS st_59 sz_59 rfl (hS.cells (vs := [_, _, _, _]) rfl) rfl) rfl ?_
            refine a_storeS (vs := [_, _, _, _]) sz_59 rfl rfl rfl rfl hS (Nat.le_of_ble_eq_true rfl) fun w hS => ?_
            refine wl_nil ?_
            refine wc_ret ?_
            refine wret (vs := [_]) (.cell rfl (loadVar_struct st_59 sz_59 (vs := [_, _, _, _]) rfl (hS.cells rfl)) .nil) ?_
            exact ⟨rfl, hS.keep⟩
        · try simp only [zq1, zq2, zq3, zq4, zq5, zq6, zq7] at hc22
          refine wc_seq ?_
          refine wc_seq ?_
          refine wc_region ?_
          refine wl (y_eql rfl rfl) rfl ?_
          refine wl (y_assign rfl) rfl ?_
          refine wl_nil ?_
          refine wc_case rfl (fun hc28 => ?_) (fun hc28 => ?_)
          · try simp only [zq1, zq2, zq3, zq4, zq5, zq6, zq7] at hc28
            refine wc_skip ?_
            refine wc_ifT rfl rfl ?_
            refine wc_region ?_
            refine wl (y_move rfl) rfl ?_
            refine wl_call (.cons rfl (.cons rfl .nil)) (rtext_c hG 32 (by decide) h3 (hS.pull [(p, rdrO (ru3 r))])) rfl ?_
            rintro _ w ⟨rfl, hS⟩
            refine wl (y_fld fl_59_3 rfl) rfl ?_
            refine a_store sz_9 rfl rfl rfl hS (Nat.le_of_ble_eq_true rfl) fun w hS => ?_
            refine wl_nil ?_
            simp only [List.setIfInBounds_toArray, List.set_cons_zero, List.set_cons_succ, Nat.zero_add, Nat.add_zero, cells_agg, setCells] at hS
            refine wc_seq ?_
            refine wc_seq ?_
            obtain ⟨q, hq⟩ : ∃ q, q = (ru4 r).2.2 := ⟨_, rfl⟩
            first
              | (have e4 : ru4 r = ((rsig (ru3 r)).1, ByteArray.empty, (rsig (ru3 r)).2) := by (unfold ru4; rw [if_pos (by omega)])
                 have eq : (rsig (ru3 r)).2 = q := by rw [hq, e4]
                 rw [e4]; simp only; rw [eq] at hS ⊢)
              | (have e4 : ru4 r = (0, (rtext (ru3 r) 32).1, (rtext (ru3 r) 32).2) := by (unfold ru4; rw [if_neg (by omega), if_pos (by omega)])
                 have eq : (rtext (ru3 r) 32).2 = q := by rw [hq, e4]
                 rw [e4]; simp only; rw [eq] at hS ⊢)
              | (have e4 : ru4 r = (0, ByteArray.empty, ru3 r) := by (unfold ru4; rw [if_neg (by omega), if_neg (by omega)])
                 have eq : ru3 r = q := by rw [hq, e4]
                 rw [e4]; simp only; rw [eq] at hS ⊢)
            clear hq
            refine wc_region ?_
            refine wl (y_move rfl) rfl ?_
            refine wl_call (.cons rfl .nil) (rerr_c (hS.pull [(p, rdrO q)])) rfl ?_
            rintro _ w ⟨rfl, hS⟩
            refine wl (y_neq rfl rfl) rfl ?_
            refine wl_nil ?_
            refine wc_if rfl (fun hc36 => ?_) (fun hc36 => ?_)
            · try simp only [zq1, zq2, zq3, zq4, zq5, zq6, zq7] at hc36
              rw [if_pos (by omega)]
              refine wc_seq ?_
              refine wc_region ?_
              refine wl (y_build (is := []) (xs := []) (out := [_, _, _, _]) plc_59 z_59 .nil rfl) rfl ?_
              refine a_storeS (vs := [_, _, _, _]) sz_59 rfl rfl rfl rfl hS (Nat.le_of_ble_eq_true rfl) fun w hS => ?_
              refine wl_nil ?_
              refine wc_ret ?_
              refine wret (vs := [_]) (.cell rfl (loadVar_struct st_59 sz_59 (vs := [_, _, _, _]) rfl (hS.cells rfl)) .nil) ?_
              exact ⟨rfl, hS.keep⟩
            · try simp only [zq1, zq2, zq3, zq4, zq5, zq6, zq7] at hc36
              rw [if_neg (by omega)]
              refine wc_skip ?_
              refine wc_seq ?_
              refine wc_region ?_
              refine wl (y_loadS st_59 sz_59 rfl (hS.cells (vs := [_, _, _, _]) rfl) rfl) rfl ?_
              refine a_storeS (vs := [_, _, _, _]) sz_59 rfl rfl rfl rfl hS (Nat.le_of_ble_eq_true rfl) fun w hS => ?_
              refine wl_nil ?_
              refine wc_ret ?_
              refine wret (vs := [_]) (.cell rfl (loadVar_struct st_59 sz_59 (vs := [_, _, _, _]) rfl (hS.cells rfl)) .nil) ?_
              exact ⟨rfl, hS.keep⟩
          · try simp only [zq1, zq2, zq3, zq4, zq5, zq6, zq7] at hc28
            refine wc_region ?_
            refine wl (y_eql rfl rfl) rfl ?_
            refine wl (y_assign rfl) rfl ?_
            refine wl_nil ?_
            refine wc_case rfl (fun hc28 => ?_) (fun hc28 => ?_)
            · try simp only [zq1, zq2, zq3, zq4, zq5, zq6, zq7] at hc28
              refine wc_region ?_
              refine wl (y_move rfl) rfl ?_
              refine wl_call (.cons rfl (.cons rfl .nil)) (rtext_c hG 32 (by decide) h3 (hS.pull [(p, rdrO (ru3 r))])) rfl ?_
              rintro _ w ⟨rfl, hS⟩
              refine wl (y_fld fl_59_3 rfl) rfl ?_
              refine a_store sz_9 rfl rfl rfl hS (Nat.le_of_ble_eq_true rfl) fun w hS => ?_
              refine wl_nil ?_
              simp only [List.setIfInBounds_toArray, List.set_cons_zero, List.set_cons_succ, Nat.zero_add, Nat.add_zero, cells_agg, setCells] at hS
              refine wc_seq ?_
              refine wc_seq ?_
              obtain ⟨q, hq⟩ : ∃ q, q = (ru4 r).2.2 := ⟨_, rfl⟩
              first
                | (have e4 : ru4 r = ((rsig (ru3 r)).1, ByteArray.empty, (rsig (ru3 r)).2) := by (unfold ru4; rw [if_pos (by omega)])
                   have eq : (rsig (ru3 r)).2 = q := by rw [hq, e4]
                   rw [e4]; simp only; rw [eq] at hS ⊢)
                | (have e4 : ru4 r = (0, (rtext (ru3 r) 32).1, (rtext (ru3 r) 32).2) := by (unfold ru4; rw [if_neg (by omega), if_pos (by omega)])
                   have eq : (rtext (ru3 r) 32).2 = q := by rw [hq, e4]
                   rw [e4]; simp only; rw [eq] at hS ⊢)
                | (have e4 : ru4 r = (0, ByteArray.empty, ru3 r) := by (unfold ru4; rw [if_neg (by omega), if_neg (by omega)])
                   have eq : ru3 r = q := by rw [hq, e4]
                   rw [e4]; simp only; rw [eq] at hS ⊢)
              clear hq
              refine wc_region ?_
              refine wl (y_move rfl) rfl ?_
              refine wl_call (.cons rfl .nil) (rerr_c (hS.pull [(p, rdrO q)])) rfl ?_
              rintro _ w ⟨rfl, hS⟩
              refine wl (y_neq rfl rfl) rfl ?_
              refine wl_nil ?_
              refine wc_if rfl (fun hc36 => ?_) (fun hc36 => ?_)
              · try simp only [zq1, zq2, zq3, zq4, zq5, zq6, zq7] at hc36
                rw [if_pos (by omega)]
                refine wc_seq ?_
                refine wc_region ?_
                refine wl (y_build (is := []) (xs := []) (out := [_, _, _, _]) plc_59 z_59 .nil rfl) rfl ?_
                refine a_storeS (vs := [_, _, _, _]) sz_59 rfl rfl rfl rfl hS (Nat.le_of_ble_eq_true rfl) fun w hS => ?_
                refine wl_nil ?_
                refine wc_ret ?_
                refine wret (vs := [_]) (.cell rfl (loadVar_struct st_59 sz_59 (vs := [_, _, _, _]) rfl (hS.cells rfl)) .nil) ?_
                exact ⟨rfl, hS.keep⟩
              · try simp only [zq1, zq2, zq3, zq4, zq5, zq6, zq7] at hc36
                rw [if_neg (by omega)]
                refine wc_skip ?_
                refine wc_seq ?_
                refine wc_region ?_
                refine wl (y_loadS st_59 sz_59 rfl (hS.cells (vs := [_, _, _, _]) rfl) rfl) rfl ?_
                refine a_storeS (vs := [_, _, _, _]) sz_59 rfl rfl rfl rfl hS (Nat.le_of_ble_eq_true rfl) fun w hS => ?_
                refine wl_nil ?_
                refine wc_ret ?_
                refine wret (vs := [_]) (.cell rfl (loadVar_struct st_59 sz_59 (vs := [_, _, _, _]) rfl (hS.cells rfl)) .nil) ?_
                exact ⟨rfl, hS.keep⟩
            · try simp only [zq1, zq2, zq3, zq4, zq5, zq6, zq7] at hc28
              refine wc_skip ?_
              refine wc_seq ?_
              refine wc_seq ?_
              obtain ⟨q, hq⟩ : ∃ q, q = (ru4 r).2.2 := ⟨_, rfl⟩
              first
                | (have e4 : ru4 r = ((rsig (ru3 r)).1, ByteArray.empty, (rsig (ru3 r)).2) := by (unfold ru4; rw [if_pos (by omega)])
                   have eq : (rsig (ru3 r)).2 = q := by rw [hq, e4]
                   rw [e4]; simp only; rw [eq] at hS ⊢)
                | (have e4 : ru4 r = (0, (rtext (ru3 r) 32).1, (rtext (ru3 r) 32).2) := by (unfold ru4; rw [if_neg (by omega), if_pos (by omega)])
                   have eq : (rtext (ru3 r) 32).2 = q := by rw [hq, e4]
                   rw [e4]; simp only; rw [eq] at hS ⊢)
                | (have e4 : ru4 r = (0, ByteArray.empty, ru3 r) := by (unfold ru4; rw [if_neg (by omega), if_neg (by omega)])
                   have eq : ru3 r = q := by rw [hq, e4]
                   rw [e4]; simp only; rw [eq] at hS ⊢)
              clear hq
              refine wc_region ?_
              refine wl (y_move rfl) rfl ?_
              refine wl_call (.cons rfl .nil) (rerr_c (hS.pull [(p, rdrO q)])) rfl ?_
              rintro _ w ⟨rfl, hS⟩
              refine wl (y_neq rfl rfl) rfl ?_
              refine wl_nil ?_
              refine wc_if rfl (fun hc36 => ?_) (fun hc36 => ?_)
              · try simp only [zq1, zq2, zq3, zq4, zq5, zq6, zq7] at hc36
                rw [if_pos (by omega)]
                refine wc_seq ?_
                refine wc_region ?_
                refine wl (y_build (is := []) (xs := []) (out := [_, _, _, _]) plc_59 z_59 .nil rfl) rfl ?_
                refine a_storeS (vs := [_, _, _, _]) sz_59 rfl rfl rfl rfl hS (Nat.le_of_ble_eq_true rfl) fun w hS => ?_
                refine wl_nil ?_
                refine wc_ret ?_
                refine wret (vs := [_]) (.cell rfl (loadVar_struct st_59 sz_59 (vs := [_, _, _, _]) rfl (hS.cells rfl)) .nil) ?_
                exact ⟨rfl, hS.keep⟩
              · try simp only [zq1, zq2, zq3, zq4, zq5, zq6, zq7] at hc36
                rw [if_neg (by omega)]
                refine wc_skip ?_
                refine wc_seq ?_
                refine wc_region ?_
                refine wl (y_loadS st_59 sz_59 rfl (hS.cells (vs := [_, _, _, _]) rfl) rfl) rfl ?_
                refine a_storeS (vs := [_, _, _, _]) sz_59 rfl rfl rfl rfl hS (Nat.le_of_ble_eq_true rfl) fun w hS => ?_
                refine wl_nil ?_
                refine wc_ret ?_
                refine wret (vs := [_]) (.cell rfl (loadVar_struct st_59 sz_59 (vs := [_, _, _, _]) rfl (hS.cells rfl)) .nil) ?_
                exact ⟨rfl, hS.keep⟩
end
end Go.Proofs.YtndahppmjdbifaaGreatDoor.Val

set_option linter.unusedVariables false
set_option linter.unusedSimpArgs false
namespace Go.Proofs.YtndahppmjdbifaaGreatDoor.Rou
open Go Go.Proofs Go.Proofs.YtndahppmjdbifaaGreatDoor.Eng Go.Proofs.YtndahppmjdbifaaGreatDoor.Pre Go.Proofs.YtndahppmjdbifaaGreatDoor.Pak Go.Proofs.YtndahppmjdbifaaGreatDoor.Val

structure Rnd where
  o : Int
  n : Int
  ups : List Upd
deriving DecidableEq
def rvS (r : Rnd) (s : Value) : Value := .agg [.int .i64 r.o, .int .i64 r.n, s].toArray
def firstBad : List Upd → Nat
  | [] => 0
  | u :: l => if mayU u ≠ 0 then mayU u else firstBad l
@[irreducible] def mayR (r : Rnd) : Nat :=
  if ¬ (1 ≤ r.o ∧ r.o ≤ 64) then 1 else if ¬ (1 ≤ r.n ∧ r.n ≤ 1099511627776) then 1 else if ¬ (1 ≤ (r.ups.length : Int) ∧ (r.ups.length : Int) ≤ 8) then 1 else firstBad r.ups
@[irreducible] def rbytes (r : Rnd) : List UInt8 := pput r.o.toNat ++ pput r.n.toNat ++ pput r.ups.length ++ r.ups.flatMap ubytes

theorem firstBad_ok {l : List Upd} (h : firstBad l = 0) : ∀ u ∈ l, mayU u = 0 := by
  induction l with
  | nil => intro u h; cases h
  | cons u l ih =>
    intro x hx
    simp only [firstBad] at h
    split at h
    · rename_i hc; exact absurd h hc
    · rename_i hc
      rcases List.mem_cons.1 hx with rfl | hx
      · simpa using hc
      · exact ih h x hx
theorem mayR_ok {r : Rnd} (h : mayR r = 0) : 1 ≤ r.o ∧ r.o ≤ 64 ∧ 1 ≤ r.n ∧ r.n ≤ 1099511627776 ∧ 1 ≤ r.ups.length ∧ r.ups.length ≤ 8 ∧ ∀ u ∈ r.ups, mayU u = 0 := by
  unfold mayR at h
  split at h; · cases h
  split at h; · cases h
  split at h; · cases h
  rename_i h1 h2 h3
  exact ⟨by omega, by omega, by omega, by omega, by omega, by omega, firstBad_ok h⟩
theorem ups_length {l : List Upd} (h : ∀ u ∈ l, mayU u = 0) : (l.flatMap ubytes).length ≤ 72 * l.length := by
  induction l with
  | nil => simp
  | cons u l ih =>
    rw [List.flatMap_cons, List.length_append, List.length_cons]
    have h1 := ubytes_length (h u (by simp))
    have h2 := ih fun x hx => h x (by simp [hx])
    omega
theorem rbytes_length {r : Rnd} (h : mayR r = 0) : (rbytes r).length ≤ 600 := by
  obtain ⟨_, _, _, _, _, h8, hu⟩ := mayR_ok h
  unfold rbytes
  simp only [List.length_append]
  have a := pput_length r.o.toNat
  have b := pput_length r.n.toNat
  have c := pput_length r.ups.length
  have d := ups_length hu
  omega
section
variable {M : Mem} {w : World} {Ls : List Chunk}
theorem in_c (n lo hi : Int) (hS : St M w Ls) : CallsR Tryz.prog 158 [.int .i64 n, .int .i64 lo, .int .i64 hi].toArray w fun v w' => v = .bool (decide (lo ≤ n ∧ n ≤ hi)) ∧ St M w' Ls := by
  refine calls_of (c := _) (rs := _) (n := 15) Tryz.func158 rfl rfl rfl rfl rfl ?_
  refine wc_seq ?_
  refine wc_region ?_
  refine wl (y_assign rfl) rfl ?_
  refine wl_nil ?_
  refine wc_seq ?_
  refine wc_region ?_
  refine wl (y_move rfl) rfl ?_
  refine wl (y_move rfl) rfl ?_
  refine wl (y_geq rfl rfl) rfl ?_
  refine wl (y_move rfl) rfl ?_
  refine wl_cases (s := 10) rfl (fun hg10 => ?_) (fun hg10 => ?_)
  · try simp only [zq1, zq2, zq3, zq4, zq5, zq6, zq7] at hg10
    refine wl_on rfl rfl ?_
    refine wl (y_move rfl) rfl ?_
    refine wl_on rfl rfl ?_
    refine wl (y_move rfl) rfl ?_
    refine wl_on rfl rfl ?_
    refine wl (y_leq rfl rfl) rfl ?_
    refine wl (y_pickT rfl rfl) rfl ?_
    refine wl (y_assign rfl) rfl ?_
    refine wl_nil ?_
    refine wc_ret ?_
    refine wret (vs := [_]) (.tmp rfl .nil) ?_
    first
    | exact ⟨congrArg Value.bool (decide_eq_decide.2 ⟨fun h => ⟨by omega, h⟩, fun h => h.2⟩), hS⟩
    | exact ⟨congrArg Value.bool (decide_eq_false (fun h => by omega)).symm, hS⟩
  · try simp only [zq1, zq2, zq3, zq4, zq5, zq6, zq7] at hg10
    refine wl_off rfl rfl rfl rfl ?_
    refine wl_off rfl rfl rfl rfl ?_
    refine wl_off rfl rfl rfl rfl ?_
    refine wl (y_pickF rfl rfl) rfl ?_
    refine wl (y_assign rfl) rfl ?_
    refine wl_nil ?_
    refine wc_ret ?_
    refine wret (vs := [_]) (.tmp rfl .nil) ?_
    first
    | exact ⟨congrArg Value.bool (decide_eq_decide.2 ⟨fun h => ⟨by omega, h⟩, fun h => h.2⟩), hS⟩
    | exact ⟨congrArg Value.bool (decide_eq_false (fun h => by omega)).symm, hS⟩
theorem rmay_c (r : Rnd) (s : Value) (hs : Rd M encU s r.ups) (hS : St M w Ls) : CallsR Tryz.prog 121 [rvS r s].toArray w fun v w' => v = .int .i64 (mayR r) ∧ St M w' Ls := by
  obtain ⟨sa, sc, rfl⟩ := (hs.holds hS).slice
  unfold mayR
  refine calls_of (c := _) (rs := _) (n := 36) Tryz.func121 rfl rfl rfl rfl rfl ?_
  refine wc_seq ?_
  refine wc_region ?_
  refine a_box rfl hS rfl fun b1 w hS => ?_
  refine wl (y_assign rfl) rfl ?_
  refine wl_nil ?_
  refine wc_seq ?_
  refine wc_seq ?_
  refine wc_region ?_
  refine wl (y_fld fl_48_0 rfl) rfl ?_
  refine wl (y_load pl_3 rfl (hS.cell rfl)) rfl ?_
  refine wl_call (.cons rfl (.cons rfl (.cons rfl .nil))) (in_c r.o 1 64 hS) rfl ?_
  rintro _ w ⟨rfl, hS⟩
  refine wl (y_not rfl) rfl ?_
  refine wl (y_move rfl) rfl ?_
  refine wl_cases (s := 10) rfl (fun hg10 => ?_) (fun hg10 => ?_)
  · try simp only [zq1, zq2, zq3, zq4, zq5, zq6, zq7] at hg10
    rw [if_pos hg10]
    refine wl_off rfl rfl rfl rfl ?_
    refine wl_off rfl rfl rfl rfl ?_
    refine wl_off rfl rfl rfl rfl ?_
    refine wl_off rfl rfl rfl rfl ?_
    refine wl (y_pickT rfl rfl) rfl ?_
    refine wl (y_move rfl) rfl ?_
    refine wl_off rfl rfl rfl rfl ?_
    refine wl_off rfl rfl rfl rfl ?_
    refine wl_off rfl rfl rfl rfl ?_
    refine wl_off rfl rfl rfl rfl ?_
    refine wl_off rfl rfl rfl rfl ?_
    refine wl (y_pickT rfl rfl) rfl ?_
    refine wl_nil ?_
    refine wc_ifT rfl rfl ?_
    refine wc_seq ?_
    refine wc_region ?_
    refine wl (y_assign rfl) rfl ?_
    refine wl_nil ?_
    refine wc_ret ?_
    refine wret (vs := [_]) (.tmp rfl .nil) ?_
    exact ⟨rfl, hS.keep⟩
  · try simp only [zq1, zq2, zq3, zq4, zq5, zq6, zq7] at hg10
    rw [if_neg (by omega)]
    refine wl_on rfl rfl ?_
    refine wl (y_fld fl_48_1 rfl) rfl ?_
    refine wl_on rfl rfl ?_
    refine wl (y_load pl_3 rfl (hS.cell rfl)) rfl ?_
    refine wl_on rfl rfl ?_
    refine wl_call (.cons rfl (.cons rfl (.cons rfl .nil))) (in_c r.n 1 1099511627776 hS) rfl ?_
    rintro _ w ⟨rfl, hS⟩
    refine wl_on rfl rfl ?_
    refine wl (y_not rfl) rfl ?_
    refine wl (y_pickF rfl rfl) rfl ?_
    refine wl (y_move rfl) rfl ?_
    refine wl_cases (s := 16) rfl (fun hg16 => ?_) (fun hg16 => ?_)
    · try simp only [zq1, zq2, zq3, zq4, zq5, zq6, zq7] at hg16
      rw [if_pos hg16]
      refine wl_off rfl rfl rfl rfl ?_
      refine wl_off rfl rfl rfl rfl ?_
      refine wl_off rfl rfl rfl rfl ?_
      refine wl_off rfl rfl rfl rfl ?_
      refine wl_off rfl rfl rfl rfl ?_
      refine wl (y_pickT rfl rfl) rfl ?_
      refine wl_nil ?_
      refine wc_ifT rfl rfl ?_
      refine wc_seq ?_
      refine wc_region ?_
      refine wl (y_assign rfl) rfl ?_
      refine wl_nil ?_
      refine wc_ret ?_
      refine wret (vs := [_]) (.tmp rfl .nil) ?_
      exact ⟨rfl, hS.keep⟩
    · try simp only [zq1, zq2, zq3, zq4, zq5, zq6, zq7] at hg16
      rw [if_neg (by omega)]
      refine wl_on rfl rfl ?_
      refine wl (y_fld fl_48_2 rfl) rfl ?_
      refine wl_on rfl rfl ?_
      refine wl (y_load pl_46 rfl (hS.cell rfl)) rfl ?_
      refine wl_on rfl rfl ?_
      refine wl (y_len_sl Tryz.underlying46 rfl) rfl ?_
      refine wl_on rfl rfl ?_
      refine wl_call (.cons rfl (.cons rfl (.cons rfl .nil))) (in_c r.ups.length 1 8 hS) rfl ?_
      rintro _ w ⟨rfl, hS⟩
      refine wl_on rfl rfl ?_
      refine wl (y_not rfl) rfl ?_
      refine wl (y_pickF rfl rfl) rfl ?_
      refine wl_nil ?_
      refine wc_if rfl (fun hc22 => ?_) (fun hc22 => ?_)
      · try simp only [zq1, zq2, zq3, zq4, zq5, zq6, zq7] at hc22
        rw [if_pos hc22]
        refine wc_seq ?_
        refine wc_region ?_
        refine wl (y_assign rfl) rfl ?_
        refine wl_nil ?_
        refine wc_ret ?_
        refine wret (vs := [_]) (.tmp rfl .nil) ?_
        exact ⟨rfl, hS.keep⟩
      · try simp only [zq1, zq2, zq3, zq4, zq5, zq6, zq7] at hc22
        rw [if_neg (by omega)]
        refine wc_skip ?_
        refine wc_seq ?_
        refine wc_seq ?_
        refine wc_region ?_
        refine wl (y_fld fl_48_2 rfl) rfl ?_
        refine wl (y_load pl_46 rfl (hS.cell rfl)) rfl ?_
        refine wl (y_len_sl Tryz.underlying46 rfl) rfl ?_
        refine wl (y_move rfl) rfl ?_
        refine wl_nil ?_
        refine wc_block ?_
        refine wc_loop (α := Nat) (fun i => [(24, .slice sa r.ups.length sc), (25, .int .i64 r.ups.length), (26, .int .i64 i)]) (fun i w => i ≤ r.ups.length ∧ firstBad r.ups = firstBad (r.ups.drop i) ∧ St M w Ls) (fun i => r.ups.length - i) 0 (sub_cons rfl (sub_cons rfl (sub_cons rfl sub_nil))) ⟨by omega, rfl, hS.keep⟩ ?_
        clear hS
        rintro i w ⟨hi, hfb, hS⟩
        refine wc_seq ?_
        refine wc_region ?_
        refine wl (y_lss rfl rfl) rfl ?_
        refine wl_nil ?_
        refine wc_seq ?_
        refine wc_if rfl (fun hc27 => ?_) (fun hc27 => ?_)
        · try simp only [zq1, zq2, zq3, zq4, zq5, zq6, zq7] at hc27
          refine wc_skip ?_
          refine wc_seq ?_
          refine wc_block ?_
          refine wc_seq ?_
          have hi' : i < r.ups.length := by omega
          obtain ⟨u, hu⟩ : ∃ u, r.ups[i]? = some u := ⟨_, List.getElem?_eq_getElem hi'⟩
          have hdr : r.ups.drop i = u :: r.ups.drop (i + 1) := by
            obtain ⟨_, he⟩ := List.getElem?_eq_some_iff.1 hu
            rw [← he, ← List.drop_eq_getElem_cons hi']
          obtain ⟨bb, off, c', hse, hce⟩ := (hs.holds hS).at hu
          simp only [Value.slice.injEq] at hse
          have hSk := hS
          obtain ⟨rfl, _, rfl⟩ := hse
          replace hS := hSk
          refine wc_region ?_
          refine wl (y_ixa_sl Tryz.underlying46 sz_59 rfl rfl (by omega) (by omega)) rfl ?_
          refine wl (y_loadS st_59 sz_59 rfl (vs := encU.f u) hce rfl) rfl ?_
          refine a_alloc z_59 hS rfl fun b4 w hS => ?_
          refine a_storeS (vs := [_, _, _, _]) sz_59 rfl rfl rfl rfl hS (Nat.le_of_ble_eq_true rfl) fun w hS => ?_
          refine wl_nil ?_
          refine wc_seq ?_
          refine wc_region ?_
          refine wl (y_loadS st_59 sz_59 rfl (hS.cells (vs := [_, _, _, _]) rfl) rfl) rfl ?_
          refine wl_call (.cons rfl .nil) (may_c u hS) rfl ?_
          rintro _ w ⟨rfl, hS⟩
          refine wl (y_assign rfl) rfl ?_
          refine wl_nil ?_
          refine wc_seq ?_
          refine wc_region ?_
          refine wl (y_move rfl) rfl ?_
          refine wl (y_neq rfl rfl) rfl ?_
          refine wl_nil ?_
          refine wc_if rfl (fun hc33 => ?_) (fun hc33 => ?_)
          · try simp only [zq1, zq2, zq3, zq4, zq5, zq6, zq7] at hc33
            rw [hfb, hdr]
            simp only [firstBad]
            rw [if_pos (by omega)]
            refine wc_seq ?_
            refine wc_region ?_
            refine wl (y_move rfl) rfl ?_
            refine wl (y_assign rfl) rfl ?_
            refine wl_nil ?_
            refine wc_ret ?_
            refine wret (vs := [_]) (.tmp rfl .nil) ?_
            exact ⟨rfl, hS.keep⟩
          · try simp only [zq1, zq2, zq3, zq4, zq5, zq6, zq7] at hc33
            rw [hdr] at hfb
            simp only [firstBad] at hfb
            rw [if_neg (by omega)] at hfb
            refine wc_skip ?_
            refine wc_region ?_
            refine wl (y_add rfl rfl (w64 (by omega) (by omega))) rfl ?_
            refine wl (y_move rfl) rfl ?_
            refine wl_nil ?_
            exact ⟨i + 1, by omega, sub_cons rfl (sub_cons rfl (sub_cons rfl sub_nil)), by omega, hfb, hS.keep⟩
        · try simp only [zq1, zq2, zq3, zq4, zq5, zq6, zq7] at hc27
          obtain rfl : i = r.ups.length := by omega
          rw [List.drop_length] at hfb
          rw [hfb]
          refine wc_exit ?_
          refine wc_seq ?_
          refine wc_region ?_
          refine wl (y_assign rfl) rfl ?_
          refine wl_nil ?_
          refine wc_ret ?_
          refine wret (vs := [_]) (.tmp rfl .nil) ?_
          exact ⟨rfl, hS.keep⟩
def rputV (r : Rnd) : Value := if mayR r = 0 then .tuple [.string (str (rbytes r)), .int .i64 0].toArray else .tuple [.string ⟨#[]⟩, .int .i64 (mayR r)].toArray
theorem rput_c (hG : Bits M) (r : Rnd) (s : Value) (hs : Rd M encU s r.ups) (hS : St M w Ls) : CallsR Tryz.prog 60 [rvS r s].toArray w fun v w' => v = rputV r ∧ St M w' Ls := by
  have hs0 := hs
  obtain ⟨sa, sc, rfl⟩ := (hs.holds hS).slice
  unfold rputV
  refine calls_of (c := _) (rs := _) (n := 36) Tryz.func60 rfl rfl rfl rfl rfl ?_
  refine wc_seq ?_
  refine wc_region ?_
  refine a_box rfl hS rfl fun b1 w hS => ?_
  refine wl (y_assign rfl) rfl ?_
  refine wl (y_assign rfl) rfl ?_
  refine wl_nil ?_
  refine wc_seq ?_
  refine wc_seq ?_
  refine wc_region ?_
  refine wl (y_loadS st_48 sz_48 rfl (hS.cells (vs := [_, _, _]) rfl) rfl) rfl ?_
  refine wl_call (.cons rfl .nil) (rmay_c r _ hs0 hS) rfl ?_
  rintro _ w ⟨rfl, hS⟩
  refine wl (y_assign rfl) rfl ?_
  refine wl_nil ?_
  refine wc_seq ?_
  refine wc_region ?_
  refine wl (y_move rfl) rfl ?_
  refine wl (y_neq rfl rfl) rfl ?_
  refine wl_nil ?_
  refine wc_if rfl (fun hc11 => ?_) (fun hc11 => ?_)
  · try simp only [zq1, zq2, zq3, zq4, zq5, zq6, zq7] at hc11
    rw [if_neg (by omega)]
    refine wc_seq ?_
    refine wc_region ?_
    refine wl (y_move rfl) rfl ?_
    refine wl (y_assign rfl) rfl ?_
    refine wl (y_assign rfl) rfl ?_
    refine wl_nil ?_
    refine wc_ret ?_
    refine wret (vs := [_, _]) (.tmp rfl (.tmp rfl .nil)) ?_
    exact ⟨rfl, hS.keep⟩
  · try simp only [zq1, zq2, zq3, zq4, zq5, zq6, zq7] at hc11
    have hm : mayR r = 0 := by omega
    rw [if_pos hm]
    obtain ⟨m1, m2, m3, m4, m5, m6, m7⟩ := mayR_ok hm
    have hrl := rbytes_length hm
    obtain ⟨o, ho⟩ : ∃ o : Nat, r.o = o := ⟨r.o.toNat, by omega⟩
    obtain ⟨n, hn⟩ : ∃ n : Nat, r.n = n := ⟨r.n.toNat, by omega⟩
    have hrb : rbytes r = pput o ++ pput n ++ pput r.ups.length ++ r.ups.flatMap ubytes := by unfold rbytes; rw [ho, hn]; rfl
    rw [hrb] at hrl ⊢
    simp only [List.length_append] at hrl
    refine wc_skip ?_
    refine wc_seq ?_
    refine wc_region ?_
    refine a_alloc z_177 hS rfl fun b5 w hS => ?_
    refine wl_nil ?_
    have hb : IsW b5 [] false [(b5, .cells #[.pointer none, .slice none 0 0, .bool false] 177)] := ⟨none, _, _, .inl rfl, .nil, rfl⟩
    replace hS : St M w ([(b5, .cells #[.pointer none, .slice none 0 0, .bool false] 177)] :: _) := hS
    refine wc_seq ?_
    refine wc_region ?_
    refine wl (y_fld fl_48_0 rfl) rfl ?_
    refine wl ((y_load pl_3 rfl (hS.cell (v := .int .i64 r.o) rfl)).val (congrArg (Value.int .i64) ho)) rfl ?_
    refine wl_call (.cons rfl (.cons rfl .nil)) (wnum_c hG o (by omega) hb (by simp) hS) rfl ?_
    rintro _ w ⟨H1, hb, hS⟩
    refine wl_nil ?_
    refine wc_seq ?_
    refine wc_region ?_
    refine wl (y_fld fl_48_1 rfl) rfl ?_
    refine wl ((y_load pl_3 rfl (hS.cell (v := .int .i64 r.n) rfl)).val (congrArg (Value.int .i64) hn)) rfl ?_
    refine wl_call (.cons rfl (.cons rfl .nil)) (wnum_c hG n (by omega) hb (by simp only [List.length_append, List.length_nil]; omega) hS) rfl ?_
    rintro _ w ⟨H2, hb, hS⟩
    refine wl_nil ?_
    refine wc_seq ?_
    refine wc_region ?_
    refine wl (y_fld fl_48_2 rfl) rfl ?_
    refine wl (y_load pl_46 rfl (hS.cell (v := .slice sa r.ups.length sc) rfl)) rfl ?_
    refine wl (y_len_sl Tryz.underlying46 rfl) rfl ?_
    refine wl_call (.cons rfl (.cons rfl .nil)) (wnum_c hG r.ups.length (by omega) hb (by simp only [List.length_append, List.length_nil]; omega) hS) rfl ?_
    rintro _ w ⟨H3, hb, hS⟩
    rw [List.nil_append] at hb
    refine wl_nil ?_
    refine wc_seq ?_
    refine wc_seq ?_
    refine wc_region ?_
    refine wl (y_fld fl_48_2 rfl) rfl ?_
    refine wl (y_load pl_46 rfl (hS.cell (v := .slice sa r.ups.length sc) rfl)) rfl ?_
    refine wl (y_len_sl Tryz.underlying46 rfl) rfl ?_
    refine wl (y_move rfl) rfl ?_
    refine wl_nil ?_
    refine wc_block ?_
    refine wc_loop (α := Nat) (fun i => [(5, .pointer (some ⟨b5, 0, none⟩)), (24, .slice sa r.ups.length sc), (25, .int .i64 r.ups.length), (26, .int .i64 i)]) (fun i w => i ≤ r.ups.length ∧ ∃ H, IsW b5 (pput o ++ pput n ++ pput r.ups.length ++ (r.ups.take i).flatMap ubytes) false H ∧ St M w (H :: Ls)) (fun i => r.ups.length - i) 0 (sub_cons rfl (sub_cons rfl (sub_cons rfl (sub_cons rfl sub_nil)))) ⟨by omega, _, by simpa using hb, hS.keep⟩ ?_
    clear hS hb
    rintro i w ⟨hi, H, hb, hS⟩
    refine wc_seq ?_
    refine wc_region ?_
    refine wl (y_lss rfl rfl) rfl ?_
    refine wl_nil ?_
    refine wc_seq ?_
    refine wc_if rfl (fun hc27 => ?_) (fun hc27 => ?_)
    · try simp only [zq1, zq2, zq3, zq4, zq5, zq6, zq7] at hc27
      refine wc_skip ?_
      refine wc_seq ?_
      refine wc_block ?_
      refine wc_seq ?_
      have hi' : i < r.ups.length := by omega
      obtain ⟨u, hu⟩ : ∃ u, r.ups[i]? = some u := ⟨_, List.getElem?_eq_getElem hi'⟩
      have hut : (r.ups.take (i + 1)).flatMap ubytes = (r.ups.take i).flatMap ubytes ++ ubytes u := by rw [List.take_add_one, hu]; simp
      have hul := ups_length (l := r.ups.take i) fun x hx => m7 x (List.mem_of_mem_take hx)
      rw [List.length_take] at hul
      obtain ⟨bb, off, c', hse, hce⟩ := (hs.holds hS).at hu
      simp only [Value.slice.injEq] at hse
      have hSk := hS
      obtain ⟨rfl, _, rfl⟩ := hse
      replace hS := hSk
      refine wc_region ?_
      refine wl (y_ixa_sl Tryz.underlying46 sz_59 rfl rfl (by omega) (by omega)) rfl ?_
      refine wl (y_loadS st_59 sz_59 rfl (vs := encU.f u) hce rfl) rfl ?_
      refine a_alloc z_59 hS rfl fun b7 w hS => ?_
      refine a_storeS (vs := [_, _, _, _]) sz_59 rfl rfl rfl rfl hS (Nat.le_of_ble_eq_true rfl) fun w hS => ?_
      refine wl_nil ?_
      refine wc_region ?_
      refine wl (y_loadS st_59 sz_59 rfl (hS.cells (vs := [_, _, _, _]) rfl) rfl) rfl ?_
      refine wl_call (.cons rfl (.cons rfl .nil)) (uwrite_c hG u (m7 u (List.mem_of_getElem? hu)) hb (by simp only [List.length_append]; omega) (hS.pull H)) rfl ?_
      rintro _ w ⟨H', hb, hS⟩
      rw [List.append_assoc, ← hut] at hb
      refine wl_nil ?_
      refine wc_region ?_
      refine wl (y_add rfl rfl (w64 (by omega) (by omega))) rfl ?_
      refine wl (y_move rfl) rfl ?_
      refine wl_nil ?_
      exact ⟨i + 1, by omega, sub_cons rfl (sub_cons rfl (sub_cons rfl (sub_cons rfl sub_nil))), by omega, _, hb, hS.keep⟩
    · try simp only [zq1, zq2, zq3, zq4, zq5, zq6, zq7] at hc27
      obtain rfl : i = r.ups.length := by omega
      rw [List.take_length] at hb
      refine wc_exit ?_
      refine wc_seq ?_
      refine wc_region ?_
      refine wl_call (.cons rfl .nil) (wbytes_c hb (by simp only [List.length_append]; omega) hS) rfl ?_
      rintro _ w ⟨rfl, hS⟩
      refine wl (y_extract (vs := [_, _]) rfl rfl) rfl ?_
      refine wl (y_extract (vs := [_, _]) rfl rfl) rfl ?_
      refine wl (y_assign rfl) rfl ?_
      refine wl (y_assign rfl) rfl ?_
      refine wl_nil ?_
      refine wc_ret ?_
      refine wret (vs := [_, _]) (.tmp rfl (.tmp rfl .nil)) ?_
      exact ⟨rfl, hS.keep⟩

/-! ### Fits -/
@[irreducible] def fits (l : List Upd) (mtu : Int) : Bool := decide (mayR ⟨64, 1099511627776, l⟩ = 0 ∧ (64 ≤ mtu ∧ mtu ≤ 1400) ∧ ((rbytes ⟨64, 1099511627776, l⟩).length : Int) ≤ mtu - 40)
theorem fits_c (hG : Bits M) (l : List Upd) (mtu : Int) (s : Value) (hm : -9223372036854775000 ≤ mtu ∧ mtu ≤ 9223372036854775807) (hs : Rd M encU s l) (hS : St M w Ls) : CallsR Tryz.prog 113 [s, .int .i64 mtu].toArray w fun v w' => v = .bool (fits l mtu) ∧ St M w' Ls := by
  have hs0 := hs
  obtain ⟨sa, sc, rfl⟩ := (hs.holds hS).slice
  have hsz : (str (rbytes ⟨64, 1099511627776, l⟩)).size = (rbytes ⟨64, 1099511627776, l⟩).length := by simp [str, ByteArray.size]
  unfold fits
  by_cases hm0 : mayR ⟨64, 1099511627776, l⟩ = 0
  · have hv : rputV ⟨64, 1099511627776, l⟩ = .tuple [.string (str (rbytes ⟨64, 1099511627776, l⟩)), .int .i64 0].toArray := by unfold rputV; rw [if_pos hm0]
    refine calls_of (c := _) (rs := _) (n := 26) Tryz.func113 rfl rfl rfl rfl rfl ?_
    refine wc_seq ?_
    refine wc_region ?_
    refine wl (y_assign rfl) rfl ?_
    refine wl_nil ?_
    refine wc_seq ?_
    refine wc_region ?_
    refine wl (y_move rfl) rfl ?_
    refine wl (y_build (is := [0, 1, 2]) (xs := [_, _, _]) (out := [_, _, _]) plc_48 z_48 (.cons rfl (.cons rfl (.cons rfl .nil))) rfl) rfl ?_
    refine wl_call (.cons rfl .nil) (rput_c hG ⟨64, 1099511627776, l⟩ _ hs0 hS) rfl ?_
    rintro _ w ⟨rfl, hS⟩
    rw [hv]
    refine wl (y_move rfl) rfl ?_
    refine wl (y_extract (vs := [_, _]) rfl rfl) rfl ?_
    refine wl (y_extract (vs := [_, _]) rfl rfl) rfl ?_
    refine wl (y_assign rfl) rfl ?_
    refine wl (y_assign rfl) rfl ?_
    refine wl_nil ?_
    refine wc_seq ?_
    refine wc_region ?_
    refine wl (y_move rfl) rfl ?_
    refine wl ((y_eql rfl rfl).val (u := .bool true) (congrArg Value.bool (rfl))) rfl ?_
    refine wl (y_move rfl) rfl ?_
    refine wl_on rfl rfl ?_
    refine wl (y_move rfl) rfl ?_
    refine wl_on rfl rfl ?_
    refine wl_call (.cons rfl (.cons rfl (.cons rfl .nil))) (in_c mtu 64 1400 hS) rfl ?_
    rintro _ w ⟨rfl, hS⟩
    refine wl (y_pickT rfl rfl) rfl ?_
    refine wl (y_move rfl) rfl ?_
    refine wl_cases (s := 19) rfl (fun hg19 => ?_) (fun hg19 => ?_)
    · try simp only [zq1, zq2, zq3, zq4, zq5, zq6, zq7] at hg19
      refine wl_on rfl rfl ?_
      refine wl (y_move rfl) rfl ?_
      refine wl_on rfl rfl ?_
      refine wl (y_len_s Tryz.underlying9 rfl) rfl ?_
      refine wl_on rfl rfl ?_
      refine wl (y_move rfl) rfl ?_
      refine wl_on rfl rfl ?_
      refine wl (y_sub rfl rfl (w64 (by omega) (by omega))) rfl ?_
      refine wl_on rfl rfl ?_
      refine wl (y_leq rfl rfl) rfl ?_
      refine wl (y_pickT rfl rfl) rfl ?_
      refine wl (y_assign rfl) rfl ?_
      refine wl_nil ?_
      refine wc_ret ?_
      refine wret (vs := [_]) (.tmp rfl .nil) ?_
      first
      | exact ⟨congrArg Value.bool (decide_eq_decide.2 ⟨fun h => ⟨hm0, by omega, by omega⟩, fun h => by omega⟩), hS⟩
      | exact ⟨congrArg Value.bool (decide_eq_false (fun h => by omega)).symm, hS⟩
    · try simp only [zq1, zq2, zq3, zq4, zq5, zq6, zq7] at hg19
      refine wl_off rfl rfl rfl rfl ?_
      refine wl_off rfl rfl rfl rfl ?_
      refine wl_off rfl rfl rfl rfl ?_
      refine wl_off rfl rfl rfl rfl ?_
      refine wl_off rfl rfl rfl rfl ?_
      refine wl (y_pickF rfl rfl) rfl ?_
      refine wl (y_assign rfl) rfl ?_
      refine wl_nil ?_
      refine wc_ret ?_
      refine wret (vs := [_]) (.tmp rfl .nil) ?_
      first
      | exact ⟨congrArg Value.bool (decide_eq_decide.2 ⟨fun h => ⟨hm0, by omega, by omega⟩, fun h => by omega⟩), hS⟩
      | exact ⟨congrArg Value.bool (decide_eq_false (fun h => by omega)).symm, hS⟩
  · have hv : rputV ⟨64, 1099511627776, l⟩ = .tuple [.string ⟨#[]⟩, .int .i64 (mayR ⟨64, 1099511627776, l⟩)].toArray := by unfold rputV; rw [if_neg hm0]
    refine calls_of (c := _) (rs := _) (n := 26) Tryz.func113 rfl rfl rfl rfl rfl ?_
    refine wc_seq ?_
    refine wc_region ?_
    refine wl (y_assign rfl) rfl ?_
    refine wl_nil ?_
    refine wc_seq ?_
    refine wc_region ?_
    refine wl (y_move rfl) rfl ?_
    refine wl (y_build (is := [0, 1, 2]) (xs := [_, _, _]) (out := [_, _, _]) plc_48 z_48 (.cons rfl (.cons rfl (.cons rfl .nil))) rfl) rfl ?_
    refine wl_call (.cons rfl .nil) (rput_c hG ⟨64, 1099511627776, l⟩ _ hs0 hS) rfl ?_
    rintro _ w ⟨rfl, hS⟩
    rw [hv]
    refine wl (y_move rfl) rfl ?_
    refine wl (y_extract (vs := [_, _]) rfl rfl) rfl ?_
    refine wl (y_extract (vs := [_, _]) rfl rfl) rfl ?_
    refine wl (y_assign rfl) rfl ?_
    refine wl (y_assign rfl) rfl ?_
    refine wl_nil ?_
    refine wc_seq ?_
    refine wc_region ?_
    refine wl (y_move rfl) rfl ?_
    refine wl ((y_eql rfl rfl).val (u := .bool false) (congrArg Value.bool (decide_eq_false (by omega)))) rfl ?_
    refine wl (y_move rfl) rfl ?_
    refine wl_off rfl rfl rfl rfl ?_
    refine wl_off rfl rfl rfl rfl ?_
    refine wl (y_pickF rfl rfl) rfl ?_
    refine wl (y_move rfl) rfl ?_
    refine wl_off rfl rfl rfl rfl ?_
    refine wl_off rfl rfl rfl rfl ?_
    refine wl_off rfl rfl rfl rfl ?_
    refine wl_off rfl rfl rfl rfl ?_
    refine wl_off rfl rfl rfl rfl ?_
    refine wl (y_pickF rfl rfl) rfl ?_
    refine wl (y_assign rfl) rfl ?_
    refine wl_nil ?_
    refine wc_ret ?_
    refine wret (vs := [_]) (.tmp rfl .nil) ?_
    exact ⟨congrArg Value.bool (decide_eq_false (fun h => hm0 h.1)).symm, hS⟩

/-! ### copies -/
theorem clone_c (l : List Upd) (s : Value) (hl : l.length ≤ 137438953472) (hs : Rd M encU s l) (hS : St M w Ls) : CallsR Tryz.prog 160 [s].toArray w fun v w' => ∃ M', Mle M M' ∧ Rd M' encU v l ∧ St M' w' Ls := by
  obtain ⟨sa, sc, rfl⟩ := (hs.holds hS).slice
  refine calls_of (c := _) (rs := _) (n := 8) Tryz.func160 rfl rfl rfl rfl rfl ?_
  refine wc_seq ?_
  refine wc_region ?_
  refine wl (y_assign rfl) rfl ?_
  refine wl_nil ?_
  refine wc_seq ?_
  refine wc_seq ?_
  refine wc_region ?_
  refine wl (y_move rfl) rfl ?_
  refine wl (y_slnil Tryz.underlying46 rfl rfl) rfl ?_
  refine wl_nil ?_
  refine wc_if rfl (fun hc4 => ?_) (fun hc4 => ?_)
  · try simp only [zq1, zq2, zq3, zq4, zq5, zq6, zq7] at hc4
    have hnil : l = [] := by
      obtain ⟨a', c', he, hq⟩ := hs.holds hS
      simp only [Value.slice.injEq] at he
      obtain ⟨rfl, _, _⟩ := he
      rcases hq with hq | ⟨b, off, hq, _⟩
      · exact hq
      · rw [hq] at hc4; cases hc4
    subst hnil
    refine wc_seq ?_
    refine wc_region ?_
    refine wl (y_assign rfl) rfl ?_
    refine wl_nil ?_
    refine wc_ret ?_
    refine wret (vs := [_]) (.tmp rfl .nil) ?_
    first
    | exact ⟨M, Mle.refl _, Rd.nil, hS⟩
    | exact ⟨M', hM, hrd, hS.keep⟩
  · try simp only [zq1, zq2, zq3, zq4, zq5, zq6, zq7] at hc4
    refine wc_skip ?_
    refine wc_seq ?_
    refine wc_region ?_
    refine a_bslice encU [] (vs := []) (ps := []) Tryz.underlying46 sz_59 z_59 rfl .nil rfl rfl rfl (by decide) hS rfl fun u Hu w hou hS => ?_
    refine wl (y_move rfl) rfl ?_
    refine a_append Tryz.underlying46 Tryz.underlying46 sz_59 z_59 rfl by_59 (by decide) rfl rfl hou (hs.holds hS) hS (by simp; omega) rfl fun s1 H1 w ho1 hS => ?_
    obtain ⟨M', hM, hH, hS⟩ := hS.freeze
    have hrd := ho1.rd hH
    refine wl (y_assign rfl) rfl ?_
    refine wl_nil ?_
    refine wc_ret ?_
    refine wret (vs := [_]) (.tmp rfl .nil) ?_
    first
    | exact ⟨M, Mle.refl _, Rd.nil, hS⟩
    | exact ⟨M', hM, hrd, hS.keep⟩
theorem rcopy_c (r : Rnd) (s : Value) (hl : r.ups.length ≤ 137438953472) (hs : Rd M encU s r.ups) (hS : St M w Ls) : CallsR Tryz.prog 120 [rvS r s].toArray w fun v w' => ∃ M' s', v = rvS r s' ∧ Mle M M' ∧ Rd M' encU s' r.ups ∧ St M' w' Ls := by
  have hs0 := hs
  obtain ⟨sa, sc, rfl⟩ := (hs.holds hS).slice
  refine calls_of (c := _) (rs := _) (n := 8) Tryz.func120 rfl rfl rfl rfl rfl ?_
  refine wc_seq ?_
  refine wc_region ?_
  refine a_box rfl hS rfl fun b1 w hS => ?_
  refine a_alloc z_48 hS rfl fun b2 w hS => ?_
  refine wl_nil ?_
  refine wc_seq ?_
  refine wc_region ?_
  refine wl (y_fld fl_48_2 rfl) rfl ?_
  refine wl (y_load pl_46 rfl (hS.cell (v := .slice sa r.ups.length sc) rfl)) rfl ?_
  refine wl_call (.cons rfl .nil) (clone_c r.ups _ hl hs0 hS) rfl ?_
  rintro s' w ⟨M', hM, hs', hS⟩
  obtain ⟨sa', sc', rfl⟩ := (hs'.holds hS).slice
  refine wl (y_fld fl_48_2 rfl) rfl ?_
  refine a_store sz_46 rfl rfl rfl hS (Nat.le_of_ble_eq_true rfl) fun w hS => ?_
  refine wl_nil ?_
  refine wc_seq ?_
  refine wc_region ?_
  refine wl (y_loadS st_48 sz_48 rfl (hS.cells (vs := [_, _, _]) rfl) rfl) rfl ?_
  refine a_storeS (vs := [_, _, _]) sz_48 rfl rfl rfl rfl hS (Nat.le_of_ble_eq_true rfl) fun w hS => ?_
  refine wl_nil ?_
  refine wc_ret ?_
  refine wret (vs := [_]) (.cell rfl (loadVar_struct st_48 sz_48 (vs := [_, _, _]) rfl (hS.cells rfl)) .nil) ?_
  exact ⟨M', _, rfl, hM, hs', hS.keep⟩
end
end Go.Proofs.YtndahppmjdbifaaGreatDoor.Rou

set_option linter.unusedVariables false
set_option linter.unusedSimpArgs false
namespace Go.Proofs.YtndahppmjdbifaaGreatDoor.Rou
open Go Go.Proofs Go.Proofs.YtndahppmjdbifaaGreatDoor.Eng Go.Proofs.YtndahppmjdbifaaGreatDoor.Pre Go.Proofs.YtndahppmjdbifaaGreatDoor.Pak Go.Proofs.YtndahppmjdbifaaGreatDoor.Val

@[irreducible] def rsome (r : Rdr) (lim : Nat) : Nat × Rdr := ((rnum r lim).1, if (rnum r lim).1 = 0 then rfail (rnum r lim).2 1 else (rnum r lim).2)
def rups (r : Rdr) : Nat → List Upd × Rdr
  | 0 => ([], r)
  | k + 1 => ((rups r k).1 ++ [ruU (rups r k).2], ruR (rups r k).2)
theorem rsome_ok {r : Rdr} (h : r.ok) (lim : Nat) : (rsome r lim).2.ok ∧ (rsome r lim).1 ≤ lim := by
  have h1 := rnum_ok h lim
  unfold rsome
  simp only
  split
  · exact ⟨(rfail_ok h1.1 1).1, h1.2.1⟩
  · exact ⟨h1.1, h1.2.1⟩
theorem rups_ok {r : Rdr} (h : r.ok) : ∀ k, (rups r k).2.ok ∧ (rups r k).1.length = k
  | 0 => ⟨h, rfl⟩
  | k + 1 => by
    have := rups_ok h k
    simp only [rups]
    exact ⟨ruR_ok this.1, by simp [this.2]⟩
@[irreducible] def gr1 (b : ByteArray) : Nat × Rdr := rsome ⟨b, 0, 0⟩ 64
@[irreducible] def gr2 (b : ByteArray) : Nat × Rdr := rsome (gr1 b).2 1099511627776
@[irreducible] def gr3 (b : ByteArray) : Nat × Rdr := rsome (gr2 b).2 8
@[irreducible] def gr4 (b : ByteArray) : List Upd × Rdr := rups (gr3 b).2 (gr3 b).1
@[irreducible] def gre (b : ByteArray) : Nat := (rend (gr4 b).2).e
@[irreducible] def grr (b : ByteArray) : Rnd := if gre b = 0 then ⟨(gr1 b).1, (gr2 b).1, (gr4 b).1⟩ else ⟨0, 0, []⟩
theorem gr_ok (b : ByteArray) (hb : b.size ≤ 140737488351232) : (gr1 b).2.ok ∧ (gr2 b).2.ok ∧ (gr3 b).2.ok ∧ (gr3 b).1 ≤ 8 ∧ (gr4 b).2.ok := by
  have h0 : (⟨b, 0, 0⟩ : Rdr).ok := ⟨Nat.zero_le _, hb⟩
  have h1 : (gr1 b).2.ok := by unfold gr1; exact (rsome_ok h0 64).1
  have h2 : (gr2 b).2.ok := by unfold gr2; exact (rsome_ok h1 _).1
  have h3 : (gr3 b).2.ok ∧ (gr3 b).1 ≤ 8 := by unfold gr3; exact rsome_ok h2 8
  have h4 : (gr4 b).2.ok := by unfold gr4; exact (rups_ok h3.1 _).1
  exact ⟨h1, h2, h3.1, h3.2, h4⟩
section
variable {M : Mem} {w : World} {Ls : List Chunk}
theorem rsome_c (hG : Bits M) {p : Nat} {r : Rdr} (lim : Nat) (hlim : lim ≤ 1152921504606846976) (h : r.ok) (hS : St M w ([(p, rdrO r)] :: Ls)) :
    CallsR Tryz.prog 141 [.pointer (some ⟨p, 0, none⟩), .int .i64 lim].toArray w fun v w' => v = .int .i64 (rsome r lim).1 ∧ St M w' ([(p, rdrO (rsome r lim).2)] :: Ls) := by
  unfold rsome
  simp only
  refine calls_of (c := _) (rs := _) (n := 14) Tryz.func141 rfl rfl rfl rfl rfl ?_
  refine wc_seq ?_
  refine wc_region ?_
  refine wl (y_assign rfl) rfl ?_
  refine wl_nil ?_
  refine wc_seq ?_
  refine wc_region ?_
  refine wl (y_move rfl) rfl ?_
  refine wl (y_move rfl) rfl ?_
  refine wl_call (.cons rfl (.cons rfl .nil)) (rnum_c hG lim hlim h hS) rfl ?_
  rintro _ w ⟨rfl, hS⟩
  refine wl (y_assign rfl) rfl ?_
  refine wl_nil ?_
  refine wc_seq ?_
  refine wc_seq ?_
  refine wc_region ?_
  refine wl (y_move rfl) rfl ?_
  refine wl (y_eql rfl rfl) rfl ?_
  refine wl_nil ?_
  refine wc_if rfl (fun hc10 => ?_) (fun hc10 => ?_)
  · try simp only [zq1, zq2, zq3, zq4, zq5, zq6, zq7] at hc10
    rw [if_pos (by omega)]
    refine wc_region ?_
    refine wl (y_move rfl) rfl ?_
    refine wl_call (.cons rfl (.cons rfl .nil)) (rfail_c 1 hS) rfl ?_
    intro _ w hS
    refine wl_nil ?_
    refine wc_seq ?_
    refine wc_region ?_
    refine wl (y_move rfl) rfl ?_
    refine wl (y_assign rfl) rfl ?_
    refine wl_nil ?_
    refine wc_ret ?_
    refine wret (vs := [_]) (.tmp rfl .nil) ?_
    exact ⟨rfl, hS⟩
  · try simp only [zq1, zq2, zq3, zq4, zq5, zq6, zq7] at hc10
    rw [if_neg (by omega)]
    refine wc_skip ?_
    refine wc_seq ?_
    refine wc_region ?_
    refine wl (y_move rfl) rfl ?_
    refine wl (y_assign rfl) rfl ?_
    refine wl_nil ?_
    refine wc_ret ?_
    refine wret (vs := [_]) (.tmp rfl .nil) ?_
    exact ⟨rfl, hS⟩
theorem rget_c (hG : Bits M) (b : ByteArray) (hb : b.size ≤ 140737488351232) (hS : St M w Ls) :
    CallsR Tryz.prog 81 [.string b].toArray w fun v w' => ∃ M' s', v = .tuple [rvS (grr b) s', .int .i64 (gre b)].toArray ∧ Mle M M' ∧ Rd M' encU s' (grr b).ups ∧ St M' w' Ls := by
  obtain ⟨h1, h2, h3, h8, h4⟩ := gr_ok b hb
  have h0 : (⟨b, 0, 0⟩ : Rdr).ok := ⟨Nat.zero_le _, hb⟩
  have e1 : rsome ⟨b, 0, 0⟩ 64 = gr1 b := by unfold gr1; rfl
  have e2 : rsome (gr1 b).2 1099511627776 = gr2 b := by rw [gr2]
  have e3 : rsome (gr2 b).2 8 = gr3 b := by rw [gr3]
  have e4 : rups (gr3 b).2 (gr3 b).1 = gr4 b := by rw [gr4]
  have ee : (rend (gr4 b).2).e = gre b := by rw [gre]
  refine calls_of (c := _) (rs := _) (n := 33) Tryz.func81 rfl rfl rfl rfl rfl ?_
  refine wc_seq ?_
  refine wc_region ?_
  refine a_alloc z_48 hS rfl fun b2 w hS => ?_
  refine wl (y_assign rfl) rfl ?_
  refine wl_nil ?_
  refine wc_seq ?_
  refine wc_region ?_
  refine wl (y_move rfl) rfl ?_
  refine wl_call (.cons rfl .nil) (read_c b hS) rfl ?_
  rintro _ w ⟨p, rfl, hS⟩
  refine wl (y_assign rfl) rfl ?_
  refine wl_nil ?_
  refine wc_seq ?_
  refine wc_region ?_
  refine wl (y_move rfl) rfl ?_
  refine wl_call (.cons rfl (.cons rfl .nil)) (rsome_c hG 64 (by decide) h0 hS) rfl ?_
  rintro _ w ⟨rfl, hS⟩
  rw [e1] at hS ⊢
  refine wl (y_move rfl) rfl ?_
  refine wl_call (.cons rfl (.cons rfl .nil)) (rsome_c hG 1099511627776 (by decide) h1 hS) rfl ?_
  rintro _ w ⟨rfl, hS⟩
  rw [e2] at hS ⊢
  refine wl (y_build (is := [0, 1]) (xs := [_, _]) (out := [_, _, _]) plc_48 z_48 (.cons rfl (.cons rfl .nil)) rfl) rfl ?_
  refine a_alloc z_48 hS rfl fun b5 w hS => ?_
  refine a_storeS (vs := [_, _, _]) sz_48 rfl rfl rfl rfl hS (Nat.le_of_ble_eq_true rfl) fun w hS => ?_
  refine wl_nil ?_
  simp only [List.setIfInBounds_toArray, List.set_cons_zero, List.set_cons_succ, Nat.zero_add, Nat.add_zero, cells_agg, setCells] at hS
  refine wc_seq ?_
  refine wc_seq ?_
  refine wc_region ?_
  refine wl (y_move rfl) rfl ?_
  refine wl_call (.cons rfl (.cons rfl .nil)) (rsome_c hG 8 (by decide) h2 (hS.pull [(p, rdrO (gr2 b).2)])) rfl ?_
  rintro _ w ⟨rfl, hS⟩
  rw [e3] at hS ⊢
  refine wl (y_move rfl) rfl ?_
  refine wl_nil ?_
  refine wc_block ?_
  refine wc_loop (α := Nat × Value × Chunk) (fun ⟨i, s, H⟩ => [(2, .pointer (some ⟨b2, 0, none⟩)), (4, .pointer (some ⟨p, 0, none⟩)), (5, .pointer (some ⟨b5, 0, none⟩)), (15, .int .i64 (gr3 b).1), (16, .int .i64 i)]) (fun ⟨i, s, H⟩ w => i ≤ (gr3 b).1 ∧ Own 59 encU s (rups (gr3 b).2 i).1 H ∧ St M w (H :: [(p, rdrO (rups (gr3 b).2 i).2)] :: [(b5, .cells #[.int .i64 (gr1 b).1, .int .i64 (gr2 b).1, s] 48)] :: [(b2, .cells #[.int .i64 0, .int .i64 0, .slice none 0 0] 48)] :: Ls)) (fun ⟨i, _, _⟩ => (gr3 b).1 - i) (0, .slice none 0 0, []) (sub_cons rfl (sub_cons rfl (sub_cons rfl (sub_cons rfl (sub_cons rfl sub_nil))))) ⟨by omega, .nil, St.nil hS⟩ ?_
  clear hS
  rintro ⟨i, s, H⟩ w ⟨hi, ho, hS⟩
  obtain ⟨sa, sc, rfl⟩ := ho.slice
  obtain ⟨k4, k5⟩ := rups_ok h3 i
  refine wc_seq ?_
  refine wc_region ?_
  refine wl (y_lss rfl rfl) rfl ?_
  refine wl_nil ?_
  refine wc_seq ?_
  refine wc_if rfl (fun hc17 => ?_) (fun hc17 => ?_)
  · try simp only [zq1, zq2, zq3, zq4, zq5, zq6, zq7] at hc17
    refine wc_skip ?_
    refine wc_seq ?_
    refine wc_block ?_
    refine wc_draw (l0 := (lb 8 0)) (fun w => w.cell? ⟨b5, 2, none⟩ = some (.slice sa (rups (gr3 b).2 i).1.length sc)) [5, 7] wide_ rfl rfl fun w hw => ?_
    replace hS := hS.same hw; clear hw
    refine dr_pure (i := 0) (lb 8 1) rfl rfl (by kernel_rfl) (fun w => y_fld fl_48_2 rfl) ?_
    refine dr_pure (i := 2) (lb 8 5) rfl rfl (by kernel_rfl) (fun w => y_move rfl) ?_
    refine dr_read (i := 1) (lb 8 7) rfl rfl (by kernel_rfl) (hS.cell rfl) (fun w hS => y_load pl_46 rfl hS) ?_
    refine dr_do (i := 3) (lb 8 15) rfl (by kernel_rfl) ?_
    refine wl_call (.cons rfl .nil) (uread_c hG k4 (hS.pull [(p, rdrO (rups (gr3 b).2 i).2)])) rfl ?_
    rintro _ w ⟨rfl, hS⟩
    refine wl_nil ⟨fun _ _ => hS.cell rfl, ?_⟩
    refine dr_do (i := 4) (lb 8 31) rfl (by kernel_rfl) ?_
    refine a_bslice encU [ruU (rups (gr3 b).2 i).2] Tryz.underlying46 sz_59 z_59 rfl (.cons rfl .nil) rfl rfl rfl (by decide) hS rfl fun u Hu w hou hS => ?_
    refine wl_nil ⟨fun _ _ => hS.cell rfl, ?_⟩
    refine dr_do (i := 5) (lb 8 63) rfl (by kernel_rfl) ?_
    refine a_append Tryz.underlying46 Tryz.underlying46 sz_59 z_59 rfl by_59 (by decide) rfl rfl ho (hou.holds (hS.pull Hu)) hS (by simp; omega) rfl fun s1 H1 w ho1 hS => ?_
    obtain ⟨sa1, sc1, rfl⟩ := ho1.slice
    refine wl_nil ⟨fun h => absurd (by decide) h, ?_⟩
    refine dr_pure (i := 6) (lb 8 127) rfl rfl (by kernel_rfl) (fun w => y_fld fl_48_2 rfl) ?_
    refine dr_do (i := 7) (lb 8 255) rfl (by kernel_rfl) ?_
    refine a_store sz_46 rfl rfl rfl hS (Nat.le_of_ble_eq_true rfl) fun w hS => ?_
    refine wl_nil ⟨fun h => absurd (by decide) h, ?_⟩
    refine dr_done (by kernel_rfl) ?_
    simp only [List.setIfInBounds_toArray, List.set_cons_zero, List.set_cons_succ, Nat.zero_add, Nat.add_zero, cells_agg, setCells] at hS
    refine wc_region ?_
    refine wl (y_add rfl rfl (w64 (by omega) (by omega))) rfl ?_
    refine wl (y_move rfl) rfl ?_
    refine wl_nil ?_
    exact ⟨(i + 1, _, H1), by simp only; omega, sub_cons rfl (sub_cons rfl (sub_cons rfl (sub_cons rfl (sub_cons rfl sub_nil)))), by omega, ho1, (by have h := hS.keep (T := H1 :: [(p, rdrO (ruR (rups (gr3 b).2 i).2))] :: [(b5, .cells #[.int .i64 (gr1 b).1, .int .i64 (gr2 b).1, .slice sa1 ((rups (gr3 b).2 i).1 ++ [ruU (rups (gr3 b).2 i).2]).length sc1] 48)] :: [(b2, .cells #[.int .i64 0, .int .i64 0, .slice none 0 0] 48)] :: Ls); exact h)⟩
  · try simp only [zq1, zq2, zq3, zq4, zq5, zq6, zq7] at hc17
    obtain rfl : i = (gr3 b).1 := by omega
    rw [e4] at hS ho
    refine wc_exit ?_
    refine wc_seq ?_
    refine wc_seq ?_
    refine wc_region ?_
    refine wl (y_move rfl) rfl ?_
    refine wl_call (.cons rfl .nil) (rend_c (hS.pull [(p, rdrO (gr4 b).2)])) rfl ?_
    rintro _ w ⟨rfl, hS⟩
    rw [ee]
    obtain ⟨M', hM, hH, hS⟩ := (hS.pull H).freeze
    have hrd := ho.rd hH
    refine wl (y_assign rfl) rfl ?_
    refine wl_nil ?_
    refine wc_seq ?_
    refine wc_region ?_
    refine wl (y_move rfl) rfl ?_
    refine wl (y_neq rfl rfl) rfl ?_
    refine wl_nil ?_
    refine wc_if rfl (fun hc29 => ?_) (fun hc29 => ?_)
    · try simp only [zq1, zq2, zq3, zq4, zq5, zq6, zq7] at hc29
      have hg : grr b = ⟨0, 0, []⟩ := by unfold grr; rw [if_neg (by omega)]
      rw [hg]
      refine wc_seq ?_
      refine wc_region ?_
      refine wl (y_build (is := []) (xs := []) (out := [_, _, _]) plc_48 z_48 .nil rfl) rfl ?_
      refine wl (y_move rfl) rfl ?_
      refine a_storeS (vs := [_, _, _]) sz_48 rfl rfl rfl rfl hS (Nat.le_of_ble_eq_true rfl) fun w hS => ?_
      refine wl (y_assign rfl) rfl ?_
      refine wl_nil ?_
      refine wc_ret ?_
      refine wret (vs := [_, _]) (.cell rfl (loadVar_struct st_48 sz_48 (vs := [_, _, _]) rfl (hS.cells rfl)) (.tmp rfl .nil)) ?_
      first
      | exact ⟨M', _, rfl, hM, hrd, hS.keep⟩
      | exact ⟨M', _, rfl, hM, Rd.nil, hS.keep⟩
    · try simp only [zq1, zq2, zq3, zq4, zq5, zq6, zq7] at hc29
      have hg : grr b = ⟨(gr1 b).1, (gr2 b).1, (gr4 b).1⟩ := by unfold grr; rw [if_pos (by omega)]
      have hz : gre b = 0 := by omega
      rw [hg, hz]
      refine wc_skip ?_
      refine wc_seq ?_
      refine wc_region ?_
      refine wl (y_loadS st_48 sz_48 rfl (hS.cells (vs := [_, _, _]) rfl) rfl) rfl ?_
      refine a_storeS (vs := [_, _, _]) sz_48 rfl rfl rfl rfl hS (Nat.le_of_ble_eq_true rfl) fun w hS => ?_
      refine wl (y_assign rfl) rfl ?_
      refine wl_nil ?_
      refine wc_ret ?_
      refine wret (vs := [_, _]) (.cell rfl (loadVar_struct st_48 sz_48 (vs := [_, _, _]) rfl (hS.cells rfl)) (.tmp rfl .nil)) ?_
      first
      | exact ⟨M', _, rfl, hM, hrd, hS.keep⟩
      | exact ⟨M', _, rfl, hM, Rd.nil, hS.keep⟩
end
end Go.Proofs.YtndahppmjdbifaaGreatDoor.Rou

set_option linter.unusedVariables false
namespace Go.Proofs.YtndahppmjdbifaaGreatDoor.Crc

/-! ### the check sum, as a function -/
def cstep (x : BitVec 32) : BitVec 32 := if x &&& 1#32 = 1#32 then (x >>> 1) ^^^ 2197175160#32 else x >>> 1
def steps : Nat → BitVec 32 → BitVec 32
  | 0, x => x
  | k + 1, x => cstep (steps k x)
def ent (i : Nat) : BitVec 32 := steps 8 (BitVec.ofNat 32 i)
def cbyte (x : BitVec 32) (c : BitVec 8) : BitVec 32 := (x >>> 8) ^^^ ent (x.setWidth 8 ^^^ c).toNat
def crun (x : BitVec 32) (l : List UInt8) : BitVec 32 := l.foldl (fun x c => cbyte x c.toBitVec) x
def more (s : BitVec 32) (b : ByteArray) : BitVec 32 := ~~~ crun (~~~ s) b.data.toList
def sum (b : ByteArray) : BitVec 32 := more 0#32 b
theorem crun_append (x : BitVec 32) (l m : List UInt8) : crun x (l ++ m) = crun (crun x l) m := by simp [crun]
end Go.Proofs.YtndahppmjdbifaaGreatDoor.Crc

set_option linter.unusedVariables false
set_option linter.unusedSimpArgs false
namespace Go.Proofs.YtndahppmjdbifaaGreatDoor.Crc
open Go Go.Proofs Go.Proofs.YtndahppmjdbifaaGreatDoor.Eng

/-! crc.build -/
def tabTo (k : Nat) : List Value := (List.range 256).map fun i => .int .u32 (if i < k then ((ent i).toNat : Int) else 0)
theorem tabTo_length (k : Nat) : (tabTo k).length = 256 := by simp [tabTo]
theorem tabTo_zero : tabTo 0 = List.replicate 256 (.int .u32 0) := by
  apply List.ext_getElem
  · rw [tabTo_length, List.length_replicate]
  · intro i h1 h2
    simp only [tabTo, List.getElem_map, List.getElem_replicate, Nat.not_lt_zero, if_false]
theorem cstep_T (x : BitVec 32) (h : ((x &&& 1#32).toNat : Int) = 1) : cstep x = (x >>> 1) ^^^ 2197175160#32 := by
  have e : x &&& 1#32 = 1#32 := BitVec.eq_of_toNat_eq (by simp only [BitVec.toNat_ofNat]; omega)
  simp only [cstep, e, if_true]
theorem cstep_F (x : BitVec 32) (h : ¬ ((x &&& 1#32).toNat : Int) = 1) : cstep x = (x >>> 1) := by
  have e : ¬ x &&& 1#32 = 1#32 := fun e => h (by rw [e]; rfl)
  simp only [cstep, e, if_false]
theorem tabTo_set (k : Nat) (hk : k < 256) : (tabTo k).toArray.setIfInBounds k (.int .u32 ((ent k).toNat : Int)) = (tabTo (k + 1)).toArray := by
  apply Array.ext'
  apply List.ext_getElem?
  intro i
  simp only [List.setIfInBounds_toArray, List.getElem?_set, tabTo_length]
  by_cases h : k = i
  · subst h; simp [tabTo, hk, List.getElem?_map, List.getElem?_range hk]
  · simp only [h, if_false, tabTo, List.getElem?_map]
    by_cases hi : i < 256
    · simp only [List.getElem?_range hi, Option.map_some, Option.some.injEq, Value.int.injEq, true_and]
      by_cases h1 : i < k
      · simp [h1, Nat.lt_succ_of_lt h1]
      · have : ¬ i < k + 1 := by omega
        simp [h1, this]
    · simp [List.getElem?_eq_none (by simp; omega : (List.range 256).length ≤ i)]
def tableV : Value := .agg (tabTo 256).toArray

theorem build_c {M : Mem} {w : World} {Ls : List Chunk} (hS : St M w Ls) :
    CallsR Tryz.prog 203 [].toArray w fun v w' => v = tableV ∧ St M w' Ls := by
  refine calls_of (c := _) (rs := _) (n := 24) Tryz.func203 rfl rfl rfl rfl rfl ?_
  refine wc_seq ?_
  refine wc_region ?_
  refine a_alloc z_260 hS rfl fun b0 w hS => ?_
  refine wl_nil ?_
  refine wc_seq ?_
  refine wc_seq ?_
  refine wc_region ?_
  refine wl (y_move rfl) rfl ?_
  refine wl_nil ?_
  refine wc_block ?_
  refine wc_loop (α := Nat) (fun k => [(0, .pointer (some ⟨b0, 0, none⟩)), (3, .int .i64 k)]) (fun k w => k ≤ 256 ∧ St M w ([(b0, .cells (tabTo k).toArray 260)] :: Ls)) (fun k => 256 - k) 0 (sub_cons rfl (sub_cons rfl sub_nil)) ⟨by omega, by rw [tabTo_zero]; exact hS⟩ ?_
  rintro k w ⟨hk, hS⟩
  refine wc_seq ?_
  refine wc_region ?_
  refine wl (y_lss rfl rfl) rfl ?_
  refine wl_nil ?_
  refine wc_seq ?_
  refine wc_if rfl (fun hc4 => ?_) (fun hc4 => ?_)
  · try simp only [zq1, zq2, zq3, zq4, zq5, zq6, zq7] at hc4
    refine wc_skip ?_
    refine wc_seq ?_
    refine wc_block ?_
    refine wc_seq ?_
    refine wc_region ?_
    refine wl (y_move rfl) rfl ?_
    refine wl (y_assign rfl) rfl ?_
    refine wl_nil ?_
    refine wc_seq ?_
    refine wc_region ?_
    refine wl (y_move rfl) rfl ?_
    refine wl (y_conv Tryz.underlying3 Tryz.underlying228 rfl rfl) rfl ?_
    refine wl (y_assign rfl) rfl ?_
    refine wl_nil ?_
    refine wc_seq ?_
    refine wc_seq ?_
    refine wc_region ?_
    refine wl (y_move rfl) rfl ?_
    refine wl_nil ?_
    refine wc_block ?_
    refine wc_loop (α := Nat) (fun j => [(0, .pointer (some ⟨b0, 0, none⟩)), (3, .int .i64 k), (1, .int .i64 k), (2, .int .u32 ((steps j (BitVec.ofNat 32 k)).toNat : Int)), (8, .int .i64 j)]) (fun j w => j ≤ 8 ∧ St M w ([(b0, .cells (tabTo k).toArray 260)] :: Ls)) (fun j => 8 - j) 0 (sub_cons rfl (sub_cons rfl (sub_cons rfl (sub_cons rfl (sub_cons rfl sub_nil))))) ⟨by omega, hS⟩ ?_
    rintro j w ⟨hj, hS⟩
    refine wc_seq ?_
    refine wc_region ?_
    refine wl (y_lss rfl rfl) rfl ?_
    refine wl_nil ?_
    refine wc_seq ?_
    refine wc_if rfl (fun hc9 => ?_) (fun hc9 => ?_)
    · try simp only [zq1, zq2, zq3, zq4, zq5, zq6, zq7] at hc9
      refine wc_skip ?_
      refine wc_seq ?_
      refine wc_block ?_
      refine wc_seq ?_
      refine wc_region ?_
      refine wl (y_move rfl) rfl ?_
      refine wl (y_and rfl (bvc32 1) (bvand32 _ _)) rfl ?_
      refine wl (y_eql rfl rfl) rfl ?_
      refine wl_nil ?_
      refine wc_if rfl (fun hc12 => ?_) (fun hc12 => ?_)
      · try simp only [zq1, zq2, zq3, zq4, zq5, zq6, zq7] at hc12
        have e : steps (j + 1) (BitVec.ofNat 32 k) = _ := cstep_T _ hc12
        refine wc_region ?_
        refine wl (y_move rfl) rfl ?_
        refine wl (y_shr rfl rfl (by decide) (bvshr32 _ 1)) rfl ?_
        refine wl (y_xor rfl (bvc32 2197175160) (bvxor32 _ _)) rfl ?_
        refine wl (y_assign rfl) rfl ?_
        refine wl_nil ?_
        refine wc_region ?_
        refine wl (y_add rfl rfl (w64 (by omega) (by omega))) rfl ?_
        refine wl (y_move rfl) rfl ?_
        refine wl_nil ?_
        exact ⟨j + 1, by omega, sub_cons rfl (sub_cons rfl (sub_cons rfl (sub_cons (by rw [e]; rfl) (sub_cons rfl sub_nil)))), by omega, hS⟩
      · try simp only [zq1, zq2, zq3, zq4, zq5, zq6, zq7] at hc12
        have e : steps (j + 1) (BitVec.ofNat 32 k) = _ := cstep_F _ hc12
        refine wc_region ?_
        refine wl (y_move rfl) rfl ?_
        refine wl (y_shr rfl rfl (by decide) (bvshr32 _ 1)) rfl ?_
        refine wl (y_assign rfl) rfl ?_
        refine wl_nil ?_
        refine wc_region ?_
        refine wl (y_add rfl rfl (w64 (by omega) (by omega))) rfl ?_
        refine wl (y_move rfl) rfl ?_
        refine wl_nil ?_
        exact ⟨j + 1, by omega, sub_cons rfl (sub_cons rfl (sub_cons rfl (sub_cons (by rw [e]; rfl) (sub_cons rfl sub_nil)))), by omega, hS⟩
    · try simp only [zq1, zq2, zq3, zq4, zq5, zq6, zq7] at hc9
      refine wc_exit ?_
      refine wc_region ?_
      refine wl (y_move rfl) rfl ?_
      refine wl (y_move rfl) rfl ?_
      refine wl (y_ixa_ar Tryz.underlying260 sz_228 rfl rfl (by omega) (by omega)) rfl ?_
      obtain rfl : j = 8 := by omega
      refine a_store sz_228 rfl rfl rfl hS (by simp only [List.size_toArray, tabTo_length]; omega) fun w hS => ?_
      simp only [Nat.zero_add, Int.toNat_natCast, Nat.mul_one] at hS
      refine wl_nil ?_
      refine wc_region ?_
      refine wl (y_add rfl rfl (w64 (by omega) (by omega))) rfl ?_
      refine wl (y_move rfl) rfl ?_
      refine wl_nil ?_
      exact ⟨k + 1, by omega, sub_cons rfl (sub_cons rfl sub_nil), by omega, by rw [← tabTo_set k (by omega)]; exact hS⟩
  · try simp only [zq1, zq2, zq3, zq4, zq5, zq6, zq7] at hc4
    obtain rfl : k = 256 := by omega
    refine wc_exit ?_
    refine wc_seq ?_
    refine wc_region ?_
    refine wl (y_loadArr Tryz.underlying260 sz_260 rfl hS.all (tabTo_length 256)) rfl ?_
    refine a_storeS (vs := tabTo 256) sz_260 rfl rfl (by decide +kernel) (tabTo_length 256) hS (by simp [tabTo_length]) fun w hS => ?_
    rw [setCells_self] at hS
    refine wl_nil ?_
    refine wc_ret ?_
    refine wret (vs := [_]) (.cell rfl (loadVar_array Tryz.underlying260 sz_260 (tabTo_length 256) hS.all) .nil) ?_
    exact ⟨rfl, hS.drop⟩


theorem table_c {M : Mem} {w : World} {Ls : List Chunk} (hS : St M w Ls) :
    CallsR Tryz.prog 199 [].toArray w fun v w' => v = tableV ∧ St M w' Ls := by
  refine calls_of (c := _) (rs := _) (n := 2) Tryz.func199 rfl rfl rfl rfl rfl ?_
  refine wc_seq ?_
  refine wc_region ?_
  refine a_alloc z_260 hS rfl fun b0 w hS => ?_
  refine wl_nil ?_
  refine wc_seq ?_
  refine wc_region ?_
  refine wl_call .nil (build_c hS) rfl ?_
  rintro _ w ⟨rfl, hS⟩
  refine a_storeS (vs := tabTo 256) sz_260 rfl rfl (by decide +kernel) (tabTo_length 256) hS (by show _ ≤ (List.replicate 256 _).toArray.size; rw [List.size_toArray, List.length_replicate]; decide) fun w hS => ?_
  replace hS : St M w ([(b0, .cells (setCells (List.replicate 256 (.int .u32 0)).toArray 0 (tabTo 256)) 260)] :: Ls) := hS
  rw [setCells_whole _ _ (by rw [List.length_replicate, tabTo_length])] at hS
  refine wl_nil ?_
  refine wc_ret ?_
  refine wret (vs := [_]) (.cell rfl (loadVar_array Tryz.underlying260 sz_260 (tabTo_length 256) hS.all) .nil) ?_
  exact ⟨rfl, hS.drop⟩

theorem tabTo_at (x : BitVec 8) : (tabTo 256)[(x.toNat : Int).toNat]? = some (.int .u32 ((ent x.toNat).toNat : Int)) := by
  have h := x.isLt
  simp [tabTo, List.getElem?_map, List.getElem?_range h]
  exact fun h' => absurd h' (by omega)
theorem bget (b : ByteArray) (k : Nat) (h : k < b.size) : b[(k : Int).toNat]? = some b[k] := by
  simp [h]
theorem take_succ (b : ByteArray) (k : Nat) (h : k < b.size) : b.data.toList.take (k + 1) = b.data.toList.take k ++ [b[k]] := by
  rw [List.take_succ_eq_append_getElem (by simpa using h)]; rfl

theorem more_c {M : Mem} {w : World} {Ls : List Chunk} (s : BitVec 32) (b : ByteArray) (hb : b.size ≤ 140737488351232) (hS : St M w Ls) :
    CallsR Tryz.prog 189 [.int .u32 (s.toNat : Int), .string b].toArray w fun v w' => v = .int .u32 ((more s b).toNat : Int) ∧ St M w' Ls := by
  refine calls_of (c := _) (rs := _) (n := 28) Tryz.func189 rfl rfl rfl rfl rfl ?_
  refine wc_seq ?_
  refine wc_region ?_
  refine wl (y_assign rfl) rfl ?_
  refine wl_nil ?_
  refine wc_seq ?_
  refine wc_region ?_
  refine wl (y_move rfl) rfl ?_
  refine wl (y_compl rfl (bvnot32 _)) rfl ?_
  refine wl (y_assign rfl) rfl ?_
  refine wl_nil ?_
  refine wc_seq ?_
  refine wc_seq ?_
  refine wc_region ?_
  refine wl (y_move rfl) rfl ?_
  refine wl (y_len_s Tryz.underlying9 rfl) rfl ?_
  refine wl (y_move rfl) rfl ?_
  refine wl_nil ?_
  refine wc_block ?_
  refine wc_loop (α := Nat) (fun k => [(1, .string b), (10, .int .i64 b.size), (11, .int .i64 k), (5, .int .u32 ((crun (~~~ s) (b.data.toList.take k)).toNat : Int))]) (fun k w => k ≤ b.size ∧ St M w Ls) (fun k => b.size - k) 0 (sub_cons rfl (sub_cons rfl (sub_cons rfl (sub_cons rfl sub_nil)))) ⟨by omega, hS⟩ ?_
  rintro k w ⟨hk, hS⟩
  refine wc_seq ?_
  refine wc_region ?_
  refine wl (y_lss rfl rfl) rfl ?_
  refine wl_nil ?_
  refine wc_seq ?_
  refine wc_if rfl (fun hc12 => ?_) (fun hc12 => ?_)
  · try simp only [zq1, zq2, zq3, zq4, zq5, zq6, zq7] at hc12
    refine wc_skip ?_
    refine wc_seq ?_
    refine wc_block ?_
    refine wc_seq ?_
    refine wc_region ?_
    refine wl (y_move rfl) rfl ?_
    refine wl (y_assign rfl) rfl ?_
    refine wl_nil ?_
    have hk' : k < b.size := by omega
    have hidx := bget b k hk'
    have h8 := ((BitVec.setWidth 8 (crun (~~~ s) (b.data.toList.take k))) ^^^ b[k].toBitVec).isLt
    have hcr : crun (~~~ s) (b.data.toList.take (k + 1)) = _ := (congrArg (crun (~~~ s)) (take_succ b k hk')).trans (crun_append _ _ _)
    refine wc_draw (l0 := (lb 12 0)) (fun _ => True) [] wide_ rfl rfl fun w hw => ?_
    replace hS := hS.same hw; clear hw
    refine dr_pure (i := 0) (lb 12 1) rfl rfl (by kernel_rfl) (fun w => y_move rfl) ?_
    refine dr_pure (i := 1) (lb 12 3) rfl rfl (by kernel_rfl) (fun w => y_shr rfl rfl (by decide) (bvshr32 _ 8)) ?_
    refine dr_pure (i := 3) (lb 12 11) rfl rfl (by kernel_rfl) (fun w => y_move rfl) ?_
    refine dr_pure (i := 4) (lb 12 27) rfl rfl (by kernel_rfl) (fun w => y_conv Tryz.underlying228 Tryz.underlying5 rfl (bvconv_u32_u8 _)) ?_
    refine dr_pure (i := 5) (lb 12 59) rfl rfl (by kernel_rfl) (fun w => y_move rfl) ?_
    refine dr_pure (i := 6) (lb 12 123) rfl rfl (by kernel_rfl) (fun w => y_move rfl) ?_
    refine dr_pure (i := 7) (lb 12 251) rfl rfl (by kernel_rfl) (fun w => y_idx_s Tryz.underlying9 rfl rfl (by omega) hidx) ?_
    refine dr_pure (i := 8) (lb 12 507) rfl rfl (by kernel_rfl) (fun w => y_xor rfl rfl (bvxor8 _ _)) ?_
    refine dr_do (i := 2) (lb 12 511) rfl (by kernel_rfl) ?_
    refine wl_call .nil (table_c hS) rfl ?_
    rintro _ w ⟨rfl, hS⟩
    refine wl_nil ⟨fun _ _ => trivial, ?_⟩
    refine dr_pure (i := 9) (lb 12 1023) rfl rfl (by kernel_rfl) (fun w => y_idx_ar Tryz.underlying260 pl_228 sz_228 rfl rfl (by omega) (by omega) (tabTo_at _)) ?_
    refine dr_pure (i := 10) (lb 12 2047) rfl rfl (by kernel_rfl) (fun w => y_xor rfl rfl (bvxor32 _ _)) ?_
    refine dr_pure (i := 11) (lb 12 4095) rfl rfl (by kernel_rfl) (fun w => y_assign rfl) ?_
    refine dr_done (by kernel_rfl) ?_
    refine wc_region ?_
    refine wl (y_add rfl rfl (w64 (by omega) (by omega))) rfl ?_
    refine wl (y_move rfl) rfl ?_
    refine wl_nil ?_
    exact ⟨k + 1, by omega, sub_cons rfl (sub_cons rfl (sub_cons rfl (sub_cons (by rw [hcr]; rfl) sub_nil))), by omega, hS⟩
  · try simp only [zq1, zq2, zq3, zq4, zq5, zq6, zq7] at hc12
    obtain rfl : k = b.size := by omega
    have hcr : b.data.toList.take b.size = b.data.toList := List.take_of_length_le (by simp)
    refine wc_exit ?_
    refine wc_seq ?_
    refine wc_region ?_
    refine wl (y_move rfl) rfl ?_
    refine wl (y_compl rfl (bvnot32 _)) rfl ?_
    refine wl (y_assign rfl) rfl ?_
    refine wl_nil ?_
    refine wc_ret ?_
    refine wret (vs := [_]) (.tmp rfl .nil) ?_
    exact ⟨by rw [hcr]; rfl, hS⟩

theorem sum_c {M : Mem} {w : World} {Ls : List Chunk} (b : ByteArray) (hb : b.size ≤ 140737488351232) (hS : St M w Ls) :
    CallsR Tryz.prog 166 [.string b].toArray w fun v w' => v = .int .u32 ((sum b).toNat : Int) ∧ St M w' Ls := by
  refine calls_of (c := _) (rs := _) (n := 5) Tryz.func166 rfl rfl rfl rfl rfl ?_
  refine wc_seq ?_
  refine wc_region ?_
  refine wl (y_assign rfl) rfl ?_
  refine wl_nil ?_
  refine wc_seq ?_
  refine wc_region ?_
  refine wl (y_move rfl) rfl ?_
  refine wl_call (.cons rfl (.cons rfl .nil)) (more_c 0#32 b hb hS) rfl ?_
  rintro _ w ⟨rfl, hS⟩
  refine wl (y_assign rfl) rfl ?_
  refine wl_nil ?_
  refine wc_ret ?_
  refine wret (vs := [_]) (.tmp rfl .nil) ?_
  exact ⟨rfl, hS⟩


/-- a sum's bytes -/
def le4 (x : BitVec 32) : List UInt8 := [⟨x.setWidth 8⟩, ⟨(x >>> 8).setWidth 8⟩, ⟨(x >>> 16).setWidth 8⟩, ⟨(x >>> 24).setWidth 8⟩]
def seal_ (b : ByteArray) : ByteArray := ⟨(b.data.toList ++ le4 (sum b)).toArray⟩
theorem append_mk (b : ByteArray) (l : List UInt8) : b ++ (⟨l.toArray⟩ : ByteArray) = ⟨(b.data.toList ++ l).toArray⟩ := by
  apply bytes_eq; simp

theorem bytes_c {M : Mem} {w : World} {Ls : List Chunk} (x : BitVec 32) (hS : St M w Ls) :
    CallsR Tryz.prog 165 [.int .u32 (x.toNat : Int)].toArray w fun v w' => v = .string ⟨(le4 x).toArray⟩ ∧ St M w' Ls := by
  refine calls_of (c := _) (rs := _) (n := 16) Tryz.func165 rfl rfl rfl rfl rfl ?_
  refine wc_seq ?_
  refine wc_region ?_
  refine wl (y_assign rfl) rfl ?_
  refine wl_nil ?_
  refine wc_seq ?_
  refine wc_region ?_
  refine wl (y_move rfl) rfl ?_
  refine wl (y_conv Tryz.underlying228 Tryz.underlying5 rfl (bvconv_u32_u8 _)) rfl ?_
  refine wl (y_move rfl) rfl ?_
  refine wl (y_shr rfl rfl (by decide) (bvshr32 _ 8)) rfl ?_
  refine wl (y_conv Tryz.underlying228 Tryz.underlying5 rfl (bvconv_u32_u8 _)) rfl ?_
  refine wl (y_move rfl) rfl ?_
  refine wl (y_shr rfl rfl (by decide) (bvshr32 _ 16)) rfl ?_
  refine wl (y_conv Tryz.underlying228 Tryz.underlying5 rfl (bvconv_u32_u8 _)) rfl ?_
  refine wl (y_move rfl) rfl ?_
  refine wl (y_shr rfl rfl (by decide) (bvshr32 _ 24)) rfl ?_
  refine wl (y_conv Tryz.underlying228 Tryz.underlying5 rfl (bvconv_u32_u8 _)) rfl ?_
  refine a_bslice encB (le4 x) (vs := [_, _, _, _]) (ps := [(0, .tmp 4), (1, .tmp 7), (2, .tmp 10), (3, .tmp 13)]) Tryz.underlying173 sz_5 z_5 rfl (.cons rfl (.cons rfl (.cons rfl (.cons rfl .nil)))) rfl rfl rfl (by decide) hS rfl fun s H w ho hS => ?_
  refine wl (y_b2sh Tryz.underlying173 Tryz.underlying9 Tryz.underlying5 rfl (ho.holds hS)) rfl ?_
  refine wl (y_assign rfl) rfl ?_
  refine wl_nil ?_
  refine wc_ret ?_
  refine wret (vs := [_]) (.tmp rfl .nil) ?_
  exact ⟨rfl, hS.drop⟩

theorem seal_c {M : Mem} {w : World} {Ls : List Chunk} (b : ByteArray) (hb : b.size ≤ 140737488351232) (hS : St M w Ls) :
    CallsR Tryz.prog 130 [.string b].toArray w fun v w' => v = .string (seal_ b) ∧ St M w' Ls := by
  refine calls_of (c := _) (rs := _) (n := 8) Tryz.func130 rfl rfl rfl rfl rfl ?_
  refine wc_seq ?_
  refine wc_region ?_
  refine wl (y_assign rfl) rfl ?_
  refine wl_nil ?_
  refine wc_seq ?_
  refine wc_region ?_
  refine wl (y_move rfl) rfl ?_
  refine wl (y_move rfl) rfl ?_
  refine wl_call (.cons rfl .nil) (sum_c b hb hS) rfl ?_
  rintro _ w ⟨rfl, hS⟩
  refine wl_call (.cons rfl .nil) (bytes_c _ hS) rfl ?_
  rintro _ w ⟨rfl, hS⟩
  refine wl (y_sadd rfl rfl (by simp only [ByteArray.size, List.size_toArray, le4, List.length_cons, List.length_nil] at *; omega)) rfl ?_
  refine wl (y_assign rfl) rfl ?_
  refine wl_nil ?_
  refine wc_ret ?_
  refine wret (vs := [_]) (.tmp rfl .nil) ?_
  exact ⟨by rw [append_mk]; rfl, hS⟩

/-- what was sealed -/
def open_ (b : ByteArray) : Option ByteArray :=
  if b.size < 4 then none else if seal_ (b.extract 0 (b.size - 4)) = b then some (b.extract 0 (b.size - 4)) else none
def openV : Option ByteArray → Value
  | none => .tuple #[.string ByteArray.empty, .bool false]
  | some s => .tuple #[.string s, .bool true]

theorem open_c {M : Mem} {w : World} {Ls : List Chunk} (b : ByteArray) (hb : b.size ≤ 140737488351232) (hS : St M w Ls) :
    CallsR Tryz.prog 64 [.string b].toArray w fun v w' => v = openV (open_ b) ∧ St M w' Ls := by
  refine calls_of (c := _) (rs := _) (n := 21) Tryz.func64 rfl rfl rfl rfl rfl ?_
  refine wc_seq ?_
  refine wc_region ?_
  refine wl (y_assign rfl) rfl ?_
  refine wl (y_assign rfl) rfl ?_
  refine wl_nil ?_
  refine wc_seq ?_
  refine wc_region ?_
  refine wl (y_move rfl) rfl ?_
  refine wl (y_len_s Tryz.underlying9 rfl) rfl ?_
  refine wl (y_sub rfl rfl (w64 (by omega) (by omega))) rfl ?_
  refine wl (y_assign rfl) rfl ?_
  refine wl_nil ?_
  refine wc_seq ?_
  refine wc_seq ?_
  refine wc_region ?_
  refine wl (y_move rfl) rfl ?_
  refine wl (y_lss rfl rfl) rfl ?_
  refine wl (y_move rfl) rfl ?_
  refine wl_cases (s := 10) rfl (fun hg10 => ?_) (fun hg10 => ?_)
  · try simp only [zq1, zq2, zq3, zq4, zq5, zq6, zq7] at hg10
    refine wl_off rfl rfl rfl rfl ?_
    refine wl_off rfl rfl rfl rfl ?_
    refine wl_off rfl rfl rfl rfl ?_
    refine wl_off rfl rfl rfl rfl ?_
    refine wl_off rfl rfl rfl rfl ?_
    refine wl_off rfl rfl rfl rfl ?_
    refine wl (y_pickT rfl rfl) rfl ?_
    refine wl_nil ?_
    refine wc_ifT rfl rfl ?_
    refine wc_seq ?_
    refine wc_region ?_
    refine wl (y_assign rfl) rfl ?_
    refine wl (y_assign rfl) rfl ?_
    refine wl_nil ?_
    refine wc_ret ?_
    refine wret (vs := [_, _]) (.tmp rfl (.tmp rfl .nil)) ?_
    refine ⟨?_, hS⟩
    unfold open_
    first
    | (rw [if_pos (by omega)]; rfl)
    | (rw [if_neg (by omega), if_neg hc17]; rfl)
    | (rw [if_neg (by omega), if_pos hc17]; rfl)
  · try simp only [zq1, zq2, zq3, zq4, zq5, zq6, zq7] at hg10
    have e4 : ((b.size : Int) - 4).toNat = b.size - 4 := by omega
    refine wl_on rfl rfl ?_
    refine wl (y_move rfl) rfl ?_
    refine wl_on rfl rfl ?_
    refine wl (y_move rfl) rfl ?_
    refine wl_on rfl rfl ?_
    refine wl (y_sl_s Tryz.underlying9 rfl (lv := 0) rfl ⟨_, _, rfl, by omega, e4⟩ (by omega) (by omega) rfl) rfl ?_
    refine wl_on rfl rfl ?_
    refine wl_call (.cons rfl .nil) (seal_c _ (by rw [ByteArray.size_extract]; omega) hS) rfl ?_
    rintro _ w ⟨rfl, hS⟩
    refine wl_on rfl rfl ?_
    refine wl (y_move rfl) rfl ?_
    refine wl_on rfl rfl ?_
    refine wl (y_sneq rfl rfl) rfl ?_
    refine wl (y_pickF rfl rfl) rfl ?_
    refine wl_nil ?_
    refine wc_if rfl (fun hc17 => ?_) (fun hc17 => ?_)
    · try simp only [zq1, zq2, zq3, zq4, zq5, zq6, zq7] at hc17
      refine wc_seq ?_
      refine wc_region ?_
      refine wl (y_assign rfl) rfl ?_
      refine wl (y_assign rfl) rfl ?_
      refine wl_nil ?_
      refine wc_ret ?_
      refine wret (vs := [_, _]) (.tmp rfl (.tmp rfl .nil)) ?_
      refine ⟨?_, hS⟩
      unfold open_
      first
      | (rw [if_pos (by omega)]; rfl)
      | (rw [if_neg (by omega), if_neg hc17]; rfl)
      | (rw [if_neg (by omega), if_pos hc17]; rfl)
    · try simp only [zq1, zq2, zq3, zq4, zq5, zq6, zq7] at hc17
      refine wc_skip ?_
      refine wc_seq ?_
      refine wc_region ?_
      refine wl (y_move rfl) rfl ?_
      refine wl (y_move rfl) rfl ?_
      refine wl (y_sl_s Tryz.underlying9 rfl (lv := 0) rfl ⟨_, _, rfl, by omega, e4⟩ (by omega) (by omega) rfl) rfl ?_
      refine wl (y_assign rfl) rfl ?_
      refine wl (y_assign rfl) rfl ?_
      refine wl_nil ?_
      refine wc_ret ?_
      refine wret (vs := [_, _]) (.tmp rfl (.tmp rfl .nil)) ?_
      refine ⟨?_, hS⟩
      unfold open_
      first
      | (rw [if_pos (by omega)]; rfl)
      | (rw [if_neg (by omega), if_neg hc17]; rfl)
      | (rw [if_neg (by omega), if_pos hc17]; rfl)

end Go.Proofs.YtndahppmjdbifaaGreatDoor.Crc

set_option linter.unusedVariables false
set_option linter.unusedSimpArgs false
namespace Go.Proofs.YtndahppmjdbifaaGreatDoor.Crc
open Go Go.Proofs Go.Proofs.YtndahppmjdbifaaGreatDoor.Eng

/-! the reference's functions -/
def rstep (x bit : BitVec 32) : BitVec 32 := if x % 2#32 = bit then x / 2#32 else (x / 2#32) ^^^ 2197175160#32
def rbits : Nat → BitVec 32 → BitVec 32 → BitVec 32
  | 0, x, _ => x
  | k + 1, x, c => rstep (rbits k x c) ((c >>> k) % 2#32)
def rrun (x : BitVec 32) (l : List UInt8) : BitVec 32 := l.foldl (fun x c => rbits 8 x (c.toBitVec.setWidth 32)) x
theorem rrun_append (x : BitVec 32) (l m : List UInt8) : rrun x (l ++ m) = rrun (rrun x l) m := by simp [rrun]
theorem shr_succ (c : BitVec 32) (k : Nat) : (c >>> k) / 2#32 = c >>> (k + 1) := by
  apply BitVec.eq_of_toNat_eq
  simp [BitVec.toNat_udiv, BitVec.toNat_ushiftRight, Nat.shiftRight_eq_div_pow, Nat.div_div_eq_div_mul, Nat.pow_succ]

theorem rstep_c {M : Mem} {w : World} {Ls : List Chunk} (x bit : BitVec 32) (hS : St M w Ls) :
    CallsR Tryz.prog 200 [.int .u32 (x.toNat : Int), .int .u32 (bit.toNat : Int)].toArray w fun v w' => v = .int .u32 ((rstep x bit).toNat : Int) ∧ St M w' Ls := by
  refine calls_of (c := _) (rs := _) (n := 16) Tryz.func200 rfl rfl rfl rfl rfl ?_
  refine wc_seq ?_
  refine wc_region ?_
  refine wl (y_assign rfl) rfl ?_
  refine wl_nil ?_
  refine wc_seq ?_
  refine wc_region ?_
  refine wl (y_move rfl) rfl ?_
  refine wl (y_rem rfl rfl (by decide) (bvrem32 _ 2)) rfl ?_
  refine wl (y_assign rfl) rfl ?_
  refine wl_nil ?_
  refine wc_seq ?_
  refine wc_region ?_
  refine wl (y_move rfl) rfl ?_
  refine wl (y_quo rfl rfl (by decide) (bvquo32 _ 2)) rfl ?_
  refine wl (y_assign rfl) rfl ?_
  refine wl_nil ?_
  refine wc_seq ?_
  refine wc_seq ?_
  refine wc_region ?_
  refine wl (y_move rfl) rfl ?_
  refine wl (y_move rfl) rfl ?_
  refine wl (y_neq rfl rfl) rfl ?_
  simp only [bv_eq]
  refine wl_nil ?_
  refine wc_if rfl (fun hc12 => ?_) (fun hc12 => ?_)
  · try simp only [zq1, zq2, zq3, zq4, zq5, zq6, zq7] at hc12
    refine wc_region ?_
    refine wl (y_move rfl) rfl ?_
    refine wl (y_xor rfl (bvc32 2197175160) (bvxor32 _ _)) rfl ?_
    refine wl (y_assign rfl) rfl ?_
    refine wl_nil ?_
    refine wc_seq ?_
    refine wc_region ?_
    refine wl (y_move rfl) rfl ?_
    refine wl (y_assign rfl) rfl ?_
    refine wl_nil ?_
    refine wc_ret ?_
    refine wret (vs := [_]) (.tmp rfl .nil) ?_
    refine ⟨?_, hS⟩
    unfold rstep
    first | (rw [if_neg (by simpa using hc12)]; rfl) | (rw [if_pos (by simpa using hc12)]; rfl)
  · try simp only [zq1, zq2, zq3, zq4, zq5, zq6, zq7] at hc12
    refine wc_skip ?_
    refine wc_seq ?_
    refine wc_region ?_
    refine wl (y_move rfl) rfl ?_
    refine wl (y_assign rfl) rfl ?_
    refine wl_nil ?_
    refine wc_ret ?_
    refine wret (vs := [_]) (.tmp rfl .nil) ?_
    refine ⟨?_, hS⟩
    unfold rstep
    first | (rw [if_neg (by simpa using hc12)]; rfl) | (rw [if_pos (by simpa using hc12)]; rfl)

theorem rrun_c {M : Mem} {w : World} {Ls : List Chunk} (x : BitVec 32) (b : ByteArray) (hb : b.size ≤ 140737488351232) (hS : St M w Ls) :
    CallsR Tryz.prog 191 [.int .u32 (x.toNat : Int), .string b].toArray w fun v w' => v = .int .u32 ((rrun x b.data.toList).toNat : Int) ∧ St M w' Ls := by
  refine calls_of (c := _) (rs := _) (n := 29) Tryz.func191 rfl rfl rfl rfl rfl ?_
  refine wc_seq ?_
  refine wc_region ?_
  refine wl (y_assign rfl) rfl ?_
  refine wl_nil ?_
  refine wc_seq ?_
  refine wc_seq ?_
  refine wc_region ?_
  refine wl (y_assign rfl) rfl ?_
  refine wl_nil ?_
  refine wc_block ?_
  refine wc_loop (α := Nat) (fun k => [(1, .string b), (5, .int .i64 k), (0, .int .u32 ((rrun x (b.data.toList.take k)).toNat : Int))]) (fun k w => k ≤ b.size ∧ St M w Ls) (fun k => b.size - k) 0 (sub_cons rfl (sub_cons rfl (sub_cons rfl sub_nil))) ⟨by omega, hS⟩ ?_
  rintro k w ⟨hk, hS⟩
  refine wc_seq ?_
  refine wc_seq ?_
  refine wc_region ?_
  refine wl (y_move rfl) rfl ?_
  refine wl (y_move rfl) rfl ?_
  refine wl (y_len_s Tryz.underlying9 rfl) rfl ?_
  refine wl (y_lss rfl rfl) rfl ?_
  refine wl_nil ?_
  refine wc_if rfl (fun hc11 => ?_) (fun hc11 => ?_)
  · try simp only [zq1, zq2, zq3, zq4, zq5, zq6, zq7] at hc11
    have hk' : k < b.size := by omega
    have hidx := bget b k hk'
    have hcr : rrun x (b.data.toList.take (k + 1)) = _ := (congrArg (rrun x) (take_succ b k hk')).trans (rrun_append _ _ _)
    refine wc_skip ?_
    refine wc_seq ?_
    refine wc_block ?_
    refine wc_seq ?_
    refine wc_region ?_
    refine wl (y_move rfl) rfl ?_
    refine wl (y_move rfl) rfl ?_
    refine wl (y_idx_s Tryz.underlying9 rfl rfl (by omega) hidx) rfl ?_
    refine wl (y_conv Tryz.underlying5 Tryz.underlying228 rfl (bvconv_u8_u32 _)) rfl ?_
    refine wl (y_assign rfl) rfl ?_
    refine wl_nil ?_
    refine wc_seq ?_
    refine wc_region ?_
    refine wl (y_assign rfl) rfl ?_
    refine wl_nil ?_
    refine wc_block ?_
    refine wc_loop (α := Nat) (fun j => [(1, .string b), (5, .int .i64 k), (0, .int .u32 ((rbits j (rrun x (b.data.toList.take k)) (b[k].toBitVec.setWidth 32)).toNat : Int)), (6, .int .u32 (((b[k].toBitVec.setWidth 32) >>> j).toNat : Int)), (7, .int .i64 j)]) (fun j w => j ≤ 8 ∧ St M w Ls) (fun j => 8 - j) 0 (sub_cons rfl (sub_cons rfl (sub_cons rfl (sub_cons rfl (sub_cons rfl sub_nil))))) ⟨by omega, hS⟩ ?_
    rintro j w ⟨hj, hS⟩
    refine wc_seq ?_
    refine wc_seq ?_
    refine wc_region ?_
    refine wl (y_move rfl) rfl ?_
    refine wl (y_lss rfl rfl) rfl ?_
    refine wl_nil ?_
    refine wc_if rfl (fun hc19 => ?_) (fun hc19 => ?_)
    · try simp only [zq1, zq2, zq3, zq4, zq5, zq6, zq7] at hc19
      refine wc_skip ?_
      refine wc_seq ?_
      refine wc_block ?_
      refine wc_seq ?_
      refine wc_region ?_
      refine wl (y_move rfl) rfl ?_
      refine wl (y_move rfl) rfl ?_
      refine wl (y_rem rfl rfl (by decide) (bvrem32 _ 2)) rfl ?_
      refine wl_call (.cons rfl (.cons rfl .nil)) (rstep_c _ _ hS) rfl ?_
      rintro _ w ⟨rfl, hS⟩
      refine wl (y_assign rfl) rfl ?_
      refine wl_nil ?_
      refine wc_region ?_
      refine wl (y_move rfl) rfl ?_
      refine wl (y_quo rfl rfl (by decide) (bvquo32 _ 2)) rfl ?_
      refine wl (y_assign rfl) rfl ?_
      refine wl_nil ?_
      refine wc_region ?_
      refine wl (y_move rfl) rfl ?_
      refine wl (y_add rfl rfl (w64 (by omega) (by omega))) rfl ?_
      refine wl (y_assign rfl) rfl ?_
      refine wl_nil ?_
      exact ⟨j + 1, by omega, sub_cons rfl (sub_cons rfl (sub_cons rfl (sub_cons (by rw [← shr_succ]; rfl) (sub_cons rfl sub_nil)))), by omega, hS⟩
    · try simp only [zq1, zq2, zq3, zq4, zq5, zq6, zq7] at hc19
      obtain rfl : j = 8 := by omega
      refine wc_exit ?_
      refine wc_region ?_
      refine wl (y_move rfl) rfl ?_
      refine wl (y_add rfl rfl (w64 (by omega) (by omega))) rfl ?_
      refine wl (y_assign rfl) rfl ?_
      refine wl_nil ?_
      exact ⟨k + 1, by omega, sub_cons rfl (sub_cons rfl (sub_cons (by rw [hcr]; rfl) sub_nil)), by omega, hS⟩
  · try simp only [zq1, zq2, zq3, zq4, zq5, zq6, zq7] at hc11
    obtain rfl : k = b.size := by omega
    have hcr : b.data.toList.take b.size = b.data.toList := List.take_of_length_le (by simp)
    refine wc_exit ?_
    refine wc_seq ?_
    refine wc_region ?_
    refine wl (y_move rfl) rfl ?_
    refine wl (y_assign rfl) rfl ?_
    refine wl_nil ?_
    refine wc_ret ?_
    refine wret (vs := [_]) (.tmp rfl .nil) ?_
    exact ⟨by rw [hcr]; rfl, hS⟩

def rsum (b : ByteArray) : BitVec 32 := 4294967295#32 - rrun 4294967295#32 b.data.toList
theorem rsum_c {M : Mem} {w : World} {Ls : List Chunk} (b : ByteArray) (hb : b.size ≤ 140737488351232) (hS : St M w Ls) :
    CallsR Tryz.prog 170 [.string b].toArray w fun v w' => v = .int .u32 ((rsum b).toNat : Int) ∧ St M w' Ls := by
  refine calls_of (c := _) (rs := _) (n := 6) Tryz.func170 rfl rfl rfl rfl rfl ?_
  refine wc_seq ?_
  refine wc_region ?_
  refine wl (y_assign rfl) rfl ?_
  refine wl_nil ?_
  refine wc_seq ?_
  refine wc_region ?_
  refine wl (y_move rfl) rfl ?_
  refine wl_call (.cons rfl (.cons rfl .nil)) (rrun_c 4294967295#32 b hb hS) rfl ?_
  rintro _ w ⟨rfl, hS⟩
  refine wl (y_sub (bvc32 4294967295) rfl (bvsub32 _ _)) rfl ?_
  refine wl (y_assign rfl) rfl ?_
  refine wl_nil ?_
  refine wc_ret ?_
  refine wret (vs := [_]) (.tmp rfl .nil) ?_
  exact ⟨rfl, hS⟩

def rle : Nat → BitVec 32 → List UInt8
  | 0, _ => []
  | k + 1, x => rle k x ++ [⟨((x >>> (8 * k)) % 256#32).setWidth 8⟩]
def rseal (b : ByteArray) : ByteArray := ⟨(b.data.toList ++ rle 4 (rsum b)).toArray⟩
theorem shr_256 (c : BitVec 32) (k : Nat) : (c >>> (8 * k)) / 256#32 = c >>> (8 * (k + 1)) := by
  apply BitVec.eq_of_toNat_eq
  simp [BitVec.toNat_udiv, BitVec.toNat_ushiftRight, Nat.shiftRight_eq_div_pow, Nat.div_div_eq_div_mul, Nat.mul_add, Nat.pow_add]
theorem rle_length (k : Nat) (x : BitVec 32) : (rle k x).length = k := by induction k <;> simp_all [rle]

theorem rseal_c {M : Mem} {w : World} {Ls : List Chunk} (b : ByteArray) (hb : b.size ≤ 140737488351232) (hS : St M w Ls) :
    CallsR Tryz.prog 135 [.string b].toArray w fun v w' => v = .string (rseal b) ∧ St M w' Ls := by
  refine calls_of (c := _) (rs := _) (n := 25) Tryz.func135 rfl rfl rfl rfl rfl ?_
  refine wc_seq ?_
  refine wc_region ?_
  refine wl (y_assign rfl) rfl ?_
  refine wl_nil ?_
  refine wc_seq ?_
  refine wc_region ?_
  refine wl (y_move rfl) rfl ?_
  refine wl_call (.cons rfl .nil) (rsum_c b hb hS) rfl ?_
  rintro _ w ⟨rfl, hS⟩
  refine wl (y_assign rfl) rfl ?_
  refine wl_nil ?_
  refine wc_seq ?_
  refine wc_region ?_
  refine a_bslice encB [] (vs := []) (ps := []) Tryz.underlying173 sz_5 z_5 rfl .nil rfl rfl rfl (by decide) hS rfl fun s H w ho hS => ?_
  refine wl (y_assign rfl) rfl ?_
  refine wl_nil ?_
  refine wc_seq ?_
  refine wc_seq ?_
  refine wc_region ?_
  refine wl (y_assign rfl) rfl ?_
  refine wl_nil ?_
  refine wc_block ?_
  refine wc_loop (α := Nat × Value × Chunk) (fun ⟨j, s, H⟩ => [(0, .string b), (5, .int .i64 j), (3, .int .u32 ((rsum b >>> (8 * j)).toNat : Int)), (4, s)]) (fun ⟨j, s, H⟩ w => j ≤ 4 ∧ Own 5 encB s (rle j (rsum b)) H ∧ St M w (H :: Ls)) (fun ⟨j, _, _⟩ => 4 - j) (0, s, H) (sub_cons rfl (sub_cons rfl (sub_cons (by rw [Nat.mul_zero, BitVec.ushiftRight_zero]; rfl) (sub_cons rfl sub_nil)))) ⟨by omega, ho, hS⟩ ?_
  rintro ⟨j, s, H⟩ w ⟨hj, ho, hS⟩
  have hlen := rle_length j (rsum b)
  refine wc_seq ?_
  refine wc_seq ?_
  refine wc_region ?_
  refine wl (y_move rfl) rfl ?_
  refine wl (y_lss rfl rfl) rfl ?_
  refine wl_nil ?_
  refine wc_if rfl (fun hc10 => ?_) (fun hc10 => ?_)
  · try simp only [zq1, zq2, zq3, zq4, zq5, zq6, zq7] at hc10
    refine wc_skip ?_
    refine wc_seq ?_
    refine wc_block ?_
    refine wc_seq ?_
    refine wc_region ?_
    refine wl (y_move rfl) rfl ?_
    refine wl (y_move rfl) rfl ?_
    refine wl (y_rem rfl rfl (by decide) (bvrem32 _ 256)) rfl ?_
    refine wl (y_conv Tryz.underlying228 Tryz.underlying5 rfl (bvconv_u32_u8 _)) rfl ?_
    refine a_bslice encB [⟨((rsum b >>> (8 * j)) % 256#32).setWidth 8⟩] (vs := [_]) (ps := [(0, .tmp 16)]) Tryz.underlying173 sz_5 z_5 rfl (.cons rfl .nil) rfl rfl rfl (by decide) hS rfl fun s1 H1 w ho1 hS => ?_
    refine a_append (A := encB) (H := H) Tryz.underlying173 Tryz.underlying173 sz_5 z_5 rfl by_5 (by decide) rfl rfl ho (ho1.holds hS) hS (by rw [hlen]; simp; omega) rfl fun s2 H2 w ho2 hS => ?_
    replace hS := (hS.pull H1).drop
    refine wl (y_assign rfl) rfl ?_
    refine wl_nil ?_
    refine wc_region ?_
    refine wl (y_move rfl) rfl ?_
    refine wl (y_quo rfl rfl (by decide) (bvquo32 _ 256)) rfl ?_
    refine wl (y_assign rfl) rfl ?_
    refine wl_nil ?_
    refine wc_region ?_
    refine wl (y_move rfl) rfl ?_
    refine wl (y_add rfl rfl (w64 (by omega) (by omega))) rfl ?_
    refine wl (y_assign rfl) rfl ?_
    refine wl_nil ?_
    exact ⟨(j + 1, s2, H2), by simp only; omega, sub_cons rfl (sub_cons rfl (sub_cons (by rw [← shr_256]; rfl) (sub_cons rfl sub_nil))), by omega, ho2, hS⟩
  · try simp only [zq1, zq2, zq3, zq4, zq5, zq6, zq7] at hc10
    obtain rfl : j = 4 := by omega
    refine wc_exit ?_
    refine wc_seq ?_
    refine wc_region ?_
    refine wl (y_move rfl) rfl ?_
    refine wl (y_move rfl) rfl ?_
    refine wl (y_b2sh Tryz.underlying173 Tryz.underlying9 Tryz.underlying5 rfl (ho.holds hS)) rfl ?_
    refine wl (y_sadd rfl rfl (by simp only [ByteArray.size, List.size_toArray, hlen] at *; omega)) rfl ?_
    refine wl (y_assign rfl) rfl ?_
    refine wl_nil ?_
    refine wc_ret ?_
    refine wret (vs := [_]) (.tmp rfl .nil) ?_
    exact ⟨by rw [append_mk]; rfl, hS.drop⟩

def ropen (b : ByteArray) : Option ByteArray :=
  if b.size < 4 then none else if rseal (b.extract 0 (b.size - 4)) = b then some (b.extract 0 (b.size - 4)) else none
theorem ropen_c {M : Mem} {w : World} {Ls : List Chunk} (b : ByteArray) (hb : b.size ≤ 140737488351232) (hS : St M w Ls) :
    CallsR Tryz.prog 72 [.string b].toArray w fun v w' => v = openV (ropen b) ∧ St M w' Ls := by
  refine calls_of (c := _) (rs := _) (n := 18) Tryz.func72 rfl rfl rfl rfl rfl ?_
  refine wc_seq ?_
  refine wc_region ?_
  refine wl (y_assign rfl) rfl ?_
  refine wl (y_assign rfl) rfl ?_
  refine wl_nil ?_
  refine wc_seq ?_
  refine wc_seq ?_
  refine wc_region ?_
  refine wl (y_move rfl) rfl ?_
  refine wl (y_len_s Tryz.underlying9 rfl) rfl ?_
  refine wl (y_lss rfl rfl) rfl ?_
  refine wl_nil ?_
  refine wc_if rfl (fun hc7 => ?_) (fun hc7 => ?_)
  · try simp only [zq1, zq2, zq3, zq4, zq5, zq6, zq7] at hc7
    refine wc_seq ?_
    refine wc_region ?_
    refine wl (y_assign rfl) rfl ?_
    refine wl (y_assign rfl) rfl ?_
    refine wl_nil ?_
    refine wc_ret ?_
    refine wret (vs := [_, _]) (.tmp rfl (.tmp rfl .nil)) ?_
    refine ⟨?_, hS⟩
    unfold ropen
    first
    | (rw [if_pos (by omega)]; rfl)
    | (rw [if_neg (by omega), if_neg hc16]; rfl)
    | (rw [if_neg (by omega), if_pos hc16]; rfl)
  · try simp only [zq1, zq2, zq3, zq4, zq5, zq6, zq7] at hc7
    have e4 : ((b.size : Int) - 4).toNat = b.size - 4 := by omega
    refine wc_skip ?_
    refine wc_seq ?_
    refine wc_region ?_
    refine wl (y_move rfl) rfl ?_
    refine wl (y_move rfl) rfl ?_
    refine wl (y_len_s Tryz.underlying9 rfl) rfl ?_
    refine wl (y_sub rfl rfl (w64 (by omega) (by omega))) rfl ?_
    refine wl (y_sl_s Tryz.underlying9 rfl (lv := 0) rfl ⟨_, _, rfl, by omega, e4⟩ (by omega) (by omega) rfl) rfl ?_
    refine wl (y_assign rfl) rfl ?_
    refine wl_nil ?_
    refine wc_seq ?_
    refine wc_seq ?_
    refine wc_region ?_
    refine wl (y_move rfl) rfl ?_
    refine wl_call (.cons rfl .nil) (rseal_c _ (by rw [ByteArray.size_extract]; omega) hS) rfl ?_
    rintro _ w ⟨rfl, hS⟩
    refine wl (y_move rfl) rfl ?_
    refine wl (y_sneq rfl rfl) rfl ?_
    refine wl_nil ?_
    refine wc_if rfl (fun hc16 => ?_) (fun hc16 => ?_)
    · try simp only [zq1, zq2, zq3, zq4, zq5, zq6, zq7] at hc16
      refine wc_seq ?_
      refine wc_region ?_
      refine wl (y_assign rfl) rfl ?_
      refine wl (y_assign rfl) rfl ?_
      refine wl_nil ?_
      refine wc_ret ?_
      refine wret (vs := [_, _]) (.tmp rfl (.tmp rfl .nil)) ?_
      refine ⟨?_, hS⟩
      unfold ropen
      first
      | (rw [if_pos (by omega)]; rfl)
      | (rw [if_neg (by omega), if_neg hc16]; rfl)
      | (rw [if_neg (by omega), if_pos hc16]; rfl)
    · try simp only [zq1, zq2, zq3, zq4, zq5, zq6, zq7] at hc16
      refine wc_skip ?_
      refine wc_seq ?_
      refine wc_region ?_
      refine wl (y_move rfl) rfl ?_
      refine wl (y_assign rfl) rfl ?_
      refine wl (y_assign rfl) rfl ?_
      refine wl_nil ?_
      refine wc_ret ?_
      refine wret (vs := [_, _]) (.tmp rfl (.tmp rfl .nil)) ?_
      refine ⟨?_, hS⟩
      unfold ropen
      first
      | (rw [if_pos (by omega)]; rfl)
      | (rw [if_neg (by omega), if_neg hc16]; rfl)
      | (rw [if_neg (by omega), if_pos hc16]; rfl)
end Go.Proofs.YtndahppmjdbifaaGreatDoor.Crc

set_option linter.unusedVariables false
set_option linter.unusedSimpArgs false
namespace Go.Proofs.YtndahppmjdbifaaGreatDoor.Crc
open Go Go.Proofs.YtndahppmjdbifaaGreatDoor.Eng

/-! ### plain laws of the sum -/
theorem cstep_eq (x : BitVec 32) : cstep x = (x >>> 1) ^^^ (if x.getLsbD 0 then 2197175160#32 else 0#32) := by
  have h : (x &&& 1#32 = 1#32) ↔ x.getLsbD 0 = true := by
    constructor
    · intro h
      have := congrArg (·.getLsbD 0) h
      simpa using this
    · intro h
      apply BitVec.eq_of_getLsbD_eq
      intro i hi
      rcases Nat.eq_zero_or_pos i with rfl | hp
      · simp [h]
      · simp [BitVec.getLsbD_one]
        intro _; omega
  unfold cstep
  by_cases hx : x.getLsbD 0 = true
  · rw [if_pos (h.2 hx), if_pos hx]
  · rw [if_neg (fun e => hx (h.1 e)), if_neg hx, BitVec.xor_zero]
theorem cstep_xor (x y : BitVec 32) : cstep (x ^^^ y) = cstep x ^^^ cstep y := by
  rw [cstep_eq, cstep_eq, cstep_eq, BitVec.ushiftRight_xor_distrib, BitVec.getLsbD_xor]
  apply BitVec.eq_of_getLsbD_eq
  intro i hi
  cases x.getLsbD 0 <;> cases y.getLsbD 0 <;> simp only [Bool.xor_false, Bool.xor_true, Bool.not_true, Bool.not_false, if_true, if_false, Bool.false_eq_true, BitVec.getLsbD_xor] <;>
    cases (x >>> 1).getLsbD i <;> cases (y >>> 1).getLsbD i <;> cases (2197175160#32).getLsbD i <;> simp
theorem steps_xor : ∀ (k : Nat) (x y : BitVec 32), steps k (x ^^^ y) = steps k x ^^^ steps k y
  | 0, x, y => rfl
  | k + 1, x, y => by simp only [steps, steps_xor k, cstep_xor]
theorem steps_low : ∀ (k : Nat) (x : BitVec 32), (∀ i, i < k → x.getLsbD i = false) → steps k x = x >>> k
  | 0, x, h => by simp [steps]
  | k + 1, x, h => by
    simp only [steps]
    rw [steps_low k x fun i hi => h i (by omega), cstep_eq]
    have : (x >>> k).getLsbD 0 = false := by rw [BitVec.getLsbD_ushiftRight]; exact h k (by omega)
    rw [this, ← BitVec.shiftRight_add]; simp
theorem steps_add (x : BitVec 32) (j : Nat) : ∀ k, steps (j + k) x = steps k (steps j x)
  | 0 => rfl
  | k + 1 => by rw [← Nat.add_assoc]; simp only [steps, steps_add x j k]
theorem steps_zero : ∀ k, steps k 0#32 = 0#32
  | 0 => rfl
  | k + 1 => by simp only [steps, steps_zero k]; decide
theorem cstep_inj (x : BitVec 32) (h : cstep x = 0#32) : x = 0#32 := by
  rw [cstep_eq] at h
  have h31 := congrArg (·.getLsbD 31) h
  simp only [BitVec.getLsbD_xor, BitVec.getLsbD_ushiftRight] at h31
  have hx : x.getLsbD 0 = false := by
    cases hb : x.getLsbD 0 with
    | false => rfl
    | true =>
      rw [hb] at h31
      have : x.getLsbD (1 + 31) = false := BitVec.getLsbD_of_ge _ _ (by omega)
      rw [this] at h31
      exact absurd h31 (by decide)
  rw [hx] at h
  simp only [Bool.false_eq_true, if_false, BitVec.xor_zero] at h
  apply BitVec.eq_of_getLsbD_eq
  intro i hi
  rcases Nat.eq_zero_or_pos i with rfl | hp
  · simpa using hx
  · have := congrArg (·.getLsbD (i - 1)) h
    simp only [BitVec.getLsbD_ushiftRight, show 1 + (i - 1) = i by omega] at this
    simpa using this
theorem steps_inj : ∀ (k : Nat) (x : BitVec 32), steps k x = 0#32 → x = 0#32
  | 0, x, h => h
  | k + 1, x, h => steps_inj k x (cstep_inj _ h)

/-- the lowest k bits -/
theorem rstep_eq (x bit : BitVec 32) (h : bit = 0#32 ∨ bit = 1#32) : rstep x bit = cstep (x ^^^ bit) := by
  have hm : (x % 2#32).getLsbD 0 = x.getLsbD 0 := by
    simp [BitVec.getLsbD, BitVec.toNat_umod, Nat.testBit_zero]
  have hm2 : ∀ b : BitVec 32, (b = 0#32 ∨ b = 1#32) → ((x % 2#32 = b) ↔ x.getLsbD 0 = b.getLsbD 0) := by
    intro b hb
    constructor
    · intro e; rw [← hm, e]
    · intro e
      apply BitVec.eq_of_toNat_eq
      simp only [BitVec.getLsbD, Nat.testBit_zero] at e
      rw [BitVec.toNat_umod]
      rcases hb with rfl | rfl <;> simp at e ⊢ <;> omega
  have hd : x / 2#32 = x >>> 1 := by
    apply BitVec.eq_of_toNat_eq
    simp [BitVec.toNat_udiv, BitVec.toNat_ushiftRight, Nat.shiftRight_eq_div_pow]
  have hb1 : bit >>> 1 = 0#32 := by rcases h with rfl | rfl <;> rfl
  rw [cstep_eq, BitVec.ushiftRight_xor_distrib, hb1, BitVec.xor_zero, BitVec.getLsbD_xor]
  unfold rstep
  rw [hd]
  by_cases hx : x % 2#32 = bit
  · rw [if_pos hx]
    have := (hm2 bit h).1 hx
    rw [this]; simp
  · rw [if_neg hx]
    have : ¬ x.getLsbD 0 = bit.getLsbD 0 := fun e => hx ((hm2 bit h).2 e)
    have : (x.getLsbD 0 ^^ bit.getLsbD 0) = true := by
      cases h1 : x.getLsbD 0 <;> cases h2 : bit.getLsbD 0 <;> simp_all
    rw [this]; rfl
theorem bit_low (c : BitVec 32) (k : Nat) : (c >>> k) % 2#32 = if c.getLsbD k then 1#32 else 0#32 := by
  apply BitVec.eq_of_toNat_eq
  rw [BitVec.toNat_umod, BitVec.toNat_ushiftRight]
  simp only [BitVec.getLsbD, Nat.testBit, Nat.one_and_eq_mod_two]
  have : (c.toNat >>> k) % 2 < 2 := Nat.mod_lt _ (by omega)
  rcases Nat.lt_or_ge 0 ((c.toNat >>> k) % 2) with h | h
  · have : (c.toNat >>> k) % 2 = 1 := by omega
    simp [this]
  · have : (c.toNat >>> k) % 2 = 0 := by omega
    simp [this]
/-- c's lowest k bits -/
def low (k : Nat) (c : BitVec 32) : BitVec 32 := (c <<< (32 - k)) >>> (32 - k)
theorem low_get (k : Nat) (c : BitVec 32) (i : Nat) : (low k c).getLsbD i = (decide (i < k) && c.getLsbD i) := by
  unfold low
  rw [BitVec.getLsbD_ushiftRight, BitVec.getLsbD_shiftLeft, show 32 - k + i - (32 - k) = i by omega]
  by_cases h : i < 32
  · by_cases hk : i < k
    · simp [hk]; omega
    · simp [hk]; omega
  · rw [BitVec.getLsbD_of_ge c _ (by omega)]; simp
theorem rbits_eq (x c : BitVec 32) : ∀ k, k ≤ 32 → rbits k x c = steps k (x ^^^ low k c)
  | 0, _ => by
    have : low 0 c = 0#32 := by apply BitVec.eq_of_getLsbD_eq; intro i _; simp [low_get]
    simp [rbits, steps, this]
  | k + 1, hk => by
    simp only [rbits]
    rw [rbits_eq x c k (by omega), bit_low, rstep_eq _ _ (by split <;> simp)]
    have h1 : steps k (if c.getLsbD k then 1#32 <<< k else 0#32) = if c.getLsbD k then 1#32 else 0#32 := by
      split
      · rw [steps_low k _ (by intro i hi; simp [BitVec.getLsbD_shiftLeft, hi])]
        apply BitVec.eq_of_getLsbD_eq
        intro i hi
        simp only [BitVec.getLsbD_ushiftRight, BitVec.getLsbD_shiftLeft, BitVec.getLsbD_one]
        by_cases h0 : i = 0
        · subst h0; simp; omega
        · simp [h0]
      · exact steps_zero k
    rw [← h1, ← steps_xor]
    show steps (k + 1) _ = _
    congr 1
    rw [BitVec.xor_assoc]
    congr 1
    apply BitVec.eq_of_getLsbD_eq
    intro i hi
    rw [BitVec.getLsbD_xor, low_get, low_get]
    by_cases h2 : i = k
    · subst h2
      cases hc : c.getLsbD i <;> simp [BitVec.getLsbD_shiftLeft, hi]
    · have h3 : (if c.getLsbD k then 1#32 <<< k else 0#32).getLsbD i = false := by
        split
        · simp [BitVec.getLsbD_shiftLeft, BitVec.getLsbD_one]
          intro _ _ _; omega
        · simp
      rw [h3, Bool.xor_false]
      congr 1
      simp; omega
theorem cbyte_eq (x : BitVec 32) (c : BitVec 8) : cbyte x c = steps 8 (x ^^^ c.setWidth 32) := by
  have hlo : (BitVec.ofNat 32 (x.setWidth 8 ^^^ c).toNat) = (x.setWidth 8 ^^^ c).setWidth 32 := BitVec.ofNat_toNat _ _
  have hsplit : x ^^^ c.setWidth 32 = ((x >>> 8) <<< 8) ^^^ (x.setWidth 8 ^^^ c).setWidth 32 := by
    apply BitVec.eq_of_getLsbD_eq
    intro i hi
    simp only [BitVec.getLsbD_xor, BitVec.getLsbD_setWidth, BitVec.getLsbD_shiftLeft, BitVec.getLsbD_ushiftRight, hi, decide_true, Bool.true_and]
    by_cases h8 : i < 8
    · simp [h8]
    · have h1 : c.getLsbD i = false := BitVec.getLsbD_of_ge _ _ (by omega)
      simp [h8, h1, show 8 + (i - 8) = i by omega]
  rw [hsplit, steps_xor, steps_low 8 _ (by intro i hi; simp [BitVec.getLsbD_shiftLeft, hi])]
  unfold cbyte ent
  rw [hlo]
  congr 1
  apply BitVec.eq_of_getLsbD_eq
  intro i hi
  simp only [BitVec.getLsbD_shiftLeft, BitVec.getLsbD_ushiftRight]
  by_cases h : 8 + i < 32
  · simp [h]
  · have : x.getLsbD (8 + i) = false := BitVec.getLsbD_of_ge _ _ (by omega)
    simp [h, this]
theorem low_of {m : Nat} (c : BitVec m) (k : Nat) (h : m ≤ k) (hk : k ≤ 32) : low k (c.setWidth 32) = c.setWidth 32 := by
  apply BitVec.eq_of_getLsbD_eq
  intro i hi
  rw [low_get, BitVec.getLsbD_setWidth]
  by_cases hik : i < k
  · simp [hik]
  · have : c.getLsbD i = false := BitVec.getLsbD_of_ge _ _ (by omega)
    simp [this]
theorem rrun_eq (x : BitVec 32) (l : List UInt8) : rrun x l = crun x l := by
  unfold rrun crun
  congr 1
  funext x c
  rw [rbits_eq _ _ 8 (by omega), low_of _ 8 (Nat.le_refl _) (by omega), cbyte_eq]
theorem rsum_eq (b : ByteArray) : rsum b = sum b := by
  unfold rsum sum more
  rw [rrun_eq]
  have h : ∀ x : BitVec 32, 4294967295#32 - x = ~~~ x := by
    intro x
    have := BitVec.allOnes_sub_eq_not x
    rw [← this]; rfl
  rw [h]
  rfl
theorem rle_eq (x : BitVec 32) : rle 4 x = le4 x := by
  have h : ∀ k, ((x >>> (8 * k)) % 256#32).setWidth 8 = (x >>> (8 * k)).setWidth 8 := by
    intro k
    apply BitVec.eq_of_toNat_eq
    simp [BitVec.toNat_umod, BitVec.toNat_setWidth]
  simp only [rle, h]
  simp only [List.nil_append, List.cons_append, le4, Nat.mul_zero, BitVec.ushiftRight_zero, Nat.mul_one, show 8 * 2 = 16 from rfl, show 8 * 3 = 24 from rfl]
theorem rseal_eq (b : ByteArray) : rseal b = seal_ b := by unfold rseal seal_; rw [rsum_eq, rle_eq]
theorem ropen_eq (b : ByteArray) : ropen b = open_ b := by unfold ropen open_; simp only [rseal_eq]
theorem le4_length (x : BitVec 32) : (le4 x).length = 4 := rfl
theorem seal_size (b : ByteArray) : (seal_ b).size = b.size + 4 := by
  simp only [seal_, ByteArray.size, List.size_toArray, List.length_append, le4_length]; simp
theorem seal_extract (b : ByteArray) : (seal_ b).extract 0 b.size = b := by
  apply bytes_eq
  simp [seal_, ByteArray.data_extract]
theorem open_seal (b : ByteArray) : open_ (seal_ b) = some b := by
  unfold open_
  rw [seal_size, if_neg (by omega), show b.size + 4 - 4 = b.size by omega, seal_extract, if_pos rfl]
theorem more_append (s : BitVec 32) (a b : ByteArray) : more s (a ++ b) = more (more s a) b := by
  unfold more
  have : (a ++ b).data.toList = a.data.toList ++ b.data.toList := by simp
  rw [this, crun_append]
  simp
theorem more_empty (s : BitVec 32) : more s ByteArray.empty = s := by
  unfold more
  have : ByteArray.empty.data.toList = [] := rfl
  rw [this]; simp [crun]
end Go.Proofs.YtndahppmjdbifaaGreatDoor.Crc

set_option linter.unusedVariables false
set_option linter.unusedSimpArgs false
namespace Go.Proofs.YtndahppmjdbifaaGreatDoor.Fra
open Go Go.Proofs Go.Proofs.YtndahppmjdbifaaGreatDoor.Eng Go.Proofs.YtndahppmjdbifaaGreatDoor.Pre Go.Proofs.YtndahppmjdbifaaGreatDoor.Pak Go.Proofs.YtndahppmjdbifaaGreatDoor.Val Go.Proofs.YtndahppmjdbifaaGreatDoor.Rou Go.Proofs.YtndahppmjdbifaaGreatDoor.Crc

structure Frm where
  ep : Int
  seq : Int
  ack : Int
  data : ByteArray
deriving DecidableEq
def frm0 : Frm := ⟨0, 0, 0, ByteArray.empty⟩
def encF : Enc Frm := ⟨4, fun f => [.int .i64 f.ep, .int .i64 f.seq, .int .i64 f.ack, .string f.data], fun _ => rfl, by simp [oneC]⟩
def fv (f : Frm) : Value := .agg [.int .i64 f.ep, .int .i64 f.seq, .int .i64 f.ack, .string f.data].toArray
@[irreducible] def fplain (f : Frm) : List UInt8 := pput f.ep.toNat ++ pput f.seq.toNat ++ pput f.ack.toNat ++ ptext f.data
@[irreducible] def fbytes (f : Frm) : ByteArray := seal_ (str (fplain f))
@[irreducible] def fputE (f : Frm) (mtu : Int) : Nat :=
  if ¬ (64 ≤ mtu ∧ mtu ≤ 1400) then 1 else if ¬ (1 ≤ f.ep ∧ f.ep ≤ 1099511627776) then 1 else if ¬ (0 ≤ f.seq ∧ f.seq ≤ 1125899906842624) then 1 else if ¬ (0 ≤ f.ack ∧ f.ack ≤ 1125899906842624) then 1 else
  if f.seq = 0 then (if ¬ f.data = ⟨#[]⟩ then 13 else if ((fbytes f).size : Int) > mtu then 3 else 0) else if ((fbytes f).size : Int) > mtu then 3 else 0
@[irreducible] def fput (f : Frm) (mtu : Int) : ByteArray := if fputE f mtu = 0 then fbytes f else ⟨#[]⟩
/-! reading -/
@[irreducible] def fg1 (s : ByteArray) : Nat × Rdr := rnum ⟨s, 0, 0⟩ 1099511627776
@[irreducible] def fg1' (s : ByteArray) : Rdr := if (fg1 s).1 = 0 then rfail (fg1 s).2 1 else (fg1 s).2
@[irreducible] def fg2 (s : ByteArray) : Nat × Rdr := rnum (fg1' s) 1125899906842624
@[irreducible] def fg3 (s : ByteArray) : Nat × Rdr := rnum (fg2 s).2 1125899906842624
@[irreducible] def fg4 (s : ByteArray) : ByteArray × Rdr := rtext (fg3 s).2 1400
@[irreducible] def fg5 (s : ByteArray) : Rdr := if ¬ (fg4 s).1 = ⟨#[]⟩ then (if (fg2 s).1 = 0 then rfail (fg4 s).2 13 else (fg4 s).2) else (fg4 s).2
@[irreducible] def fge (s : ByteArray) : Nat := (rend (fg5 s)).e
@[irreducible] def fgf (s : ByteArray) : Frm := if fge s = 0 then ⟨(fg1 s).1, (fg2 s).1, (fg3 s).1, (fg4 s).1⟩ else frm0
@[irreducible] def fgetE (b : ByteArray) : Nat := match open_ b with | none => 6 | some s => fge s
@[irreducible] def fget (b : ByteArray) : Frm := match open_ b with | none => frm0 | some s => fgf s
theorem fg_ok (s : ByteArray) (hs : s.size ≤ 140737488351232) : (fg1 s).2.ok ∧ (fg1' s).ok ∧ (fg2 s).2.ok ∧ (fg3 s).2.ok ∧ (fg4 s).2.ok ∧ (fg5 s).ok := by
  have h0 : (⟨s, 0, 0⟩ : Rdr).ok := ⟨Nat.zero_le _, hs⟩
  have h1 : (fg1 s).2.ok := by unfold fg1; exact (rnum_ok h0 _).1
  have h1' : (fg1' s).ok := by
    unfold fg1'; split
    · exact (rfail_ok h1 1).1
    · exact h1
  have h2 : (fg2 s).2.ok := by unfold fg2; exact (rnum_ok h1' _).1
  have h3 : (fg3 s).2.ok := by unfold fg3; exact (rnum_ok h2 _).1
  have h4 : (fg4 s).2.ok := by unfold fg4; exact (rtext_ok h3 _).1
  refine ⟨h1, h1', h2, h3, h4, ?_⟩
  unfold fg5; split
  · split
    · exact (rfail_ok h4 13).1
    · exact h4
  · exact h4
theorem fplain_length (f : Frm) : (fplain f).length ≤ 32 + f.data.size := by
  unfold fplain
  simp only [List.length_append]
  have a := pput_length f.ep.toNat
  have b := pput_length f.seq.toNat
  have c := pput_length f.ack.toNat
  have d := ptext_length f.data
  omega
section
variable {M : Mem} {w : World} {Ls : List Chunk}
theorem fin_c (n lo hi : Int) (hS : St M w Ls) : CallsR Tryz.prog 128 [.int .i64 n, .int .i64 lo, .int .i64 hi].toArray w fun v w' => v = .bool (decide (lo ≤ n ∧ n ≤ hi)) ∧ St M w' Ls := by
  refine calls_of (c := _) (rs := _) (n := 15) Tryz.func128 rfl rfl rfl rfl rfl ?_
  refine wc_seq ?_
  refine wc_region ?_
  refine wl (y_assign rfl) rfl ?_
  refine wl_nil ?_
  refine wc_seq ?_
  refine wc_region ?_
  refine wl (y_move rfl) rfl ?_
  refine wl (y_move rfl) rfl ?_
  refine wl (y_geq rfl rfl) rfl ?_
  refine wl (y_move rfl) rfl ?_
  refine wl_cases (s := 10) rfl (fun hg10 => ?_) (fun hg10 => ?_)
  · try simp only [zq1, zq2, zq3, zq4, zq5, zq6, zq7] at hg10
    refine wl_on rfl rfl ?_
    refine wl (y_move rfl) rfl ?_
    refine wl_on rfl rfl ?_
    refine wl (y_move rfl) rfl ?_
    refine wl_on rfl rfl ?_
    refine wl (y_leq rfl rfl) rfl ?_
    refine wl (y_pickT rfl rfl) rfl ?_
    refine wl (y_assign rfl) rfl ?_
    refine wl_nil ?_
    refine wc_ret ?_
    refine wret (vs := [_]) (.tmp rfl .nil) ?_
    first
    | exact ⟨congrArg Value.bool (decide_eq_decide.2 ⟨fun h => ⟨by omega, h⟩, fun h => h.2⟩), hS⟩
    | exact ⟨congrArg Value.bool (decide_eq_false (fun h => by omega)).symm, hS⟩
  · try simp only [zq1, zq2, zq3, zq4, zq5, zq6, zq7] at hg10
    refine wl_off rfl rfl rfl rfl ?_
    refine wl_off rfl rfl rfl rfl ?_
    refine wl_off rfl rfl rfl rfl ?_
    refine wl (y_pickF rfl rfl) rfl ?_
    refine wl (y_assign rfl) rfl ?_
    refine wl_nil ?_
    refine wc_ret ?_
    refine wret (vs := [_]) (.tmp rfl .nil) ?_
    first
    | exact ⟨congrArg Value.bool (decide_eq_decide.2 ⟨fun h => ⟨by omega, h⟩, fun h => h.2⟩), hS⟩
    | exact ⟨congrArg Value.bool (decide_eq_false (fun h => by omega)).symm, hS⟩
theorem fseal_c (hG : Bits M) (f : Frm) (h1 : 0 ≤ f.ep ∧ f.ep < 4611686018427387904) (h2 : 0 ≤ f.seq ∧ f.seq < 4611686018427387904) (h3 : 0 ≤ f.ack ∧ f.ack < 4611686018427387904) (hd : f.data.size ≤ 34359738368) (hS : St M w Ls) :
    CallsR Tryz.prog 129 [fv f].toArray w fun v w' => v = .string (fbytes f) ∧ St M w' Ls := by
  obtain ⟨a, ha⟩ : ∃ a : Nat, f.ep = a := ⟨f.ep.toNat, by omega⟩
  obtain ⟨b, hb⟩ : ∃ a : Nat, f.seq = a := ⟨f.seq.toNat, by omega⟩
  obtain ⟨c, hc⟩ : ∃ a : Nat, f.ack = a := ⟨f.ack.toNat, by omega⟩
  have hfl := fplain_length f
  have hfp : fplain f = pput a ++ pput b ++ pput c ++ ptext f.data := by unfold fplain; rw [ha, hb, hc]; rfl
  have la := pput_length a
  have lb := pput_length b
  have lc := pput_length c
  have hss : (str (fplain f)).size = (fplain f).length := by simp [str, ByteArray.size]
  refine calls_of (c := _) (rs := _) (n := 24) Tryz.func129 rfl rfl rfl rfl rfl ?_
  refine wc_seq ?_
  refine wc_region ?_
  refine a_box rfl hS rfl fun b1 w hS => ?_
  refine wl (y_assign rfl) rfl ?_
  refine wl_nil ?_
  refine wc_seq ?_
  refine wc_region ?_
  refine a_alloc z_177 hS rfl fun b3 w hS => ?_
  refine wl_nil ?_
  have hb : IsW b3 [] false [(b3, .cells #[.pointer none, .slice none 0 0, .bool false] 177)] := ⟨none, _, _, .inl rfl, .nil, rfl⟩
  replace hS : St M w ([(b3, .cells #[.pointer none, .slice none 0 0, .bool false] 177)] :: _) := hS
  refine wc_seq ?_
  refine wc_region ?_
  refine wl (y_fld fl_42_0 rfl) rfl ?_
  refine wl ((y_load pl_3 rfl (hS.cell (v := .int .i64 f.ep) rfl)).val (congrArg (Value.int .i64) ha)) rfl ?_
  refine wl_call (.cons rfl (.cons rfl .nil)) (wnum_c hG a (by omega) hb (by simp) hS) rfl ?_
  rintro _ w ⟨H1, hb, hS⟩
  refine wl_nil ?_
  refine wc_seq ?_
  refine wc_region ?_
  refine wl (y_fld fl_42_1 rfl) rfl ?_
  refine wl ((y_load pl_3 rfl (hS.cell (v := .int .i64 f.seq) rfl)).val (congrArg (Value.int .i64) (by assumption))) rfl ?_
  refine wl_call (.cons rfl (.cons rfl .nil)) (wnum_c hG b (by omega) hb (by simp only [List.length_append, List.length_nil]; omega) hS) rfl ?_
  rintro _ w ⟨H2, hb, hS⟩
  refine wl_nil ?_
  refine wc_seq ?_
  refine wc_region ?_
  refine wl (y_fld fl_42_2 rfl) rfl ?_
  refine wl ((y_load pl_3 rfl (hS.cell (v := .int .i64 f.ack) rfl)).val (congrArg (Value.int .i64) hc)) rfl ?_
  refine wl_call (.cons rfl (.cons rfl .nil)) (wnum_c hG c (by omega) hb (by simp only [List.length_append, List.length_nil]; omega) hS) rfl ?_
  rintro _ w ⟨H3, hb, hS⟩
  refine wl_nil ?_
  refine wc_seq ?_
  refine wc_region ?_
  refine wl (y_fld fl_42_3 rfl) rfl ?_
  refine wl (y_load pl_9 rfl (hS.cell (v := .string f.data) rfl)) rfl ?_
  refine wl_call (.cons rfl (.cons rfl .nil)) (wtext_c hG f.data (by omega) hb (by simp only [List.length_append, List.length_nil]; omega) hS) rfl ?_
  rintro _ w ⟨H4, hb, hS⟩
  rw [List.nil_append, ← hfp] at hb
  refine wl_nil ?_
  refine wc_seq ?_
  refine wc_region ?_
  refine wl_call (.cons rfl .nil) (wbytes_c hb (by omega) hS) rfl ?_
  rintro _ w ⟨rfl, hS⟩
  refine wl (y_move rfl) rfl ?_
  refine wl (y_extract (vs := [_, _]) rfl rfl) rfl ?_
  refine wl (y_extract (vs := [_, _]) rfl rfl) rfl ?_
  refine wl (y_assign rfl) rfl ?_
  refine wl (y_assign rfl) rfl ?_
  refine wl_nil ?_
  refine wc_seq ?_
  refine wc_region ?_
  refine wl (y_move rfl) rfl ?_
  refine wl_call (.cons rfl .nil) (seal_c (str (fplain f)) (by rw [hss]; omega) hS) rfl ?_
  rintro _ w ⟨rfl, hS⟩
  refine wl (y_assign rfl) rfl ?_
  refine wl_nil ?_
  refine wc_ret ?_
  refine wret (vs := [_]) (.tmp rfl .nil) ?_
  exact ⟨by unfold fbytes; rfl, hS.keep⟩
theorem fput_c (hG : Bits M) (f : Frm) (mtu : Int) (hd : f.data.size ≤ 34359738368) (hS : St M w Ls) :
    CallsR Tryz.prog 63 [fv f, .int .i64 mtu].toArray w fun v w' => v = .tuple [.string (fput f mtu), .int .i64 (fputE f mtu)].toArray ∧ St M w' Ls := by
  refine calls_of (c := _) (rs := _) (n := 45) Tryz.func63 rfl rfl rfl rfl rfl ?_
  refine wc_seq ?_
  refine wc_region ?_
  refine a_box rfl hS rfl fun b2 w hS => ?_
  refine wl (y_assign rfl) rfl ?_
  refine wl (y_assign rfl) rfl ?_
  refine wl_nil ?_
  refine wc_seq ?_
  refine wc_block ?_
  refine wc_seq ?_
  refine wc_region ?_
  refine wl (y_move rfl) rfl ?_
  refine wl_call (.cons rfl (.cons rfl (.cons rfl .nil))) (fin_c mtu 64 1400 hS) rfl ?_
  rintro _ w ⟨rfl, hS⟩
  refine wl (y_not rfl) rfl ?_
  refine wl (y_move rfl) rfl ?_
  refine wl_cases (s := 11) rfl (fun hg11 => ?_) (fun hg11 => ?_)
  · try simp only [zq1, zq2, zq3, zq4, zq5, zq6, zq7] at hg11
    refine wl_off rfl rfl rfl rfl ?_
    refine wl_off rfl rfl rfl rfl ?_
    refine wl_off rfl rfl rfl rfl ?_
    refine wl_off rfl rfl rfl rfl ?_
    refine wl (y_pickT rfl rfl) rfl ?_
    refine wl (y_move rfl) rfl ?_
    refine wl_off rfl rfl rfl rfl ?_
    refine wl_off rfl rfl rfl rfl ?_
    refine wl_off rfl rfl rfl rfl ?_
    refine wl_off rfl rfl rfl rfl ?_
    refine wl (y_pickT rfl rfl) rfl ?_
    refine wl (y_move rfl) rfl ?_
    refine wl_off rfl rfl rfl rfl ?_
    refine wl_off rfl rfl rfl rfl ?_
    refine wl_off rfl rfl rfl rfl ?_
    refine wl_off rfl rfl rfl rfl ?_
    refine wl (y_pickT rfl rfl) rfl ?_
    refine wl (y_assign rfl) rfl ?_
    refine wl_nil ?_
    refine wc_ifT rfl rfl ?_
    refine wc_seq ?_
    refine wc_region ?_
    refine wl (y_assign rfl) rfl ?_
    refine wl (y_assign rfl) rfl ?_
    refine wl_nil ?_
    refine wc_ret ?_
    refine wret (vs := [_, _]) (.tmp rfl (.tmp rfl .nil)) ?_
    first
    | (have he : fputE f mtu = 1 := by (unfold fputE; simp [*])
       have hp : fput f mtu = ⟨#[]⟩ := by (unfold fput; rw [if_neg (by omega)])
       rw [he, hp]; exact ⟨rfl, hS.keep⟩)
    | (have he : fputE f mtu = 13 := by (unfold fputE; simp [*])
       have hp : fput f mtu = ⟨#[]⟩ := by (unfold fput; rw [if_neg (by omega)])
       rw [he, hp]; exact ⟨rfl, hS.keep⟩)
    | (have he : fputE f mtu = 3 := by (unfold fputE; simp [*])
       have hp : fput f mtu = ⟨#[]⟩ := by (unfold fput; rw [if_neg (by omega)])
       rw [he, hp]; exact ⟨rfl, hS.keep⟩)
    | (have he : fputE f mtu = 0 := by (unfold fputE; simp [*])
       have hp : fput f mtu = fbytes f := by (unfold fput; rw [if_pos he])
       rw [he, hp]; exact ⟨rfl, hS.keep⟩)
  · try simp only [zq1, zq2, zq3, zq4, zq5, zq6, zq7] at hg11
    refine wl_on rfl rfl ?_
    refine wl (y_fld fl_42_0 rfl) rfl ?_
    refine wl_on rfl rfl ?_
    refine wl (y_load pl_3 rfl (hS.cell (v := .int .i64 f.ep) rfl)) rfl ?_
    refine wl_on rfl rfl ?_
    refine wl_call (.cons rfl (.cons rfl (.cons rfl .nil))) (fin_c f.ep 1 1099511627776 hS) rfl ?_
    rintro _ w ⟨rfl, hS⟩
    refine wl_on rfl rfl ?_
    refine wl (y_not rfl) rfl ?_
    refine wl (y_pickF rfl rfl) rfl ?_
    refine wl (y_move rfl) rfl ?_
    refine wl_cases (s := 17) rfl (fun hg17 => ?_) (fun hg17 => ?_)
    · try simp only [zq1, zq2, zq3, zq4, zq5, zq6, zq7] at hg17
      refine wl_off rfl rfl rfl rfl ?_
      refine wl_off rfl rfl rfl rfl ?_
      refine wl_off rfl rfl rfl rfl ?_
      refine wl_off rfl rfl rfl rfl ?_
      refine wl (y_pickT rfl rfl) rfl ?_
      refine wl (y_move rfl) rfl ?_
      refine wl_off rfl rfl rfl rfl ?_
      refine wl_off rfl rfl rfl rfl ?_
      refine wl_off rfl rfl rfl rfl ?_
      refine wl_off rfl rfl rfl rfl ?_
      refine wl (y_pickT rfl rfl) rfl ?_
      refine wl (y_assign rfl) rfl ?_
      refine wl_nil ?_
      refine wc_ifT rfl rfl ?_
      refine wc_seq ?_
      refine wc_region ?_
      refine wl (y_assign rfl) rfl ?_
      refine wl (y_assign rfl) rfl ?_
      refine wl_nil ?_
      refine wc_ret ?_
      refine wret (vs := [_, _]) (.tmp rfl (.tmp rfl .nil)) ?_
      first
      | (have he : fputE f mtu = 1 := by (unfold fputE; simp [*])
         have hp : fput f mtu = ⟨#[]⟩ := by (unfold fput; rw [if_neg (by omega)])
         rw [he, hp]; exact ⟨rfl, hS.keep⟩)
      | (have he : fputE f mtu = 13 := by (unfold fputE; simp [*])
         have hp : fput f mtu = ⟨#[]⟩ := by (unfold fput; rw [if_neg (by omega)])
         rw [he, hp]; exact ⟨rfl, hS.keep⟩)
      | (have he : fputE f mtu = 3 := by (unfold fputE; simp [*])
         have hp : fput f mtu = ⟨#[]⟩ := by (unfold fput; rw [if_neg (by omega)])
         rw [he, hp]; exact ⟨rfl, hS.keep⟩)
      | (have he : fputE f mtu = 0 := by (unfold fputE; simp [*])
         have hp : fput f mtu = fbytes f := by (unfold fput; rw [if_pos he])
         rw [he, hp]; exact ⟨rfl, hS.keep⟩)
    · try simp only [zq1, zq2, zq3, zq4, zq5, zq6, zq7] at hg17
      refine wl_on rfl rfl ?_
      refine wl (y_fld fl_42_1 rfl) rfl ?_
      refine wl_on rfl rfl ?_
      refine wl (y_load pl_3 rfl (hS.cell (v := .int .i64 f.seq) rfl)) rfl ?_
      refine wl_on rfl rfl ?_
      refine wl_call (.cons rfl (.cons rfl (.cons rfl .nil))) (fin_c f.seq 0 1125899906842624 hS) rfl ?_
      rintro _ w ⟨rfl, hS⟩
      refine wl_on rfl rfl ?_
      refine wl (y_not rfl) rfl ?_
      refine wl (y_pickF rfl rfl) rfl ?_
      refine wl (y_move rfl) rfl ?_
      refine wl_cases (s := 23) rfl (fun hg23 => ?_) (fun hg23 => ?_)
      · try simp only [zq1, zq2, zq3, zq4, zq5, zq6, zq7] at hg23
        refine wl_off rfl rfl rfl rfl ?_
        refine wl_off rfl rfl rfl rfl ?_
        refine wl_off rfl rfl rfl rfl ?_
        refine wl_off rfl rfl rfl rfl ?_
        refine wl (y_pickT rfl rfl) rfl ?_
        refine wl (y_assign rfl) rfl ?_
        refine wl_nil ?_
        refine wc_ifT rfl rfl ?_
        refine wc_seq ?_
        refine wc_region ?_
        refine wl (y_assign rfl) rfl ?_
        refine wl (y_assign rfl) rfl ?_
        refine wl_nil ?_
        refine wc_ret ?_
        refine wret (vs := [_, _]) (.tmp rfl (.tmp rfl .nil)) ?_
        first
        | (have he : fputE f mtu = 1 := by (unfold fputE; simp [*])
           have hp : fput f mtu = ⟨#[]⟩ := by (unfold fput; rw [if_neg (by omega)])
           rw [he, hp]; exact ⟨rfl, hS.keep⟩)
        | (have he : fputE f mtu = 13 := by (unfold fputE; simp [*])
           have hp : fput f mtu = ⟨#[]⟩ := by (unfold fput; rw [if_neg (by omega)])
           rw [he, hp]; exact ⟨rfl, hS.keep⟩)
        | (have he : fputE f mtu = 3 := by (unfold fputE; simp [*])
           have hp : fput f mtu = ⟨#[]⟩ := by (unfold fput; rw [if_neg (by omega)])
           rw [he, hp]; exact ⟨rfl, hS.keep⟩)
        | (have he : fputE f mtu = 0 := by (unfold fputE; simp [*])
           have hp : fput f mtu = fbytes f := by (unfold fput; rw [if_pos he])
           rw [he, hp]; exact ⟨rfl, hS.keep⟩)
      · try simp only [zq1, zq2, zq3, zq4, zq5, zq6, zq7] at hg23
        refine wl_on rfl rfl ?_
        refine wl (y_fld fl_42_2 rfl) rfl ?_
        refine wl_on rfl rfl ?_
        refine wl (y_load pl_3 rfl (hS.cell (v := .int .i64 f.ack) rfl)) rfl ?_
        refine wl_on rfl rfl ?_
        refine wl_call (.cons rfl (.cons rfl (.cons rfl .nil))) (fin_c f.ack 0 1125899906842624 hS) rfl ?_
        rintro _ w ⟨rfl, hS⟩
        refine wl_on rfl rfl ?_
        refine wl (y_not rfl) rfl ?_
        refine wl (y_pickF rfl rfl) rfl ?_
        refine wl (y_assign rfl) rfl ?_
        refine wl_nil ?_
        refine wc_if rfl (fun hc7 => ?_) (fun hc7 => ?_)
        · try simp only [zq1, zq2, zq3, zq4, zq5, zq6, zq7] at hc7
          refine wc_seq ?_
          refine wc_region ?_
          refine wl (y_assign rfl) rfl ?_
          refine wl (y_assign rfl) rfl ?_
          refine wl_nil ?_
          refine wc_ret ?_
          refine wret (vs := [_, _]) (.tmp rfl (.tmp rfl .nil)) ?_
          first
          | (have he : fputE f mtu = 1 := by (unfold fputE; simp [*])
             have hp : fput f mtu = ⟨#[]⟩ := by (unfold fput; rw [if_neg (by omega)])
             rw [he, hp]; exact ⟨rfl, hS.keep⟩)
          | (have he : fputE f mtu = 13 := by (unfold fputE; simp [*])
             have hp : fput f mtu = ⟨#[]⟩ := by (unfold fput; rw [if_neg (by omega)])
             rw [he, hp]; exact ⟨rfl, hS.keep⟩)
          | (have he : fputE f mtu = 3 := by (unfold fputE; simp [*])
             have hp : fput f mtu = ⟨#[]⟩ := by (unfold fput; rw [if_neg (by omega)])
             rw [he, hp]; exact ⟨rfl, hS.keep⟩)
          | (have he : fputE f mtu = 0 := by (unfold fputE; simp [*])
             have hp : fput f mtu = fbytes f := by (unfold fput; rw [if_pos he])
             rw [he, hp]; exact ⟨rfl, hS.keep⟩)
        · try simp only [zq1, zq2, zq3, zq4, zq5, zq6, zq7] at hc7
          refine wc_seq ?_
          refine wc_region ?_
          refine wl (y_fld fl_42_1 rfl) rfl ?_
          refine wl (y_load pl_3 rfl (hS.cell (v := .int .i64 f.seq) rfl)) rfl ?_
          refine wl (y_eql rfl rfl) rfl ?_
          refine wl (y_move rfl) rfl ?_
          refine wl_cases (s := 33) rfl (fun hg33 => ?_) (fun hg33 => ?_)
          · try simp only [zq1, zq2, zq3, zq4, zq5, zq6, zq7] at hg33
            refine wl_on rfl rfl ?_
            refine wl (y_fld fl_42_3 rfl) rfl ?_
            refine wl_on rfl rfl ?_
            refine wl (y_load pl_9 rfl (hS.cell (v := .string f.data) rfl)) rfl ?_
            refine wl_on rfl rfl ?_
            refine wl (y_sneq rfl rfl) rfl ?_
            refine wl (y_pickT rfl rfl) rfl ?_
            refine wl (y_assign rfl) rfl ?_
            refine wl_nil ?_
            refine wc_if rfl (fun hc29 => ?_) (fun hc29 => ?_)
            · try simp only [zq1, zq2, zq3, zq4, zq5, zq6, zq7] at hc29
              refine wc_seq ?_
              refine wc_region ?_
              refine wl (y_assign rfl) rfl ?_
              refine wl (y_assign rfl) rfl ?_
              refine wl_nil ?_
              refine wc_ret ?_
              refine wret (vs := [_, _]) (.tmp rfl (.tmp rfl .nil)) ?_
              first
              | (have he : fputE f mtu = 1 := by (unfold fputE; simp [*])
                 have hp : fput f mtu = ⟨#[]⟩ := by (unfold fput; rw [if_neg (by omega)])
                 rw [he, hp]; exact ⟨rfl, hS.keep⟩)
              | (have he : fputE f mtu = 13 := by (unfold fputE; simp [*])
                 have hp : fput f mtu = ⟨#[]⟩ := by (unfold fput; rw [if_neg (by omega)])
                 rw [he, hp]; exact ⟨rfl, hS.keep⟩)
              | (have he : fputE f mtu = 3 := by (unfold fputE; simp [*])
                 have hp : fput f mtu = ⟨#[]⟩ := by (unfold fput; rw [if_neg (by omega)])
                 rw [he, hp]; exact ⟨rfl, hS.keep⟩)
              | (have he : fputE f mtu = 0 := by (unfold fputE; simp [*])
                 have hp : fput f mtu = fbytes f := by (unfold fput; rw [if_pos he])
                 rw [he, hp]; exact ⟨rfl, hS.keep⟩)
            · try simp only [zq1, zq2, zq3, zq4, zq5, zq6, zq7] at hc29
              refine wc_skip ?_
              refine wc_seq ?_
              refine wc_region ?_
              refine wl (y_loadS st_42 sz_42 rfl (hS.cells (vs := [_, _, _, _]) rfl) rfl) rfl ?_
              refine wl_call (.cons rfl .nil) (fseal_c hG f (by omega) (by omega) (by omega) hd hS) rfl ?_
              rintro _ w ⟨rfl, hS⟩
              refine wl (y_assign rfl) rfl ?_
              refine wl_nil ?_
              refine wc_seq ?_
              refine wc_seq ?_
              refine wc_region ?_
              refine wl (y_move rfl) rfl ?_
              refine wl (y_len_s Tryz.underlying9 rfl) rfl ?_
              refine wl (y_move rfl) rfl ?_
              refine wl (y_gtr rfl rfl) rfl ?_
              refine wl_nil ?_
              refine wc_if rfl (fun hc43 => ?_) (fun hc43 => ?_)
              · try simp only [zq1, zq2, zq3, zq4, zq5, zq6, zq7] at hc43
                refine wc_seq ?_
                refine wc_region ?_
                refine wl (y_assign rfl) rfl ?_
                refine wl (y_assign rfl) rfl ?_
                refine wl_nil ?_
                refine wc_ret ?_
                refine wret (vs := [_, _]) (.tmp rfl (.tmp rfl .nil)) ?_
                first
                | (have he : fputE f mtu = 1 := by (unfold fputE; simp [*])
                   have hp : fput f mtu = ⟨#[]⟩ := by (unfold fput; rw [if_neg (by omega)])
                   rw [he, hp]; exact ⟨rfl, hS.keep⟩)
                | (have he : fputE f mtu = 13 := by (unfold fputE; simp [*])
                   have hp : fput f mtu = ⟨#[]⟩ := by (unfold fput; rw [if_neg (by omega)])
                   rw [he, hp]; exact ⟨rfl, hS.keep⟩)
                | (have he : fputE f mtu = 3 := by (unfold fputE; simp [*])
                   have hp : fput f mtu = ⟨#[]⟩ := by (unfold fput; rw [if_neg (by omega)])
                   rw [he, hp]; exact ⟨rfl, hS.keep⟩)
                | (have he : fputE f mtu = 0 := by (unfold fputE; simp [*])
                   have hp : fput f mtu = fbytes f := by (unfold fput; rw [if_pos he])
                   rw [he, hp]; exact ⟨rfl, hS.keep⟩)
              · try simp only [zq1, zq2, zq3, zq4, zq5, zq6, zq7] at hc43
                refine wc_skip ?_
                refine wc_seq ?_
                refine wc_region ?_
                refine wl (y_move rfl) rfl ?_
                refine wl (y_assign rfl) rfl ?_
                refine wl (y_assign rfl) rfl ?_
                refine wl_nil ?_
                refine wc_ret ?_
                refine wret (vs := [_, _]) (.tmp rfl (.tmp rfl .nil)) ?_
                first
                | (have he : fputE f mtu = 1 := by (unfold fputE; simp [*])
                   have hp : fput f mtu = ⟨#[]⟩ := by (unfold fput; rw [if_neg (by omega)])
                   rw [he, hp]; exact ⟨rfl, hS.keep⟩)
                | (have he : fputE f mtu = 13 := by (unfold fputE; simp [*])
                   have hp : fput f mtu = ⟨#[]⟩ := by (unfold fput; rw [if_neg (by omega)])
                   rw [he, hp]; exact ⟨rfl, hS.keep⟩)
                | (have he : fputE f mtu = 3 := by (unfold fputE; simp [*])
                   have hp : fput f mtu = ⟨#[]⟩ := by (unfold fput; rw [if_neg (by omega)])
                   rw [he, hp]; exact ⟨rfl, hS.keep⟩)
                | (have he : fputE f mtu = 0 := by (unfold fputE; simp [*])
                   have hp : fput f mtu = fbytes f := by (unfold fput; rw [if_pos he])
                   rw [he, hp]; exact ⟨rfl, hS.keep⟩)
          · try simp only [zq1, zq2, zq3, zq4, zq5, zq6, zq7] at hg33
            refine wl_off rfl rfl rfl rfl ?_
            refine wl_off rfl rfl rfl rfl ?_
            refine wl_off rfl rfl rfl rfl ?_
            refine wl (y_pickF rfl rfl) rfl ?_
            refine wl (y_assign rfl) rfl ?_
            refine wl_nil ?_
            refine wc_ifF rfl rfl ?_
            refine wc_skip ?_
            refine wc_seq ?_
            refine wc_region ?_
            refine wl (y_loadS st_42 sz_42 rfl (hS.cells (vs := [_, _, _, _]) rfl) rfl) rfl ?_
            refine wl_call (.cons rfl .nil) (fseal_c hG f (by omega) (by omega) (by omega) hd hS) rfl ?_
            rintro _ w ⟨rfl, hS⟩
            refine wl (y_assign rfl) rfl ?_
            refine wl_nil ?_
            refine wc_seq ?_
            refine wc_seq ?_
            refine wc_region ?_
            refine wl (y_move rfl) rfl ?_
            refine wl (y_len_s Tryz.underlying9 rfl) rfl ?_
            refine wl (y_move rfl) rfl ?_
            refine wl (y_gtr rfl rfl) rfl ?_
            refine wl_nil ?_
            refine wc_if rfl (fun hc43 => ?_) (fun hc43 => ?_)
            · try simp only [zq1, zq2, zq3, zq4, zq5, zq6, zq7] at hc43
              refine wc_seq ?_
              refine wc_region ?_
              refine wl (y_assign rfl) rfl ?_
              refine wl (y_assign rfl) rfl ?_
              refine wl_nil ?_
              refine wc_ret ?_
              refine wret (vs := [_, _]) (.tmp rfl (.tmp rfl .nil)) ?_
              first
              | (have he : fputE f mtu = 1 := by (unfold fputE; simp [*])
                 have hp : fput f mtu = ⟨#[]⟩ := by (unfold fput; rw [if_neg (by omega)])
                 rw [he, hp]; exact ⟨rfl, hS.keep⟩)
              | (have he : fputE f mtu = 13 := by (unfold fputE; simp [*])
                 have hp : fput f mtu = ⟨#[]⟩ := by (unfold fput; rw [if_neg (by omega)])
                 rw [he, hp]; exact ⟨rfl, hS.keep⟩)
              | (have he : fputE f mtu = 3 := by (unfold fputE; simp [*])
                 have hp : fput f mtu = ⟨#[]⟩ := by (unfold fput; rw [if_neg (by omega)])
                 rw [he, hp]; exact ⟨rfl, hS.keep⟩)
              | (have he : fputE f mtu = 0 := by (unfold fputE; simp [*])
                 have hp : fput f mtu = fbytes f := by (unfold fput; rw [if_pos he])
                 rw [he, hp]; exact ⟨rfl, hS.keep⟩)
            · try simp only [zq1, zq2, zq3, zq4, zq5, zq6, zq7] at hc43
              refine wc_skip ?_
              refine wc_seq ?_
              refine wc_region ?_
              refine wl (y_move rfl) rfl ?_
              refine wl (y_assign rfl) rfl ?_
              refine wl (y_assign rfl) rfl ?_
              refine wl_nil ?_
              refine wc_ret ?_
              refine wret (vs := [_, _]) (.tmp rfl (.tmp rfl .nil)) ?_
              first
              | (have he : fputE f mtu = 1 := by (unfold fputE; simp [*])
                 have hp : fput f mtu = ⟨#[]⟩ := by (unfold fput; rw [if_neg (by omega)])
                 rw [he, hp]; exact ⟨rfl, hS.keep⟩)
              | (have he : fputE f mtu = 13 := by (unfold fputE; simp [*])
                 have hp : fput f mtu = ⟨#[]⟩ := by (unfold fput; rw [if_neg (by omega)])
                 rw [he, hp]; exact ⟨rfl, hS.keep⟩)
              | (have he : fputE f mtu = 3 := by (unfold fputE; simp [*])
                 have hp : fput f mtu = ⟨#[]⟩ := by (unfold fput; rw [if_neg (by omega)])
                 rw [he, hp]; exact ⟨rfl, hS.keep⟩)
              | (have he : fputE f mtu = 0 := by (unfold fputE; simp [*])
                 have hp : fput f mtu = fbytes f := by (unfold fput; rw [if_pos he])
                 rw [he, hp]; exact ⟨rfl, hS.keep⟩)

def opS : Option ByteArray → ByteArray
  | none => ByteArray.empty
  | some s => s
theorem openV_eq' (o : Option ByteArray) : openV o = .tuple [.string (opS o), .bool o.isSome].toArray := by cases o <;> rfl
theorem open_size {b s : ByteArray} (h : open_ b = some s) : s.size ≤ b.size := by
  unfold open_ at h
  split at h
  · cases h
  · split at h
    · simp only [Option.some.injEq] at h; rw [← h, ByteArray.size_extract]; omega
    · cases h
theorem fget_c (hG : Bits M) (b : ByteArray) (hb : b.size ≤ 140737488351232) (hS : St M w Ls) :
    CallsR Tryz.prog 18 [.string b].toArray w fun v w' => v = .tuple [fv (fget b), .int .i64 (fgetE b)].toArray ∧ St M w' Ls := by
  unfold fget fgetE
  refine calls_of (c := _) (rs := _) (n := 53) Tryz.func18 rfl rfl rfl rfl rfl ?_
  refine wc_seq ?_
  refine wc_region ?_
  refine a_alloc z_42 hS rfl fun b2 w hS => ?_
  refine wl (y_assign rfl) rfl ?_
  refine wl_nil ?_
  refine wc_seq ?_
  refine wc_region ?_
  refine wl (y_move rfl) rfl ?_
  refine wl_call (.cons rfl .nil) (open_c b hb hS) rfl ?_
  rintro _ w ⟨rfl, hS⟩
  rw [openV_eq']
  obtain ⟨o, ho⟩ : ∃ o, open_ b = o := ⟨_, rfl⟩
  rw [ho]
  refine wl (y_move rfl) rfl ?_
  refine wl (y_extract (vs := [_, _]) rfl rfl) rfl ?_
  refine wl (y_extract (vs := [_, _]) rfl rfl) rfl ?_
  refine wl (y_assign rfl) rfl ?_
  refine wl (y_assign rfl) rfl ?_
  refine wl_nil ?_
  refine wc_seq ?_
  refine wc_seq ?_
  refine wc_region ?_
  refine wl (y_move rfl) rfl ?_
  refine wl (y_not rfl) rfl ?_
  refine wl_nil ?_
  refine wc_if rfl (fun hc15 => ?_) (fun hc15 => ?_)
  · try simp only [zq1, zq2, zq3, zq4, zq5, zq6, zq7] at hc15
    have hn : o = none := by cases o with
      | none => rfl
      | some s => cases hc15
    subst hn
    simp only
    refine wc_seq ?_
    refine wc_region ?_
    refine wl (y_build (is := []) (xs := []) (out := [_, _, _, _]) plc_42 z_42 .nil rfl) rfl ?_
    refine a_storeS (vs := [_, _, _, _]) sz_42 rfl rfl rfl rfl hS (Nat.le_of_ble_eq_true rfl) fun w hS => ?_
    refine wl (y_assign rfl) rfl ?_
    refine wl_nil ?_
    refine wc_ret ?_
    refine wret (vs := [_, _]) (.cell rfl (loadVar_struct st_42 sz_42 (vs := [_, _, _, _]) rfl (hS.cells rfl)) (.tmp rfl .nil)) ?_
    exact ⟨rfl, hS.keep⟩
  · try simp only [zq1, zq2, zq3, zq4, zq5, zq6, zq7] at hc15
    obtain ⟨s, rfl⟩ : ∃ s, o = some s := by cases o with
      | none => cases hc15
      | some s => exact ⟨s, rfl⟩
    have hss := open_size ho
    simp only
    obtain ⟨g1, g1', g2, g3, g4, g5⟩ := fg_ok s (by omega)
    have h0 : (⟨s, 0, 0⟩ : Rdr).ok := ⟨Nat.zero_le _, by simp only; omega⟩
    have e1 : rnum ⟨s, 0, 0⟩ 1099511627776 = fg1 s := by rw [fg1]
    have e2 : rnum (fg1' s) 1125899906842624 = fg2 s := by rw [fg2]
    have e3 : rnum (fg2 s).2 1125899906842624 = fg3 s := by rw [fg3]
    have e4 : rtext (fg3 s).2 1400 = fg4 s := by rw [fg4]
    have ee : (rend (fg5 s)).e = fge s := by rw [fge]
    refine wc_skip ?_
    refine wc_seq ?_
    refine wc_region ?_
    refine wl (y_move rfl) rfl ?_
    refine wl_call (.cons rfl .nil) (read_c s hS) rfl ?_
    rintro _ w ⟨p, rfl, hS⟩
    refine wl (y_assign rfl) rfl ?_
    refine wl_nil ?_
    refine wc_seq ?_
    refine wc_region ?_
    refine wl (y_move rfl) rfl ?_
    refine wl_call (.cons rfl (.cons rfl .nil)) (rnum_c hG 1099511627776 (by decide) h0 hS) rfl ?_
    rintro _ w ⟨rfl, hS⟩
    rw [e1] at hS ⊢
    refine wl (y_build (is := [0]) (xs := [_]) (out := [_, _, _, _]) plc_42 z_42 (.cons rfl .nil) rfl) rfl ?_
    refine a_alloc z_42 hS rfl fun b7 w hS => ?_
    refine a_storeS (vs := [_, _, _, _]) sz_42 rfl rfl rfl rfl hS (Nat.le_of_ble_eq_true rfl) fun w hS => ?_
    refine wl_nil ?_
    simp only [List.setIfInBounds_toArray, List.set_cons_zero, List.set_cons_succ, Nat.zero_add, Nat.add_zero, cells_agg, setCells] at hS
    refine wc_seq ?_
    refine wc_seq ?_
    refine wc_region ?_
    refine wl (y_fld fl_42_0 rfl) rfl ?_
    refine wl (y_load pl_3 rfl (hS.cell rfl)) rfl ?_
    refine wl (y_eql rfl rfl) rfl ?_
    refine wl_nil ?_
    refine wc_if rfl (fun hc24 => ?_) (fun hc24 => ?_)
    · try simp only [zq1, zq2, zq3, zq4, zq5, zq6, zq7] at hc24
      have e1' : rfail (fg1 s).2 1 = fg1' s := by unfold fg1'; rw [if_pos (by omega)]
      refine wc_region ?_
      refine wl (y_move rfl) rfl ?_
      refine wl_call (.cons rfl (.cons rfl .nil)) (rfail_c 1 (hS.pull [(p, rdrO (fg1 s).2)])) rfl ?_
      intro _ w hS
      rw [e1'] at hS
      refine wl_nil ?_
      refine wc_seq ?_
      refine wc_region ?_
      refine wl (y_move rfl) rfl ?_
      refine wl_call (.cons rfl (.cons rfl .nil)) (rnum_c hG 1125899906842624 (by decide) g1' (hS.pull [(p, rdrO (fg1' s))])) rfl ?_
      rintro _ w ⟨rfl, hS⟩
      rw [e2] at hS ⊢
      refine wl (y_move rfl) rfl ?_
      refine wl_call (.cons rfl (.cons rfl .nil)) (rnum_c hG 1125899906842624 (by decide) g2 (hS.pull [(p, rdrO (fg2 s).2)])) rfl ?_
      rintro _ w ⟨rfl, hS⟩
      rw [e3] at hS ⊢
      refine wl (y_fld fl_42_1 rfl) rfl ?_
      refine a_store sz_3 rfl rfl rfl hS (Nat.le_of_ble_eq_true rfl) fun w hS => ?_
      refine wl (y_fld fl_42_2 rfl) rfl ?_
      refine a_store sz_3 rfl rfl rfl hS (Nat.le_of_ble_eq_true rfl) fun w hS => ?_
      refine wl_nil ?_
      simp only [List.setIfInBounds_toArray, List.set_cons_zero, List.set_cons_succ, Nat.zero_add, Nat.add_zero, cells_agg, setCells] at hS
      refine wc_seq ?_
      refine wc_seq ?_
      refine wc_region ?_
      refine wl (y_move rfl) rfl ?_
      refine wl_call (.cons rfl (.cons rfl .nil)) (rtext_c hG 1400 (by decide) g3 (hS.pull [(p, rdrO (fg3 s).2)])) rfl ?_
      rintro _ w ⟨rfl, hS⟩
      rw [e4] at hS ⊢
      refine wl (y_fld fl_42_3 rfl) rfl ?_
      refine a_store sz_9 rfl rfl rfl hS (Nat.le_of_ble_eq_true rfl) fun w hS => ?_
      refine wl_nil ?_
      simp only [List.setIfInBounds_toArray, List.set_cons_zero, List.set_cons_succ, Nat.zero_add, Nat.add_zero, cells_agg, setCells] at hS
      refine wc_seq ?_
      refine wc_region ?_
      refine wl (y_fld fl_42_3 rfl) rfl ?_
      refine wl (y_load pl_9 rfl (hS.cell rfl)) rfl ?_
      refine wl (y_sneq rfl rfl) rfl ?_
      refine wl (y_move rfl) rfl ?_
      refine wl_cases (s := 39) rfl (fun hg39 => ?_) (fun hg39 => ?_)
      · try simp only [zq1, zq2, zq3, zq4, zq5, zq6, zq7] at hg39
        refine wl_on rfl rfl ?_
        refine wl (y_fld fl_42_1 rfl) rfl ?_
        refine wl_on rfl rfl ?_
        refine wl (y_load pl_3 rfl (hS.cell rfl)) rfl ?_
        refine wl_on rfl rfl ?_
        refine wl (y_eql rfl rfl) rfl ?_
        refine wl (y_pickT rfl rfl) rfl ?_
        refine wl_nil ?_
        refine wc_if rfl (fun hc43 => ?_) (fun hc43 => ?_)
        · try simp only [zq1, zq2, zq3, zq4, zq5, zq6, zq7] at hc43
          have e5 : rfail (fg4 s).2 13 = fg5 s := by unfold fg5; rw [if_pos hg39, if_pos (by omega)]
          refine wc_region ?_
          refine wl (y_move rfl) rfl ?_
          refine wl_call (.cons rfl (.cons rfl .nil)) (rfail_c 13 (hS.pull [(p, rdrO (fg4 s).2)])) rfl ?_
          intro _ w hS
          rw [e5] at hS
          refine wl_nil ?_
          refine wc_seq ?_
          refine wc_seq ?_
          refine wc_region ?_
          refine wl (y_move rfl) rfl ?_
          refine wl_call (.cons rfl .nil) (rend_c (hS.pull [(p, rdrO (fg5 s))])) rfl ?_
          rintro _ w ⟨rfl, hS⟩
          rw [ee]
          refine wl (y_assign rfl) rfl ?_
          refine wl_nil ?_
          refine wc_seq ?_
          refine wc_region ?_
          refine wl (y_move rfl) rfl ?_
          refine wl (y_neq rfl rfl) rfl ?_
          refine wl_nil ?_
          refine wc_if rfl (fun hc49 => ?_) (fun hc49 => ?_)
          · try simp only [zq1, zq2, zq3, zq4, zq5, zq6, zq7] at hc49
            have hg : fgf s = frm0 := by unfold fgf; rw [if_neg (by omega)]
            rw [hg]
            refine wc_seq ?_
            refine wc_region ?_
            refine wl (y_build (is := []) (xs := []) (out := [_, _, _, _]) plc_42 z_42 .nil rfl) rfl ?_
            refine wl (y_move rfl) rfl ?_
            refine a_storeS (vs := [_, _, _, _]) sz_42 rfl rfl rfl rfl hS (Nat.le_of_ble_eq_true rfl) fun w hS => ?_
            refine wl (y_assign rfl) rfl ?_
            refine wl_nil ?_
            refine wc_ret ?_
            refine wret (vs := [_, _]) (.cell rfl (loadVar_struct st_42 sz_42 (vs := [_, _, _, _]) rfl (hS.cells rfl)) (.tmp rfl .nil)) ?_
            exact ⟨rfl, hS.keep⟩
          · try simp only [zq1, zq2, zq3, zq4, zq5, zq6, zq7] at hc49
            have hg : fgf s = ⟨(fg1 s).1, (fg2 s).1, (fg3 s).1, (fg4 s).1⟩ := by unfold fgf; rw [if_pos (by omega)]
            have hz : fge s = 0 := by omega
            rw [hg, hz]
            refine wc_skip ?_
            refine wc_seq ?_
            refine wc_region ?_
            refine wl (y_loadS st_42 sz_42 rfl (hS.cells (vs := [_, _, _, _]) rfl) rfl) rfl ?_
            refine a_storeS (vs := [_, _, _, _]) sz_42 rfl rfl rfl rfl hS (Nat.le_of_ble_eq_true rfl) fun w hS => ?_
            refine wl (y_assign rfl) rfl ?_
            refine wl_nil ?_
            refine wc_ret ?_
            refine wret (vs := [_, _]) (.cell rfl (loadVar_struct st_42 sz_42 (vs := [_, _, _, _]) rfl (hS.cells rfl)) (.tmp rfl .nil)) ?_
            exact ⟨rfl, hS.keep⟩
        · try simp only [zq1, zq2, zq3, zq4, zq5, zq6, zq7] at hc43
          have e5 : (fg4 s).2 = fg5 s := by unfold fg5; rw [if_pos hg39, if_neg (by omega)]
          rw [e5] at hS
          refine wc_skip ?_
          refine wc_seq ?_
          refine wc_seq ?_
          refine wc_region ?_
          refine wl (y_move rfl) rfl ?_
          refine wl_call (.cons rfl .nil) (rend_c (hS.pull [(p, rdrO (fg5 s))])) rfl ?_
          rintro _ w ⟨rfl, hS⟩
          rw [ee]
          refine wl (y_assign rfl) rfl ?_
          refine wl_nil ?_
          refine wc_seq ?_
          refine wc_region ?_
          refine wl (y_move rfl) rfl ?_
          refine wl (y_neq rfl rfl) rfl ?_
          refine wl_nil ?_
          refine wc_if rfl (fun hc49 => ?_) (fun hc49 => ?_)
          · try simp only [zq1, zq2, zq3, zq4, zq5, zq6, zq7] at hc49
            have hg : fgf s = frm0 := by unfold fgf; rw [if_neg (by omega)]
            rw [hg]
            refine wc_seq ?_
            refine wc_region ?_
            refine wl (y_build (is := []) (xs := []) (out := [_, _, _, _]) plc_42 z_42 .nil rfl) rfl ?_
            refine wl (y_move rfl) rfl ?_
            refine a_storeS (vs := [_, _, _, _]) sz_42 rfl rfl rfl rfl hS (Nat.le_of_ble_eq_true rfl) fun w hS => ?_
            refine wl (y_assign rfl) rfl ?_
            refine wl_nil ?_
            refine wc_ret ?_
            refine wret (vs := [_, _]) (.cell rfl (loadVar_struct st_42 sz_42 (vs := [_, _, _, _]) rfl (hS.cells rfl)) (.tmp rfl .nil)) ?_
            exact ⟨rfl, hS.keep⟩
          · try simp only [zq1, zq2, zq3, zq4, zq5, zq6, zq7] at hc49
            have hg : fgf s = ⟨(fg1 s).1, (fg2 s).1, (fg3 s).1, (fg4 s).1⟩ := by unfold fgf; rw [if_pos (by omega)]
            have hz : fge s = 0 := by omega
            rw [hg, hz]
            refine wc_skip ?_
            refine wc_seq ?_
            refine wc_region ?_
            refine wl (y_loadS st_42 sz_42 rfl (hS.cells (vs := [_, _, _, _]) rfl) rfl) rfl ?_
            refine a_storeS (vs := [_, _, _, _]) sz_42 rfl rfl rfl rfl hS (Nat.le_of_ble_eq_true rfl) fun w hS => ?_
            refine wl (y_assign rfl) rfl ?_
            refine wl_nil ?_
            refine wc_ret ?_
            refine wret (vs := [_, _]) (.cell rfl (loadVar_struct st_42 sz_42 (vs := [_, _, _, _]) rfl (hS.cells rfl)) (.tmp rfl .nil)) ?_
            exact ⟨rfl, hS.keep⟩
      · try simp only [zq1, zq2, zq3, zq4, zq5, zq6, zq7] at hg39
        have e5 : (fg4 s).2 = fg5 s := by unfold fg5; rw [if_neg (by simpa using hg39)]
        rw [e5] at hS
        refine wl_off rfl rfl rfl rfl ?_
        refine wl_off rfl rfl rfl rfl ?_
        refine wl_off rfl rfl rfl rfl ?_
        refine wl (y_pickF rfl rfl) rfl ?_
        refine wl_nil ?_
        refine wc_ifF rfl rfl ?_
        refine wc_skip ?_
        refine wc_seq ?_
        refine wc_seq ?_
        refine wc_region ?_
        refine wl (y_move rfl) rfl ?_
        refine wl_call (.cons rfl .nil) (rend_c (hS.pull [(p, rdrO (fg5 s))])) rfl ?_
        rintro _ w ⟨rfl, hS⟩
        rw [ee]
        refine wl (y_assign rfl) rfl ?_
        refine wl_nil ?_
        refine wc_seq ?_
        refine wc_region ?_
        refine wl (y_move rfl) rfl ?_
        refine wl (y_neq rfl rfl) rfl ?_
        refine wl_nil ?_
        refine wc_if rfl (fun hc49 => ?_) (fun hc49 => ?_)
        · try simp only [zq1, zq2, zq3, zq4, zq5, zq6, zq7] at hc49
          have hg : fgf s = frm0 := by unfold fgf; rw [if_neg (by omega)]
          rw [hg]
          refine wc_seq ?_
          refine wc_region ?_
          refine wl (y_build (is := []) (xs := []) (out := [_, _, _, _]) plc_42 z_42 .nil rfl) rfl ?_
          refine wl (y_move rfl) rfl ?_
          refine a_storeS (vs := [_, _, _, _]) sz_42 rfl rfl rfl rfl hS (Nat.le_of_ble_eq_true rfl) fun w hS => ?_
          refine wl (y_assign rfl) rfl ?_
          refine wl_nil ?_
          refine wc_ret ?_
          refine wret (vs := [_, _]) (.cell rfl (loadVar_struct st_42 sz_42 (vs := [_, _, _, _]) rfl (hS.cells rfl)) (.tmp rfl .nil)) ?_
          exact ⟨rfl, hS.keep⟩
        · try simp only [zq1, zq2, zq3, zq4, zq5, zq6, zq7] at hc49
          have hg : fgf s = ⟨(fg1 s).1, (fg2 s).1, (fg3 s).1, (fg4 s).1⟩ := by unfold fgf; rw [if_pos (by omega)]
          have hz : fge s = 0 := by omega
          rw [hg, hz]
          refine wc_skip ?_
          refine wc_seq ?_
          refine wc_region ?_
          refine wl (y_loadS st_42 sz_42 rfl (hS.cells (vs := [_, _, _, _]) rfl) rfl) rfl ?_
          refine a_storeS (vs := [_, _, _, _]) sz_42 rfl rfl rfl rfl hS (Nat.le_of_ble_eq_true rfl) fun w hS => ?_
          refine wl (y_assign rfl) rfl ?_
          refine wl_nil ?_
          refine wc_ret ?_
          refine wret (vs := [_, _]) (.cell rfl (loadVar_struct st_42 sz_42 (vs := [_, _, _, _]) rfl (hS.cells rfl)) (.tmp rfl .nil)) ?_
          exact ⟨rfl, hS.keep⟩
    · try simp only [zq1, zq2, zq3, zq4, zq5, zq6, zq7] at hc24
      have e1' : (fg1 s).2 = fg1' s := by unfold fg1'; rw [if_neg (by omega)]
      rw [e1'] at hS
      refine wc_skip ?_
      refine wc_seq ?_
      refine wc_region ?_
      refine wl (y_move rfl) rfl ?_
      refine wl_call (.cons rfl (.cons rfl .nil)) (rnum_c hG 1125899906842624 (by decide) g1' (hS.pull [(p, rdrO (fg1' s))])) rfl ?_
      rintro _ w ⟨rfl, hS⟩
      rw [e2] at hS ⊢
      refine wl (y_move rfl) rfl ?_
      refine wl_call (.cons rfl (.cons rfl .nil)) (rnum_c hG 1125899906842624 (by decide) g2 (hS.pull [(p, rdrO (fg2 s).2)])) rfl ?_
      rintro _ w ⟨rfl, hS⟩
      rw [e3] at hS ⊢
      refine wl (y_fld fl_42_1 rfl) rfl ?_
      refine a_store sz_3 rfl rfl rfl hS (Nat.le_of_ble_eq_true rfl) fun w hS => ?_
      refine wl (y_fld fl_42_2 rfl) rfl ?_
      refine a_store sz_3 rfl rfl rfl hS (Nat.le_of_ble_eq_true rfl) fun w hS => ?_
      refine wl_nil ?_
      simp only [List.setIfInBounds_toArray, List.set_cons_zero, List.set_cons_succ, Nat.zero_add, Nat.add_zero, cells_agg, setCells] at hS
      refine wc_seq ?_
      refine wc_seq ?_
      refine wc_region ?_
      refine wl (y_move rfl) rfl ?_
      refine wl_call (.cons rfl (.cons rfl .nil)) (rtext_c hG 1400 (by decide) g3 (hS.pull [(p, rdrO (fg3 s).2)])) rfl ?_
      rintro _ w ⟨rfl, hS⟩
      rw [e4] at hS ⊢
      refine wl (y_fld fl_42_3 rfl) rfl ?_
      refine a_store sz_9 rfl rfl rfl hS (Nat.le_of_ble_eq_true rfl) fun w hS => ?_
      refine wl_nil ?_
      simp only [List.setIfInBounds_toArray, List.set_cons_zero, List.set_cons_succ, Nat.zero_add, Nat.add_zero, cells_agg, setCells] at hS
      refine wc_seq ?_
      refine wc_region ?_
      refine wl (y_fld fl_42_3 rfl) rfl ?_
      refine wl (y_load pl_9 rfl (hS.cell rfl)) rfl ?_
      refine wl (y_sneq rfl rfl) rfl ?_
      refine wl (y_move rfl) rfl ?_
      refine wl_cases (s := 39) rfl (fun hg39 => ?_) (fun hg39 => ?_)
      · try simp only [zq1, zq2, zq3, zq4, zq5, zq6, zq7] at hg39
        refine wl_on rfl rfl ?_
        refine wl (y_fld fl_42_1 rfl) rfl ?_
        refine wl_on rfl rfl ?_
        refine wl (y_load pl_3 rfl (hS.cell rfl)) rfl ?_
        refine wl_on rfl rfl ?_
        refine wl (y_eql rfl rfl) rfl ?_
        refine wl (y_pickT rfl rfl) rfl ?_
        refine wl_nil ?_
        refine wc_if rfl (fun hc43 => ?_) (fun hc43 => ?_)
        · try simp only [zq1, zq2, zq3, zq4, zq5, zq6, zq7] at hc43
          have e5 : rfail (fg4 s).2 13 = fg5 s := by unfold fg5; rw [if_pos hg39, if_pos (by omega)]
          refine wc_region ?_
          refine wl (y_move rfl) rfl ?_
          refine wl_call (.cons rfl (.cons rfl .nil)) (rfail_c 13 (hS.pull [(p, rdrO (fg4 s).2)])) rfl ?_
          intro _ w hS
          rw [e5] at hS
          refine wl_nil ?_
          refine wc_seq ?_
          refine wc_seq ?_
          refine wc_region ?_
          refine wl (y_move rfl) rfl ?_
          refine wl_call (.cons rfl .nil) (rend_c (hS.pull [(p, rdrO (fg5 s))])) rfl ?_
          rintro _ w ⟨rfl, hS⟩
          rw [ee]
          refine wl (y_assign rfl) rfl ?_
          refine wl_nil ?_
          refine wc_seq ?_
          refine wc_region ?_
          refine wl (y_move rfl) rfl ?_
          refine wl (y_neq rfl rfl) rfl ?_
          refine wl_nil ?_
          refine wc_if rfl (fun hc49 => ?_) (fun hc49 => ?_)
          · try simp only [zq1, zq2, zq3, zq4, zq5, zq6, zq7] at hc49
            have hg : fgf s = frm0 := by unfold fgf; rw [if_neg (by omega)]
            rw [hg]
            refine wc_seq ?_
            refine wc_region ?_
            refine wl (y_build (is := []) (xs := []) (out := [_, _, _, _]) plc_42 z_42 .nil rfl) rfl ?_
            refine wl (y_move rfl) rfl ?_
            refine a_storeS (vs := [_, _, _, _]) sz_42 rfl rfl rfl rfl hS (Nat.le_of_ble_eq_true rfl) fun w hS => ?_
            refine wl (y_assign rfl) rfl ?_
            refine wl_nil ?_
            refine wc_ret ?_
            refine wret (vs := [_, _]) (.cell rfl (loadVar_struct st_42 sz_42 (vs := [_, _, _, _]) rfl (hS.cells rfl)) (.tmp rfl .nil)) ?_
            exact ⟨rfl, hS.keep⟩
          · try simp only [zq1, zq2, zq3, zq4, zq5, zq6, zq7] at hc49
            have hg : fgf s = ⟨(fg1 s).1, (fg2 s).1, (fg3 s).1, (fg4 s).1⟩ := by unfold fgf; rw [if_pos (by omega)]
            have hz : fge s = 0 := by omega
            rw [hg, hz]
            refine wc_skip ?_
            refine wc_seq ?_
            refine wc_region ?_
            refine wl (y_loadS st_42 sz_42 rfl (hS.cells (vs := [_, _, _, _]) rfl) rfl) rfl ?_
            refine a_storeS (vs := [_, _, _, _]) sz_42 rfl rfl rfl rfl hS (Nat.le_of_ble_eq_true rfl) fun w hS => ?_
            refine wl (y_assign rfl) rfl ?_
            refine wl_nil ?_
            refine wc_ret ?_
            refine wret (vs := [_, _]) (.cell rfl (loadVar_struct st_42 sz_42 (vs := [_, _, _, _]) rfl (hS.cells rfl)) (.tmp rfl .nil)) ?_
            exact ⟨rfl, hS.keep⟩
        · try simp only [zq1, zq2, zq3, zq4, zq5, zq6, zq7] at hc43
          have e5 : (fg4 s).2 = fg5 s := by unfold fg5; rw [if_pos hg39, if_neg (by omega)]
          rw [e5] at hS
          refine wc_skip ?_
          refine wc_seq ?_
          refine wc_seq ?_
          refine wc_region ?_
          refine wl (y_move rfl) rfl ?_
          refine wl_call (.cons rfl .nil) (rend_c (hS.pull [(p, rdrO (fg5 s))])) rfl ?_
          rintro _ w ⟨rfl, hS⟩
          rw [ee]
          refine wl (y_assign rfl) rfl ?_
          refine wl_nil ?_
          refine wc_seq ?_
          refine wc_region ?_
          refine wl (y_move rfl) rfl ?_
          refine wl (y_neq rfl rfl) rfl ?_
          refine wl_nil ?_
          refine wc_if rfl (fun hc49 => ?_) (fun hc49 => ?_)
          · try simp only [zq1, zq2, zq3, zq4, zq5, zq6, zq7] at hc49
            have hg : fgf s = frm0 := by unfold fgf; rw [if_neg (by omega)]
            rw [hg]
            refine wc_seq ?_
            refine wc_region ?_
            refine wl (y_build (is := []) (xs := []) (out := [_, _, _, _]) plc_42 z_42 .nil rfl) rfl ?_
            refine wl (y_move rfl) rfl ?_
            refine a_storeS (vs := [_, _, _, _]) sz_42 rfl rfl rfl rfl hS (Nat.le_of_ble_eq_true rfl) fun w hS => ?_
            refine wl (y_assign rfl) rfl ?_
            refine wl_nil ?_
            refine wc_ret ?_
            refine wret (vs := [_, _]) (.cell rfl (loadVar_struct st_42 sz_42 (vs := [_, _, _, _]) rfl (hS.cells rfl)) (.tmp rfl .nil)) ?_
            exact ⟨rfl, hS.keep⟩
          · try simp only [zq1, zq2, zq3, zq4, zq5, zq6, zq7] at hc49
            have hg : fgf s = ⟨(fg1 s).1, (fg2 s).1, (fg3 s).1, (fg4 s).1⟩ := by unfold fgf; rw [if_pos (by omega)]
            have hz : fge s = 0 := by omega
            rw [hg, hz]
            refine wc_skip ?_
            refine wc_seq ?_
            refine wc_region ?_
            refine wl (y_loadS st_42 sz_42 rfl (hS.cells (vs := [_, _, _, _]) rfl) rfl) rfl ?_
            refine a_storeS (vs := [_, _, _, _]) sz_42 rfl rfl rfl rfl hS (Nat.le_of_ble_eq_true rfl) fun w hS => ?_
            refine wl (y_assign rfl) rfl ?_
            refine wl_nil ?_
            refine wc_ret ?_
            refine wret (vs := [_, _]) (.cell rfl (loadVar_struct st_42 sz_42 (vs := [_, _, _, _]) rfl (hS.cells rfl)) (.tmp rfl .nil)) ?_
            exact ⟨rfl, hS.keep⟩
      · try simp only [zq1, zq2, zq3, zq4, zq5, zq6, zq7] at hg39
        have e5 : (fg4 s).2 = fg5 s := by unfold fg5; rw [if_neg (by simpa using hg39)]
        rw [e5] at hS
        refine wl_off rfl rfl rfl rfl ?_
        refine wl_off rfl rfl rfl rfl ?_
        refine wl_off rfl rfl rfl rfl ?_
        refine wl (y_pickF rfl rfl) rfl ?_
        refine wl_nil ?_
        refine wc_ifF rfl rfl ?_
        refine wc_skip ?_
        refine wc_seq ?_
        refine wc_seq ?_
        refine wc_region ?_
        refine wl (y_move rfl) rfl ?_
        refine wl_call (.cons rfl .nil) (rend_c (hS.pull [(p, rdrO (fg5 s))])) rfl ?_
        rintro _ w ⟨rfl, hS⟩
        rw [ee]
        refine wl (y_assign rfl) rfl ?_
        refine wl_nil ?_
        refine wc_seq ?_
        refine wc_region ?_
        refine wl (y_move rfl) rfl ?_
        refine wl (y_neq rfl rfl) rfl ?_
        refine wl_nil ?_
        refine wc_if rfl (fun hc49 => ?_) (fun hc49 => ?_)
        · try simp only [zq1, zq2, zq3, zq4, zq5, zq6, zq7] at hc49
          have hg : fgf s = frm0 := by unfold fgf; rw [if_neg (by omega)]
          rw [hg]
          refine wc_seq ?_
          refine wc_region ?_
          refine wl (y_build (is := []) (xs := []) (out := [_, _, _, _]) plc_42 z_42 .nil rfl) rfl ?_
          refine wl (y_move rfl) rfl ?_
          refine a_storeS (vs := [_, _, _, _]) sz_42 rfl rfl rfl rfl hS (Nat.le_of_ble_eq_true rfl) fun w hS => ?_
          refine wl (y_assign rfl) rfl ?_
          refine wl_nil ?_
          refine wc_ret ?_
          refine wret (vs := [_, _]) (.cell rfl (loadVar_struct st_42 sz_42 (vs := [_, _, _, _]) rfl (hS.cells rfl)) (.tmp rfl .nil)) ?_
          exact ⟨rfl, hS.keep⟩
        · try simp only [zq1, zq2, zq3, zq4, zq5, zq6, zq7] at hc49
          have hg : fgf s = ⟨(fg1 s).1, (fg2 s).1, (fg3 s).1, (fg4 s).1⟩ := by unfold fgf; rw [if_pos (by omega)]
          have hz : fge s = 0 := by omega
          rw [hg, hz]
          refine wc_skip ?_
          refine wc_seq ?_
          refine wc_region ?_
          refine wl (y_loadS st_42 sz_42 rfl (hS.cells (vs := [_, _, _, _]) rfl) rfl) rfl ?_
          refine a_storeS (vs := [_, _, _, _]) sz_42 rfl rfl rfl rfl hS (Nat.le_of_ble_eq_true rfl) fun w hS => ?_
          refine wl (y_assign rfl) rfl ?_
          refine wl_nil ?_
          refine wc_ret ?_
          refine wret (vs := [_, _]) (.cell rfl (loadVar_struct st_42 sz_42 (vs := [_, _, _, _]) rfl (hS.cells rfl)) (.tmp rfl .nil)) ?_
          exact ⟨rfl, hS.keep⟩
end
end Go.Proofs.YtndahppmjdbifaaGreatDoor.Fra

set_option linter.unusedVariables false
set_option linter.unusedSimpArgs false
namespace Go.Proofs.YtndahppmjdbifaaGreatDoor.Snd
open Go Go.Proofs Go.Proofs.YtndahppmjdbifaaGreatDoor.Eng

/-! ### layer 10: all data that was given a number, how far it is acknowledged, the bounds -/
structure Snd where
  win : Nat
  last : Nat
  all : List ByteArray
  acked : Nat
def Snd.ok (m : Snd) : Prop := 1 ≤ m.win ∧ m.win ≤ 16 ∧ m.last ≤ 1125899906842624 ∧ m.acked ≤ m.all.length ∧ m.all.length ≤ m.last ∧ m.all.length - m.acked ≤ m.win
/-- data with its numbers, behind number a -/
def pcs (a : Nat) : List ByteArray → List (Nat × ByteArray)
  | [] => []
  | d :: l => (a + 1, d) :: pcs (a + 1) l
def Snd.pieces (m : Snd) : List (Nat × ByteArray) := pcs m.acked (m.all.drop m.acked)
def encPc : Enc (Nat × ByteArray) := ⟨2, fun p => [.int .i64 p.1, .string p.2], fun _ => rfl, by simp [oneC]⟩
def IsS (p : Nat) (m : Snd) (H : Chunk) : Prop := ∃ s Hs, Own 185 encPc s m.pieces Hs ∧ H = (p, .cells #[.int .i64 m.win, .int .i64 m.last, .int .i64 m.all.length, s] 221) :: Hs
def Snd.new (win last : Int) : Snd := ⟨(min (max win 1) 16).toNat, (min (max last 0) 1125899906842624).toNat, [], 0⟩
def Snd.offerE (m : Snd) : Nat := if m.all.length - m.acked = m.win then 7 else if m.all.length = m.last then 8 else 0
def Snd.offer (m : Snd) (d : ByteArray) : Snd := if m.offerE = 0 then ⟨m.win, m.last, m.all ++ [d], m.acked⟩ else m
def Snd.ack (m : Snd) (n : Int) : Snd := if n > m.all.length ∨ n ≤ m.acked then m else ⟨m.win, m.last, m.all, n.toNat⟩
theorem pcs_length (a : Nat) (l : List ByteArray) : (pcs a l).length = l.length := by
  induction l generalizing a with
  | nil => rfl
  | cons d l ih => simp [pcs, ih]
theorem pieces_length (m : Snd) : m.pieces.length = m.all.length - m.acked := by unfold Snd.pieces; rw [pcs_length, List.length_drop]
theorem pcs_append (a : Nat) (l k : List ByteArray) : pcs a (l ++ k) = pcs a l ++ pcs (a + l.length) k := by
  induction l generalizing a with
  | nil => rfl
  | cons d l ih => simp only [List.cons_append, pcs, ih, List.length_cons]; congr 3; omega
theorem pcs_at (a : Nat) (l : List ByteArray) (i : Nat) (d : ByteArray) (h : l[i]? = some d) : (pcs a l)[i]? = some (a + i + 1, d) := by
  induction l generalizing a i with
  | nil => simp at h
  | cons e l ih =>
    cases i with
    | zero => simp at h; subst h; rfl
    | succ i => simp only [pcs, List.getElem?_cons_succ] at h ⊢; rw [ih (a + 1) i h]; congr 2; omega
theorem pcs_drop (a : Nat) (l : List ByteArray) (k : Nat) : (pcs a l).drop k = pcs (a + k) (l.drop k) := by
  induction k generalizing a l with
  | zero => rfl
  | succ k ih =>
    cases l with
    | nil => rfl
    | cons d l => simp only [pcs, List.drop_succ_cons]; rw [ih]; congr 1; omega
theorem Snd.new_ok (win last : Int) : (Snd.new win last).ok := by
  unfold Snd.new Snd.ok
  simp only [List.length_nil]
  refine ⟨by omega, by omega, by omega, by omega, by omega, by omega⟩
theorem Snd.offer_ok {m : Snd} (h : m.ok) (d : ByteArray) : (m.offer d).ok := by
  obtain ⟨h1, h2, h3, h4, h5, h6⟩ := h
  unfold Snd.offer
  split
  · rename_i he
    unfold Snd.offerE at he
    split at he; · cases he
    split at he; · cases he
    unfold Snd.ok
    simp only [List.length_append, List.length_singleton]
    exact ⟨h1, h2, h3, by omega, by omega, by omega⟩
  · exact ⟨h1, h2, h3, h4, h5, h6⟩
theorem Snd.ack_ok {m : Snd} (h : m.ok) (n : Int) : (m.ack n).ok := by
  obtain ⟨h1, h2, h3, h4, h5, h6⟩ := h
  unfold Snd.ack
  split
  · exact ⟨h1, h2, h3, h4, h5, h6⟩
  · unfold Snd.ok; simp only; exact ⟨h1, h2, h3, by omega, h5, by omega⟩
theorem cutFrom {α : Type} {A : Enc α} {e : TypeId} {a : Option Addr} {m c k : Nat} {xs : List α} {H : Chunk} (h : Own e A (.slice a m c) xs H) (hk : k ≤ xs.length) : Own e A (cutV a k m c A.k) (xs.drop k) H := by
  obtain ⟨hm, hc⟩ := h.cap
  rcases h.addr with rfl | ⟨b, o, rfl⟩
  · have hx : xs = [] := by
      rcases h with ⟨_, h2, _⟩ | ⟨b, off, cap, pre, sp, fz, h1, _⟩
      · exact h2
      · cases h1
    subst hx
    obtain rfl : k = 0 := by simpa using hk
    rcases h with ⟨h1, _, rfl⟩ | ⟨b, off, cap, pre, sp, fz, h1, _⟩
    · simp only [Value.slice.injEq] at h1
      obtain ⟨_, rfl, rfl⟩ := h1
      exact .nil
    · cases h1
  · by_cases hck : c = k
    · subst hck
      have hx : xs.drop c = [] := List.drop_eq_nil_of_le hc
      have e1 : cutV (some ⟨b, o, none⟩) c m c A.k = .slice (some ⟨b, o, none⟩) 0 0 := by
        unfold cutV
        rw [if_pos rfl, Nat.sub_self]
        congr 1; omega
      rw [hx, e1]
      exact h.none
    · rw [cutV_lt (by omega), hm]
      exact h.drop hk
section
variable {M : Mem} {w : World} {Ls : List Chunk}
theorem snew_c (win last : Int) (hS : St M w Ls) : CallsR Tryz.prog 172 [.int .i64 win, .int .i64 last].toArray w fun v w' => ∃ p H, v = .pointer (some ⟨p, 0, none⟩) ∧ IsS p (Snd.new win last) H ∧ St M w' (H :: Ls) := by
  refine calls_of (c := _) (rs := _) (n := 13) Tryz.func172 rfl rfl rfl rfl rfl ?_
  refine wc_seq ?_
  refine wc_region ?_
  refine wl (y_assign rfl) rfl ?_
  refine wl_nil ?_
  refine wc_seq ?_
  refine wc_region ?_
  refine wl (y_move rfl) rfl ?_
  refine wl (y_max rfl rfl) rfl ?_
  refine wl ((y_min rfl rfl).val (u := .int .i64 ((min (max win 1) 16).toNat : Nat)) (congrArg (Value.int .i64) (by omega))) rfl ?_
  refine wl (y_move rfl) rfl ?_
  refine wl (y_max rfl rfl) rfl ?_
  refine wl ((y_min rfl rfl).val (u := .int .i64 ((min (max last 0) 1125899906842624).toNat : Nat)) (congrArg (Value.int .i64) (by omega))) rfl ?_
  refine wl (y_build (is := [0, 1]) (xs := [_, _]) (out := [_, _, _, _]) plc_221 z_221 (.cons rfl (.cons rfl .nil)) rfl) rfl ?_
  refine a_box rfl hS rfl fun b12 w hS => ?_
  refine wl (y_assign rfl) rfl ?_
  refine wl_nil ?_
  refine wc_ret ?_
  refine wret (vs := [_]) (.tmp rfl .nil) ?_
  exact ⟨_, _, rfl, ⟨.slice none 0 0, [], .nil, rfl⟩, hS⟩
theorem sunacked_c {p : Nat} {m : Snd} {H : Chunk} (hb : IsS p m H) (hS : St M w (H :: Ls)) : CallsR Tryz.prog 119 [.pointer (some ⟨p, 0, none⟩)].toArray w fun v w' => v = .int .i64 (m.all.length - m.acked : Nat) ∧ St M w' (H :: Ls) := by
  obtain ⟨s, Hs, ho, rfl⟩ := hb
  have hpl := pieces_length m
  obtain ⟨sa, sc, rfl⟩ := ho.slice
  rw [← hpl]
  refine calls_of (c := _) (rs := _) (n := 8) Tryz.func119 rfl rfl rfl rfl rfl ?_
  refine wc_seq ?_
  refine wc_region ?_
  refine wl (y_assign rfl) rfl ?_
  refine wl_nil ?_
  refine wc_seq ?_
  refine wc_region ?_
  refine wl (y_move rfl) rfl ?_
  refine wl (y_nil rfl) rfl ?_
  refine wl (y_fld fl_221_3 rfl) rfl ?_
  refine wl (y_load pl_182 rfl (hS.cell rfl)) rfl ?_
  refine wl (y_len_sl Tryz.underlying182 rfl) rfl ?_
  refine wl (y_assign rfl) rfl ?_
  refine wl_nil ?_
  refine wc_ret ?_
  refine wret (vs := [_]) (.tmp rfl .nil) ?_
  exact ⟨rfl, hS⟩
theorem soffer_c {p : Nat} {m : Snd} {H : Chunk} (d : ByteArray) (hm : m.ok) (hb : IsS p m H) (hS : St M w (H :: Ls)) :
    CallsR Tryz.prog 125 [.pointer (some ⟨p, 0, none⟩), .string d].toArray w fun v w' => ∃ k H', v = .tuple [.int .i64 k, .int .i64 m.offerE].toArray ∧ IsS p (m.offer d) H' ∧ St M w' (H' :: Ls) := by
  have hb0 := hb
  obtain ⟨s, Hs, ho, rfl⟩ := hb
  have hpl := pieces_length m
  obtain ⟨h1, h2, h3, h4, h5, h6⟩ := hm
  obtain ⟨sa, sc, rfl⟩ := ho.slice
  obtain ⟨_, hcap⟩ := ho.cap
  have hoa := ho.addr
  refine calls_of (c := _) (rs := _) (n := 62) Tryz.func125 rfl rfl rfl rfl rfl ?_
  refine wc_seq ?_
  refine wc_region ?_
  refine wl (y_assign rfl) rfl ?_
  refine wl (y_assign rfl) rfl ?_
  refine wl_nil ?_
  refine wc_seq ?_
  refine wc_block ?_
  refine wc_seq ?_
  refine wc_draw (l0 := (lb 11 0)) (fun w => w.cell? ⟨p, 3, none⟩ = some (.slice sa m.pieces.length sc) ∧ w.cell? ⟨p, 0, none⟩ = some (.int .i64 m.win)) [] wide_ rfl rfl fun w hw => ?_
  replace hS := hS.same hw; clear hw
  refine dr_pure (i := 0) (lb 11 1) rfl rfl (by kernel_rfl) (fun w => y_move rfl) ?_
  refine dr_pure (i := 1) (lb 11 3) rfl rfl (by kernel_rfl) (fun w => y_nil rfl) ?_
  refine dr_pure (i := 2) (lb 11 7) rfl rfl (by kernel_rfl) (fun w => y_fld fl_221_3 rfl) ?_
  refine dr_pure (i := 5) (lb 11 39) rfl rfl (by kernel_rfl) (fun w => y_move rfl) ?_
  refine dr_pure (i := 6) (lb 11 103) rfl rfl (by kernel_rfl) (fun w => y_nil rfl) ?_
  refine dr_pure (i := 7) (lb 11 231) rfl rfl (by kernel_rfl) (fun w => y_fld fl_221_0 rfl) ?_
  refine dr_read (i := 3) (lb 11 239) rfl rfl (by kernel_rfl) ⟨hS.cell rfl, hS.cell rfl⟩ (fun w hS => y_load pl_182 rfl hS.1) ?_
  refine dr_pure (i := 4) (lb 11 255) rfl rfl (by kernel_rfl) (fun w => y_len_sl Tryz.underlying182 rfl) ?_
  refine dr_read (i := 8) (lb 11 511) rfl rfl (by kernel_rfl) ⟨hS.cell rfl, hS.cell rfl⟩ (fun w hS => y_load pl_3 rfl hS.2) ?_
  refine dr_pure (i := 9) (lb 11 1023) rfl rfl (by kernel_rfl) (fun w => y_eql rfl rfl) ?_
  refine dr_pure (i := 10) (lb 11 2047) rfl rfl (by kernel_rfl) (fun w => y_assign rfl) ?_
  refine dr_done (by kernel_rfl) ?_
  refine wc_if rfl (fun hc7 => ?_) (fun hc7 => ?_)
  · try simp only [zq1, zq2, zq3, zq4, zq5, zq6, zq7] at hc7
    have he : m.offerE = 7 := by unfold Snd.offerE; rw [if_pos (by omega)]
    have hq : m.offer d = m := by unfold Snd.offer; rw [if_neg (by omega)]
    rw [he, hq]
    refine wc_seq ?_
    refine wc_region ?_
    refine wl (y_assign rfl) rfl ?_
    refine wl (y_assign rfl) rfl ?_
    refine wl_nil ?_
    refine wc_ret ?_
    refine wret (vs := [_, _]) (.tmp rfl (.tmp rfl .nil)) ?_
    first
    | exact ⟨0, _, rfl, hb0, hS⟩
    | exact ⟨((m.all.length : Int) + 1), _, rfl, ⟨_, _, by rw [hpc]; exact ho1, rfl⟩, (by have hl : (((m.all ++ [d]).length : Nat) : Int) = (m.all.length : Int) + 1 := by simp
                                                                                          rw [hl]; exact hS.keep)⟩
  · try simp only [zq1, zq2, zq3, zq4, zq5, zq6, zq7] at hc7
    refine wc_seq ?_
    refine wc_draw (l0 := (lb 10 0)) (fun w => w.cell? ⟨p, 2, none⟩ = some (.int .i64 m.all.length) ∧ w.cell? ⟨p, 1, none⟩ = some (.int .i64 m.last)) [] wide_ rfl rfl fun w hw => ?_
    replace hS := hS.same hw; clear hw
    refine dr_pure (i := 0) (lb 10 1) rfl rfl (by kernel_rfl) (fun w => y_move rfl) ?_
    refine dr_pure (i := 1) (lb 10 3) rfl rfl (by kernel_rfl) (fun w => y_nil rfl) ?_
    refine dr_pure (i := 2) (lb 10 7) rfl rfl (by kernel_rfl) (fun w => y_fld fl_221_2 rfl) ?_
    refine dr_pure (i := 4) (lb 10 23) rfl rfl (by kernel_rfl) (fun w => y_move rfl) ?_
    refine dr_pure (i := 5) (lb 10 55) rfl rfl (by kernel_rfl) (fun w => y_nil rfl) ?_
    refine dr_pure (i := 6) (lb 10 119) rfl rfl (by kernel_rfl) (fun w => y_fld fl_221_1 rfl) ?_
    refine dr_read (i := 3) (lb 10 127) rfl rfl (by kernel_rfl) ⟨hS.cell rfl, hS.cell rfl⟩ (fun w hS => y_load pl_3 rfl hS.1) ?_
    refine dr_read (i := 7) (lb 10 255) rfl rfl (by kernel_rfl) ⟨hS.cell rfl, hS.cell rfl⟩ (fun w hS => y_load pl_3 rfl hS.2) ?_
    refine dr_pure (i := 8) (lb 10 511) rfl rfl (by kernel_rfl) (fun w => y_eql rfl rfl) ?_
    refine dr_pure (i := 9) (lb 10 1023) rfl rfl (by kernel_rfl) (fun w => y_assign rfl) ?_
    refine dr_done (by kernel_rfl) ?_
    refine wc_if rfl (fun hc18 => ?_) (fun hc18 => ?_)
    · try simp only [zq1, zq2, zq3, zq4, zq5, zq6, zq7] at hc18
      have he : m.offerE = 8 := by unfold Snd.offerE; rw [if_neg (by omega), if_pos (by omega)]
      have hq : m.offer d = m := by unfold Snd.offer; rw [if_neg (by omega)]
      rw [he, hq]
      refine wc_seq ?_
      refine wc_region ?_
      refine wl (y_assign rfl) rfl ?_
      refine wl (y_assign rfl) rfl ?_
      refine wl_nil ?_
      refine wc_ret ?_
      refine wret (vs := [_, _]) (.tmp rfl (.tmp rfl .nil)) ?_
      first
      | exact ⟨0, _, rfl, hb0, hS⟩
      | exact ⟨((m.all.length : Int) + 1), _, rfl, ⟨_, _, by rw [hpc]; exact ho1, rfl⟩, (by have hl : (((m.all ++ [d]).length : Nat) : Int) = (m.all.length : Int) + 1 := by simp
                                                                                            rw [hl]; exact hS.keep)⟩
    · try simp only [zq1, zq2, zq3, zq4, zq5, zq6, zq7] at hc18
      have he : m.offerE = 0 := by unfold Snd.offerE; rw [if_neg (by omega), if_neg (by omega)]
      have hq : m.offer d = ⟨m.win, m.last, m.all ++ [d], m.acked⟩ := by unfold Snd.offer; rw [if_pos he]
      rw [he, hq]
      have hpc : (⟨m.win, m.last, m.all ++ [d], m.acked⟩ : Snd).pieces = m.pieces ++ [(m.all.length + 1, d)] := by
        unfold Snd.pieces
        simp only
        rw [List.drop_append_of_le_length h4, pcs_append]
        congr 1
        simp only [pcs, List.length_drop]
        congr 2; omega
      refine wc_skip ?_
      refine wc_seq ?_
      refine wc_region ?_
      refine wl (y_move rfl) rfl ?_
      refine wl (y_nil rfl) rfl ?_
      refine wl (y_fld fl_221_2 rfl) rfl ?_
      refine wl (y_load pl_3 rfl (hS.cell rfl)) rfl ?_
      refine wl (y_add rfl rfl (w64 (by omega) (by omega))) rfl ?_
      refine wl (y_nil rfl) rfl ?_
      refine wl (y_fld fl_221_2 rfl) rfl ?_
      refine a_store sz_3 rfl rfl rfl hS (Nat.le_of_ble_eq_true rfl) fun w hS => ?_
      refine wl_nil ?_
      simp only [List.setIfInBounds_toArray, List.set_cons_zero, List.set_cons_succ, Nat.zero_add, Nat.add_zero, cells_agg, setCells] at hS
      refine wc_seq ?_
      refine wc_region ?_
      refine wl (y_move rfl) rfl ?_
      refine wl (y_nil rfl) rfl ?_
      refine wl (y_fld fl_221_3 rfl) rfl ?_
      refine wl (y_load pl_182 rfl (hS.cell rfl)) rfl ?_
      refine wl (y_len_sl Tryz.underlying182 rfl) rfl ?_
      refine wl (y_assign rfl) rfl ?_
      refine wl_nil ?_
      refine wc_seq ?_
      refine wc_draw (l0 := (lb 19 0)) (fun w => w.cell? ⟨p, 3, none⟩ = some (.slice sa m.pieces.length sc) ∧ w.cell? ⟨p, 2, none⟩ = some (.int .i64 ((m.all.length : Int) + 1))) [15, 18] wide_ rfl rfl fun w hw => ?_
      replace hS := hS.same hw; clear hw
      refine dr_pure (i := 0) (lb 19 1) rfl rfl (by kernel_rfl) (fun w => y_move rfl) ?_
      refine dr_pure (i := 1) (lb 19 3) rfl rfl (by kernel_rfl) (fun w => y_move rfl) ?_
      refine dr_pure (i := 2) (lb 19 7) rfl rfl (by kernel_rfl) (fun w => y_nil rfl) ?_
      refine dr_pure (i := 3) (lb 19 15) rfl rfl (by kernel_rfl) (fun w => y_fld fl_221_3 rfl) ?_
      refine dr_pure (i := 5) (lb 19 47) rfl rfl (by kernel_rfl) (fun w => y_move rfl) ?_
      refine dr_pure (i := 6) (lb 19 111) rfl rfl (by kernel_rfl) (fun w => y_move rfl) ?_
      refine dr_pure (i := 8) (lb 19 367) rfl rfl (by kernel_rfl) (fun w => y_move rfl) ?_
      refine dr_pure (i := 9) (lb 19 879) rfl rfl (by kernel_rfl) (fun w => y_nil rfl) ?_
      refine dr_pure (i := 10) (lb 19 1903) rfl rfl (by kernel_rfl) (fun w => y_fld fl_221_2 rfl) ?_
      refine dr_pure (i := 12) (lb 19 5999) rfl rfl (by kernel_rfl) (fun w => y_move rfl) ?_
      refine dr_read (i := 4) (lb 19 6015) rfl rfl (by kernel_rfl) ⟨hS.cell rfl, hS.cell rfl⟩ (fun w hS => y_load pl_182 rfl hS.1) ?_
      refine dr_pure (i := 7) (lb 19 6143) rfl rfl (by kernel_rfl) (fun w => y_slCap Tryz.underlying182 sz_185 hoa rfl rfl rfl (by omega) (by omega) (by omega) (by omega) hcap) ?_
      refine dr_read (i := 11) (lb 19 8191) rfl rfl (by kernel_rfl) ⟨hS.cell rfl, hS.cell rfl⟩ (fun w hS => y_load pl_3 rfl hS.2) ?_
      refine dr_pure (i := 13) (lb 19 16383) rfl rfl (by kernel_rfl) (fun w => y_build (is := [0, 1]) (xs := [_, _]) (out := [_, _]) plc_185 z_185 (.cons rfl (.cons rfl .nil)) rfl) ?_
      refine dr_do (i := 14) (lb 19 32767) rfl (by kernel_rfl) ?_
      refine a_bslice encPc [(m.all.length + 1, d)] Tryz.underlying182 sz_185 z_185 rfl (.cons rfl .nil) rfl rfl rfl (by decide) hS rfl fun u Hu w hou hS => ?_
      refine wl_nil ⟨fun _ _ => ⟨hS.cell rfl, hS.cell rfl⟩, ?_⟩
      refine dr_do (i := 15) (lb 19 65535) rfl (by kernel_rfl) ?_
      refine a_append Tryz.underlying182 Tryz.underlying182 sz_185 z_185 rfl by_185 (by decide) rfl rfl ho.cut (hou.holds hS) hS (by simp; omega) rfl fun s1 H1 w ho1 hS => ?_
      obtain ⟨sa1, sc1, rfl⟩ := ho1.slice
      refine wl_nil ⟨fun h => absurd (by decide) h, ?_⟩
      refine dr_pure (i := 16) (lb 19 131071) rfl rfl (by kernel_rfl) (fun w => y_nil rfl) ?_
      refine dr_pure (i := 17) (lb 19 262143) rfl rfl (by kernel_rfl) (fun w => y_fld fl_221_3 rfl) ?_
      refine dr_do (i := 18) (lb 19 524287) rfl (by kernel_rfl) ?_
      refine a_store sz_182 rfl rfl rfl hS (Nat.le_of_ble_eq_true rfl) fun w hS => ?_
      refine wl_nil ⟨fun h => absurd (by decide) h, ?_⟩
      refine dr_done (by kernel_rfl) ?_
      simp only [List.setIfInBounds_toArray, List.set_cons_zero, List.set_cons_succ, Nat.zero_add, Nat.add_zero, cells_agg, setCells] at hS
      refine wc_seq ?_
      refine wc_region ?_
      refine wl (y_move rfl) rfl ?_
      refine wl (y_nil rfl) rfl ?_
      refine wl (y_fld fl_221_2 rfl) rfl ?_
      refine wl (y_load pl_3 rfl (hS.cell rfl)) rfl ?_
      refine wl (y_assign rfl) rfl ?_
      refine wl (y_assign rfl) rfl ?_
      refine wl_nil ?_
      refine wc_ret ?_
      refine wret (vs := [_, _]) (.tmp rfl (.tmp rfl .nil)) ?_
      first
      | exact ⟨0, _, rfl, hb0, hS⟩
      | exact ⟨((m.all.length : Int) + 1), _, rfl, ⟨_, _, by rw [hpc]; exact ho1, rfl⟩, (by have hl : (((m.all ++ [d]).length : Nat) : Int) = (m.all.length : Int) + 1 := by simp
                                                                                            rw [hl]; exact hS.keep)⟩
theorem spieces_c {p : Nat} {m : Snd} {H : Chunk} (hm : m.ok) (hb : IsS p m H) (hS : St M w (H :: Ls)) :
    CallsR Tryz.prog 127 [.pointer (some ⟨p, 0, none⟩)].toArray w fun v w' => ∃ H', Own 185 encPc v m.pieces H' ∧ St M w' (H' :: H :: Ls) := by
  obtain ⟨s, Hs, ho, rfl⟩ := hb
  have hpl := pieces_length m
  obtain ⟨h1, h2, h3, h4, h5, h6⟩ := hm
  obtain ⟨sa, sc, rfl⟩ := ho.slice
  refine calls_of (c := _) (rs := _) (n := 9) Tryz.func127 rfl rfl rfl rfl rfl ?_
  refine wc_seq ?_
  refine wc_region ?_
  refine wl (y_assign rfl) rfl ?_
  refine wl_nil ?_
  refine wc_seq ?_
  refine wc_region ?_
  refine a_bslice encPc [] (vs := []) (ps := []) Tryz.underlying182 sz_185 z_185 rfl .nil rfl rfl rfl (by decide) hS rfl fun u Hu w hou hS => ?_
  refine wl (y_move rfl) rfl ?_
  refine wl (y_nil rfl) rfl ?_
  refine wl (y_fld fl_221_3 rfl) rfl ?_
  refine wl (y_load pl_182 rfl (hS.cell rfl)) rfl ?_
  refine a_append Tryz.underlying182 Tryz.underlying182 sz_185 z_185 rfl by_185 (by decide) rfl rfl hou (ho.holds (hS.pull Hs)) hS (by simp; omega) rfl fun s1 H1 w ho1 hS => ?_
  refine wl (y_assign rfl) rfl ?_
  refine wl_nil ?_
  refine wc_ret ?_
  refine wret (vs := [_]) (.tmp rfl .nil) ?_
  exact ⟨_, ho1, hS.keep⟩

theorem sack_c {p : Nat} {m : Snd} {H : Chunk} (n : Int) (hm : m.ok) (hb : IsS p m H) (hS : St M w (H :: Ls)) :
    CallsR Tryz.prog 138 [.pointer (some ⟨p, 0, none⟩), .int .i64 n].toArray w fun v w' => ∃ k H', v = .int .i64 k ∧ IsS p (m.ack n) H' ∧ St M w' (H' :: Ls) := by
  have hb0 := hb
  obtain ⟨s, Hs, ho, rfl⟩ := hb
  have hpl := pieces_length m
  obtain ⟨h1, h2, h3, h4, h5, h6⟩ := hm
  obtain ⟨sa, sc, rfl⟩ := ho.slice
  obtain ⟨_, hcap⟩ := ho.cap
  have hoa := ho.addr
  refine calls_of (c := _) (rs := _) (n := 49) Tryz.func138 rfl rfl rfl rfl rfl ?_
  refine wc_seq ?_
  refine wc_region ?_
  refine wl (y_assign rfl) rfl ?_
  refine wl_nil ?_
  refine wc_seq ?_
  refine wc_seq ?_
  refine wc_region ?_
  refine wl (y_move rfl) rfl ?_
  refine wl (y_move rfl) rfl ?_
  refine wl (y_nil rfl) rfl ?_
  refine wl (y_fld fl_221_2 rfl) rfl ?_
  refine wl (y_load pl_3 rfl (hS.cell rfl)) rfl ?_
  refine wl (y_gtr rfl rfl) rfl ?_
  refine wl_nil ?_
  refine wc_if rfl (fun hc11 => ?_) (fun hc11 => ?_)
  · try simp only [zq1, zq2, zq3, zq4, zq5, zq6, zq7] at hc11
    have hq : m.ack n = m := by unfold Snd.ack; rw [if_pos (by omega)]
    rw [hq]
    refine wc_seq ?_
    refine wc_region ?_
    refine wl (y_assign rfl) rfl ?_
    refine wl_nil ?_
    refine wc_ret ?_
    refine wret (vs := [_]) (.tmp rfl .nil) ?_
    first
    | exact ⟨0, _, rfl, hb0, hS⟩
    | exact ⟨(g : Int), _, rfl, ⟨_, _, by rw [hpd]; exact ho2, rfl⟩, (by have h := hS.keep (T := ((p, .cells #[.int .i64 m.win, .int .i64 m.last, .int .i64 m.all.length, .slice sa2 (m.pieces.drop g).length sc2] 221) :: H1) :: Ls); exact h)⟩
  · try simp only [zq1, zq2, zq3, zq4, zq5, zq6, zq7] at hc11
    refine wc_skip ?_
    refine wc_seq ?_
    refine wc_region ?_
    refine wl (y_assign rfl) rfl ?_
    refine wl_nil ?_
    refine wc_seq ?_
    refine wc_block ?_
    refine wc_loop (α := Nat) (fun g => [(0, .pointer (some ⟨p, 0, none⟩)), (1, .int .i64 n), (5, .int .i64 g)]) (fun g w => g ≤ m.pieces.length ∧ (0 < g → (m.acked : Int) + g ≤ n) ∧ St M w (((p, .cells #[.int .i64 m.win, .int .i64 m.last, .int .i64 m.all.length, .slice sa m.pieces.length sc] 221) :: Hs) :: Ls)) (fun g => m.pieces.length - g) 0 (sub_cons rfl (sub_cons rfl (sub_cons rfl sub_nil))) ⟨by omega, by omega, hS⟩ ?_
    clear hS
    rintro g w ⟨hg, hgn, hS⟩
    refine wc_seq ?_
    refine wc_seq ?_
    refine wc_region ?_
    refine wl (y_move rfl) rfl ?_
    refine wl (y_move rfl) rfl ?_
    refine wl (y_nil rfl) rfl ?_
    refine wl (y_fld fl_221_3 rfl) rfl ?_
    refine wl (y_load pl_182 rfl (hS.cell rfl)) rfl ?_
    refine wl (y_len_sl Tryz.underlying182 rfl) rfl ?_
    refine wl (y_lss rfl rfl) rfl ?_
    refine wl (y_move rfl) rfl ?_
    refine wl_cases (s := 19) rfl (fun hg19 => ?_) (fun hg19 => ?_)
    · try simp only [zq1, zq2, zq3, zq4, zq5, zq6, zq7] at hg19
      have hg' : g < m.pieces.length := by omega
      obtain ⟨d, hd⟩ : ∃ d, (m.all.drop m.acked)[g]? = some d := ⟨_, List.getElem?_eq_getElem (by rw [List.length_drop]; omega)⟩
      have hpg : m.pieces[g]? = some (m.acked + g + 1, d) := pcs_at _ _ _ _ hd
      obtain ⟨bb, off, c', hse, hce⟩ := (ho.holds (hS.pull Hs)).at hpg
      simp only [Value.slice.injEq] at hse
      have hSk := hS
      obtain ⟨rfl, _, rfl⟩ := hse
      replace hS := hSk
      refine wl_on rfl rfl ?_
      refine wl (y_move rfl) rfl ?_
      refine wl_on rfl rfl ?_
      refine wl (y_nil rfl) rfl ?_
      refine wl_on rfl rfl ?_
      refine wl (y_fld fl_221_3 rfl) rfl ?_
      refine wl_on rfl rfl ?_
      refine wl (y_load pl_182 rfl (hS.cell rfl)) rfl ?_
      refine wl_on rfl rfl ?_
      refine wl (y_move rfl) rfl ?_
      refine wl_on rfl rfl ?_
      refine wl (y_ixa_sl Tryz.underlying182 sz_185 rfl rfl (by omega) (by omega)) rfl ?_
      refine wl_on rfl rfl ?_
      refine wl (y_fld fl_185_0 rfl) rfl ?_
      refine wl_on rfl rfl ?_
      refine wl (y_load pl_3 rfl (CellsAt.one (CellsAt.sub (us := [.int .i64 ((m.acked + g + 1 : Nat) : Int)]) hce rfl))) rfl ?_
      refine wl_on rfl rfl ?_
      refine wl (y_move rfl) rfl ?_
      refine wl_on rfl rfl ?_
      refine wl (y_leq rfl rfl) rfl ?_
      refine wl (y_pickT rfl rfl) rfl ?_
      refine wl_nil ?_
      refine wc_if rfl (fun hc30 => ?_) (fun hc30 => ?_)
      · try simp only [zq1, zq2, zq3, zq4, zq5, zq6, zq7] at hc30
        refine wc_skip ?_
        refine wc_block ?_
        refine wc_region ?_
        refine wl (y_move rfl) rfl ?_
        refine wl (y_add rfl rfl (w64 (by omega) (by omega))) rfl ?_
        refine wl (y_assign rfl) rfl ?_
        refine wl_nil ?_
        exact ⟨g + 1, by omega, sub_cons rfl (sub_cons rfl (sub_cons rfl sub_nil)), by omega, by omega, hS⟩
      · try simp only [zq1, zq2, zq3, zq4, zq5, zq6, zq7] at hc30
        refine wc_exit ?_
        refine wc_seq ?_
        have hq : m.ack n = ⟨m.win, m.last, m.all, m.acked + g⟩ := by
          unfold Snd.ack
          by_cases h0 : n ≤ m.acked
          · rw [if_pos (by omega)]
            obtain rfl : g = 0 := by omega
            rfl
          · rw [if_neg (by omega)]
            congr 1
            omega
        rw [hq]
        have hpd : (⟨m.win, m.last, m.all, m.acked + g⟩ : Snd).pieces = m.pieces.drop g := by
          unfold Snd.pieces
          simp only
          rw [pcs_drop, List.drop_drop]
        refine wc_region ?_
        refine wl (y_move rfl) rfl ?_
        refine wl (y_nil rfl) rfl ?_
        refine wl (y_fld fl_221_3 rfl) rfl ?_
        refine wl (y_load pl_182 rfl (hS.cell rfl)) rfl ?_
        refine wl (y_move rfl) rfl ?_
        refine wl (y_slTo' (hv := g) Tryz.underlying182 sz_185 ho.addr rfl rfl (by omega) (by omega) (by omega)) rfl ?_
        refine a_clear_head (r := g) (x0 := ((0 : Nat), ByteArray.empty)) Tryz.underlying182 z_185 rfl rfl ho (by omega) hS fun H1 w ho1 hS => ?_
        have ho2 := cutFrom (k := g) ho1 (by simp)
        have hdr : (List.replicate g ((0 : Nat), ByteArray.empty) ++ m.pieces.drop g).drop g = m.pieces.drop g := by rw [List.drop_append_of_le_length (by simp)]; simp
        rw [hdr] at ho2
        generalize hcv : cutV _ _ _ _ _ = s2 at ho2
        obtain ⟨sa2, sc2, rfl⟩ := ho2.slice
        refine wl_nil ?_
        refine wc_seq ?_
        refine wc_region ?_
        refine wl (y_move rfl) rfl ?_
        refine wl (y_move rfl) rfl ?_
        refine wl (y_nil rfl) rfl ?_
        refine wl (y_fld fl_221_3 rfl) rfl ?_
        refine wl (y_load pl_182 rfl (hS.cell rfl)) rfl ?_
        refine wl (y_move rfl) rfl ?_
        refine wl ((y_slFrom (lv := g) Tryz.underlying182 sz_185 rfl rfl (by omega) (by omega) (by omega)).val hcv) rfl ?_
        refine wl (y_nil rfl) rfl ?_
        refine wl (y_fld fl_221_3 rfl) rfl ?_
        refine a_store sz_182 rfl rfl rfl hS (Nat.le_of_ble_eq_true rfl) fun w hS => ?_
        refine wl_nil ?_
        simp only [List.setIfInBounds_toArray, List.set_cons_zero, List.set_cons_succ, Nat.zero_add, Nat.add_zero, cells_agg, setCells] at hS
        refine wc_seq ?_
        refine wc_region ?_
        refine wl (y_move rfl) rfl ?_
        refine wl (y_assign rfl) rfl ?_
        refine wl_nil ?_
        refine wc_ret ?_
        refine wret (vs := [_]) (.tmp rfl .nil) ?_
        first
        | exact ⟨0, _, rfl, hb0, hS⟩
        | exact ⟨(g : Int), _, rfl, ⟨_, _, by rw [hpd]; exact ho2, rfl⟩, (by have h := hS.keep (T := ((p, .cells #[.int .i64 m.win, .int .i64 m.last, .int .i64 m.all.length, .slice sa2 (m.pieces.drop g).length sc2] 221) :: H1) :: Ls); exact h)⟩
    · try simp only [zq1, zq2, zq3, zq4, zq5, zq6, zq7] at hg19
      refine wl_off rfl rfl rfl rfl ?_
      refine wl_off rfl rfl rfl rfl ?_
      refine wl_off rfl rfl rfl rfl ?_
      refine wl_off rfl rfl rfl rfl ?_
      refine wl_off rfl rfl rfl rfl ?_
      refine wl_off rfl rfl rfl rfl ?_
      refine wl_off rfl rfl rfl rfl ?_
      refine wl_off rfl rfl rfl rfl ?_
      refine wl_off rfl rfl rfl rfl ?_
      refine wl_off rfl rfl rfl rfl ?_
      refine wl (y_pickF rfl rfl) rfl ?_
      refine wl_nil ?_
      refine wc_ifF rfl rfl ?_
      refine wc_exit ?_
      refine wc_seq ?_
      have hq : m.ack n = ⟨m.win, m.last, m.all, m.acked + g⟩ := by
        unfold Snd.ack
        by_cases h0 : n ≤ m.acked
        · rw [if_pos (by omega)]
          obtain rfl : g = 0 := by omega
          rfl
        · rw [if_neg (by omega)]
          congr 1
          omega
      rw [hq]
      have hpd : (⟨m.win, m.last, m.all, m.acked + g⟩ : Snd).pieces = m.pieces.drop g := by
        unfold Snd.pieces
        simp only
        rw [pcs_drop, List.drop_drop]
      refine wc_region ?_
      refine wl (y_move rfl) rfl ?_
      refine wl (y_nil rfl) rfl ?_
      refine wl (y_fld fl_221_3 rfl) rfl ?_
      refine wl (y_load pl_182 rfl (hS.cell rfl)) rfl ?_
      refine wl (y_move rfl) rfl ?_
      refine wl (y_slTo' (hv := g) Tryz.underlying182 sz_185 ho.addr rfl rfl (by omega) (by omega) (by omega)) rfl ?_
      refine a_clear_head (r := g) (x0 := ((0 : Nat), ByteArray.empty)) Tryz.underlying182 z_185 rfl rfl ho (by omega) hS fun H1 w ho1 hS => ?_
      have ho2 := cutFrom (k := g) ho1 (by simp)
      have hdr : (List.replicate g ((0 : Nat), ByteArray.empty) ++ m.pieces.drop g).drop g = m.pieces.drop g := by rw [List.drop_append_of_le_length (by simp)]; simp
      rw [hdr] at ho2
      generalize hcv : cutV _ _ _ _ _ = s2 at ho2
      obtain ⟨sa2, sc2, rfl⟩ := ho2.slice
      refine wl_nil ?_
      refine wc_seq ?_
      refine wc_region ?_
      refine wl (y_move rfl) rfl ?_
      refine wl (y_move rfl) rfl ?_
      refine wl (y_nil rfl) rfl ?_
      refine wl (y_fld fl_221_3 rfl) rfl ?_
      refine wl (y_load pl_182 rfl (hS.cell rfl)) rfl ?_
      refine wl (y_move rfl) rfl ?_
      refine wl ((y_slFrom (lv := g) Tryz.underlying182 sz_185 rfl rfl (by omega) (by omega) (by omega)).val hcv) rfl ?_
      refine wl (y_nil rfl) rfl ?_
      refine wl (y_fld fl_221_3 rfl) rfl ?_
      refine a_store sz_182 rfl rfl rfl hS (Nat.le_of_ble_eq_true rfl) fun w hS => ?_
      refine wl_nil ?_
      simp only [List.setIfInBounds_toArray, List.set_cons_zero, List.set_cons_succ, Nat.zero_add, Nat.add_zero, cells_agg, setCells] at hS
      refine wc_seq ?_
      refine wc_region ?_
      refine wl (y_move rfl) rfl ?_
      refine wl (y_assign rfl) rfl ?_
      refine wl_nil ?_
      refine wc_ret ?_
      refine wret (vs := [_]) (.tmp rfl .nil) ?_
      first
      | exact ⟨0, _, rfl, hb0, hS⟩
      | exact ⟨(g : Int), _, rfl, ⟨_, _, by rw [hpd]; exact ho2, rfl⟩, (by have h := hS.keep (T := ((p, .cells #[.int .i64 m.win, .int .i64 m.last, .int .i64 m.all.length, .slice sa2 (m.pieces.drop g).length sc2] 221) :: H1) :: Ls); exact h)⟩
end
end Go.Proofs.YtndahppmjdbifaaGreatDoor.Snd

