/-
  Part 6 of the proof: RefC, NstC, GetL, FrpL, FrqL, RefD, RefE, NrsC, Fin, ArgL, ArgC, ResetsProof.
-/
import Derived.Test.YtndahppmjdbifaaGreatDoorPe
import Derived.ProofKit
import Derived.Carry
import Derived.OpenVars
import Derived.OpenShut
import Derived.Deep.Slices
import Derived.LaidMore
import Derived.Lib.SmallJoins
import Derived.Test.YtndahppmjdbifaaGreatDoorRows
import Derived.KernelRfl
import Derived.MakeChecks
import Derived.Test.YtndahppmjdbifaaGreatDoorCards
import Derived.Test.YtndahppmjdbifaaGreatDoorTie
import Derived.ShutString
import Derived.Stop.Joined
import Derived.SevenTiedAt
set_option linter.unusedVariables false
set_option linter.unusedSimpArgs false
namespace Go.Proofs.YtndahppmjdbifaaGreatDoor.Fra
open Go Go.Proofs Go.Proofs.YtndahppmjdbifaaGreatDoor.Eng Go.Proofs.YtndahppmjdbifaaGreatDoor.Pre Go.Proofs.YtndahppmjdbifaaGreatDoor.Pak Go.Proofs.YtndahppmjdbifaaGreatDoor.Crc
theorem rtext_v {r : Rdr} {lim : Nat} (h : (rtext r lim).2.e ≠ 0) : (rtext r lim).1 = ByteArray.empty := by
  have hq : rtext r lim = if (rnum r lim).1 > (rnum r lim).2.b.size - (rnum r lim).2.at_ then (ByteArray.empty, rfail (rnum r lim).2 2) else ((rnum r lim).2.b.extract (rnum r lim).2.at_ ((rnum r lim).2.at_ + (rnum r lim).1), ⟨(rnum r lim).2.b, (rnum r lim).2.at_ + (rnum r lim).1, (rnum r lim).2.e⟩) := by unfold rtext; rfl
  rw [hq] at h ⊢
  split
  · rfl
  · rename_i hc
    rw [if_neg hc] at h
    simp only at h ⊢
    rw [rnum_v h]
    exact bytes_eq (by simp [ByteArray.data_extract])
theorem fge_1 {s : ByteArray} (hs : s.size ≤ 140737488351232) (h : (fg1 s).2.e = 0) (h0 : (fg1 s).1 = 0) : fge s = 1 := by
  obtain ⟨o1, o1', o2, o3, o4, o5⟩ := fg_ok s hs
  have e1 : (fg1' s).e ≠ 0 := by unfold fg1'; rw [if_pos h0, rfail_0 h]; simp
  have e1b : (fg1' s).e = 1 := by unfold fg1'; rw [if_pos h0, rfail_0 h]
  have e2 : fg2 s = (0, fg1' s) := by unfold fg2; exact rnum_e e1 _
  have e3 : fg3 s = (0, fg1' s) := by unfold fg3; rw [e2]; exact rnum_e e1 _
  have e4 : fg4 s = (ByteArray.empty, fg1' s) := by unfold fg4; rw [e3]; exact rtext_e e1 o1' _
  have e5 : fg5 s = fg1' s := by unfold fg5; rw [e4, if_neg (by simp; rfl)]
  unfold fge
  rw [e5, rend_e e1, e1b]
theorem fg1'_eq {s : ByteArray} (h : (fg1 s).2.e ≠ 0 ∨ (fg1 s).1 ≠ 0) : fg1' s = (fg1 s).2 := by
  unfold fg1'
  split
  · rename_i h0
    rcases h with h | h
    · exact rfail_e h 1
    · exact absurd h0 h
  · rfl
theorem fge_13 {s : ByteArray} (h : (fg4 s).2.e = 0) (h0 : (fg2 s).1 = 0) (hd : ¬ (fg4 s).1 = ⟨#[]⟩) : fge s = 13 := by
  have e5 : fg5 s = ⟨(fg4 s).2.b, (fg4 s).2.at_, 13⟩ := by unfold fg5; rw [if_pos hd, if_pos h0, rfail_0 h]
  unfold fge
  rw [e5, rend_e (by simp)]
theorem fge_end {s : ByteArray} (h : (fg4 s).2.e ≠ 0 ∨ (fg2 s).1 ≠ 0 ∨ (fg4 s).1 = ⟨#[]⟩) : fge s = (rend (fg4 s).2).e := by
  have e5 : fg5 s = (fg4 s).2 := by
    unfold fg5
    split
    · rename_i hd
      split
      · rename_i h0
        rcases h with h | h | h
        · exact absurd (by unfold fg4 at h ⊢; exact rtext_v h) hd
        · exact absurd h0 h
        · exact absurd h hd
      · rfl
    · rfl
  unfold fge
  rw [e5]
section
variable {M : Mem} {w : World} {Ls : List Chunk}
abbrev fvO (f : Frm) : Obj := .cells #[.int .i64 f.ep, .int .i64 f.seq, .int .i64 f.ack, .string f.data] 42
theorem qget_c (b : ByteArray) (hb : b.size ≤ 140737488351232) (hS : St M w Ls) :
    CallsR Tryz.prog 21 [.string b].toArray w fun v w' => v = .tuple [fv (fget b), .int .i64 (fgetE b)].toArray ∧ St M w' Ls := by
  unfold fget fgetE
  refine calls_of (c := _) (rs := _) (n := 69) Tryz.func21 rfl rfl rfl rfl rfl ?_
  refine wc_seq ?_
  refine wc_region ?_
  refine a_alloc z_42 hS rfl fun b2 w hS => ?_
  refine wl (y_assign rfl) rfl ?_
  refine wl_nil ?_
  refine wc_seq ?_
  refine wc_region ?_
  refine wl (y_build (is := []) (xs := []) (out := [_, _, _, _]) plc_42 z_42 .nil rfl) rfl ?_
  refine a_alloc z_42 hS rfl fun b4 w hS => ?_
  refine a_storeS (vs := [_, _, _, _]) sz_42 rfl rfl rfl rfl hS (Nat.le_of_ble_eq_true rfl) fun w hS => ?_
  refine wl_nil ?_
  refine wc_seq ?_
  refine wc_region ?_
  refine wl (y_move rfl) rfl ?_
  refine wl_call (.cons rfl .nil) (ropen_c b hb hS) rfl ?_
  rintro _ w ⟨rfl, hS⟩
  rw [ropen_eq, openV_eq']
  generalize ho : open_ b = o
  refine wl (y_move rfl) rfl ?_
  refine wl (y_extract (vs := [_, _]) rfl rfl) rfl ?_
  refine wl (y_extract (vs := [_, _]) rfl rfl) rfl ?_
  refine wl (y_assign rfl) rfl ?_
  refine wl (y_assign rfl) rfl ?_
  refine wl_nil ?_
  refine wc_seq ?_
  refine wc_seq ?_
  refine wc_region ?_
  refine wl (y_move rfl) rfl ?_
  refine wl (y_not rfl) rfl ?_
  refine wl_nil ?_
  refine wc_if rfl (fun hc17 => ?_) (fun hc17 => ?_)
  · try simp only [zq1, zq2, zq3, zq4, zq5, zq6, zq7] at hc17
    have hn : o = none := by cases o with
      | none => rfl
      | some s => simp at hc17
    rw [hn]
    simp only
    refine wc_seq ?_
    refine wc_region ?_
    refine wl (y_loadS st_42 sz_42 rfl (hS.cells (vs := [_, _, _, _]) rfl) rfl) rfl ?_
    refine a_storeS (vs := [_, _, _, _]) sz_42 rfl rfl rfl rfl hS (Nat.le_of_ble_eq_true rfl) fun w hS => ?_
    refine wl (y_assign rfl) rfl ?_
    refine wl_nil ?_
    refine wc_ret ?_
    refine wret (vs := [_, _]) (.cell rfl (loadVar_struct st_42 sz_42 (vs := [_, _, _, _]) rfl (hS.cells rfl)) (.tmp rfl .nil)) ?_
    exact ⟨rfl, hS.keep⟩
  · try simp only [zq1, zq2, zq3, zq4, zq5, zq6, zq7] at hc17
    obtain ⟨s, hs⟩ : ∃ s, o = some s := by cases o with
      | none => simp at hc17
      | some s => exact ⟨s, rfl⟩
    rw [hs] at ho ⊢
    simp only
    have hz := open_size ho
    have hss : s.size ≤ 140737488351232 := by omega
    have h0 : (⟨s, 0, 0⟩ : Rdr).ok := ⟨Nat.zero_le _, hss⟩
    have hd1 : fg1 s = rnum ⟨s, 0, 0⟩ 1099511627776 := by unfold fg1; rfl
    have hd2 : fg2 s = rnum (fg1' s) 1125899906842624 := by unfold fg2; rfl
    have hd3 : fg3 s = rnum (fg2 s).2 1125899906842624 := by unfold fg3; rfl
    have hd4 : fg4 s = rtext (fg3 s).2 1400 := by unfold fg4; rfl
    obtain ⟨o1, o1', o2, o3, o4, o5⟩ := fg_ok s hss
    have hff : fgf s = if fge s = 0 then ⟨(fg1 s).1, (fg2 s).1, (fg3 s).1, (fg4 s).1⟩ else frm0 := by unfold fgf; rfl
    refine wc_skip ?_
    refine wc_seq ?_
    refine wc_region ?_
    refine wl (y_move rfl) rfl ?_
    refine wl (y_build (is := [0]) (xs := [_]) (out := [_, _, _]) plc_120 z_120 (.cons rfl .nil) rfl) rfl ?_
    refine a_box rfl hS rfl fun b21 w hS => ?_
    refine wl (y_assign rfl) rfl ?_
    refine wl_nil ?_
    replace hS : St M w ([(b21, rdrQ ⟨s, 0, 0⟩)] :: _) := hS
    refine wc_seq ?_
    refine wc_region ?_
    refine wl (y_build (is := []) (xs := []) (out := [_, _, _, _]) plc_42 z_42 .nil rfl) rfl ?_
    refine a_alloc z_42 hS rfl fun b8 w hS => ?_
    refine a_storeS (vs := [_, _, _, _]) sz_42 rfl rfl rfl rfl hS (Nat.le_of_ble_eq_true rfl) fun w hS => ?_
    refine wl_nil ?_
    refine wc_seq ?_
    refine wc_region ?_
    refine wl (y_move rfl) rfl ?_
    refine wl_call (.cons rfl (.cons rfl .nil)) (qnum_c 1099511627776 (by decide) h0 (hS.pull [(b21, rdrQ ⟨s, 0, 0⟩)])) rfl ?_
    rintro _ w ⟨rfl, hS⟩
    rw [← hd1] at hS ⊢
    refine wl (y_fld fl_42_0 rfl) rfl ?_
    refine a_store sz_3 rfl rfl rfl hS (Nat.le_of_ble_eq_true rfl) fun w hS => ?_
    refine wl_nil ?_
    refine wc_seq ?_
    refine wc_seq ?_
    refine wc_region ?_
    refine wl (y_move rfl) rfl ?_
    refine wl (y_nil rfl) rfl ?_
    refine wl (y_fld fl_120_2 rfl) rfl ?_
    refine wl (y_load pl_3 rfl (hS.cell (v := .int .i64 (fg1 s).2.e) rfl)) rfl ?_
    refine wl (y_eql rfl rfl) rfl ?_
    refine wl (y_move rfl) rfl ?_
    refine wl_cases (s := 31) rfl (fun hg31 => ?_) (fun hg31 => ?_)
    · try simp only [zq1, zq2, zq3, zq4, zq5, zq6, zq7] at hg31
      refine wl_on rfl rfl ?_
      refine wl (y_fld fl_42_0 rfl) rfl ?_
      refine wl_on rfl rfl ?_
      refine wl (y_load pl_3 rfl (hS.cell (v := .int .i64 (fg1 s).1) rfl)) rfl ?_
      refine wl_on rfl rfl ?_
      refine wl (y_eql rfl rfl) rfl ?_
      refine wl (y_pickT rfl rfl) rfl ?_
      refine wl_nil ?_
      refine wc_if rfl (fun hc35 => ?_) (fun hc35 => ?_)
      · try simp only [zq1, zq2, zq3, zq4, zq5, zq6, zq7] at hc35
        have hge : fge s = 1 := fge_1 hss (by omega) (by omega)
        rw [hff, if_neg (by omega), hge]
        refine wc_seq ?_
        refine wc_region ?_
        refine wl (y_loadS st_42 sz_42 rfl (hS.cells (vs := [_, _, _, _]) rfl) rfl) rfl ?_
        refine a_storeS (vs := [_, _, _, _]) sz_42 rfl rfl rfl rfl hS (Nat.le_of_ble_eq_true rfl) fun w hS => ?_
        refine wl (y_assign rfl) rfl ?_
        refine wl_nil ?_
        refine wc_ret ?_
        refine wret (vs := [_, _]) (.cell rfl (loadVar_struct st_42 sz_42 (vs := [_, _, _, _]) rfl (hS.cells rfl)) (.tmp rfl .nil)) ?_
        exact ⟨rfl, hS.keep⟩
      · try simp only [zq1, zq2, zq3, zq4, zq5, zq6, zq7] at hc35
        have hp := fg1'_eq (s := s) (.inr (by omega))
        refine wc_skip ?_
        refine wc_seq ?_
        rw [← hp] at hS
        refine wc_region ?_
        refine wl (y_move rfl) rfl ?_
        refine wl_call (.cons rfl (.cons rfl .nil)) (qnum_c 1125899906842624 (by decide) o1' (hS.pull [(b21, rdrQ (fg1' s))])) rfl ?_
        rintro _ w ⟨rfl, hS⟩
        rw [← hd2] at hS ⊢
        refine wl (y_fld fl_42_1 rfl) rfl ?_
        refine a_store sz_3 rfl rfl rfl hS (Nat.le_of_ble_eq_true rfl) fun w hS => ?_
        refine wl_nil ?_
        refine wc_seq ?_
        refine wc_region ?_
        refine wl (y_move rfl) rfl ?_
        refine wl_call (.cons rfl (.cons rfl .nil)) (qnum_c 1125899906842624 (by decide) o2 (hS.pull [(b21, rdrQ (fg2 s).2)])) rfl ?_
        rintro _ w ⟨rfl, hS⟩
        rw [← hd3] at hS ⊢
        refine wl (y_fld fl_42_2 rfl) rfl ?_
        refine a_store sz_3 rfl rfl rfl hS (Nat.le_of_ble_eq_true rfl) fun w hS => ?_
        refine wl_nil ?_
        refine wc_seq ?_
        refine wc_region ?_
        refine wl (y_move rfl) rfl ?_
        refine wl_call (.cons rfl (.cons rfl .nil)) (qtext_c 1400 (by decide) o3 (hS.pull [(b21, rdrQ (fg3 s).2)])) rfl ?_
        rintro _ w ⟨rfl, hS⟩
        rw [← hd4] at hS ⊢
        refine wl (y_fld fl_42_3 rfl) rfl ?_
        refine a_store sz_9 rfl rfl rfl hS (Nat.le_of_ble_eq_true rfl) fun w hS => ?_
        refine wl_nil ?_
        refine wc_seq ?_
        refine wc_seq ?_
        refine wc_region ?_
        refine wl (y_move rfl) rfl ?_
        refine wl (y_nil rfl) rfl ?_
        refine wl (y_fld fl_120_2 rfl) rfl ?_
        refine wl (y_load pl_3 rfl (hS.cell (v := .int .i64 (fg4 s).2.e) rfl)) rfl ?_
        refine wl (y_eql rfl rfl) rfl ?_
        refine wl (y_move rfl) rfl ?_
        refine wl_cases (s := 51) rfl (fun hg51 => ?_) (fun hg51 => ?_)
        · try simp only [zq1, zq2, zq3, zq4, zq5, zq6, zq7] at hg51
          refine wl_on rfl rfl ?_
          refine wl (y_fld fl_42_1 rfl) rfl ?_
          refine wl_on rfl rfl ?_
          refine wl (y_load pl_3 rfl (hS.cell (v := .int .i64 (fg2 s).1) rfl)) rfl ?_
          refine wl_on rfl rfl ?_
          refine wl (y_eql rfl rfl) rfl ?_
          refine wl (y_pickT rfl rfl) rfl ?_
          refine wl (y_move rfl) rfl ?_
          refine wl_cases (s := 56) rfl (fun hg56 => ?_) (fun hg56 => ?_)
          · try simp only [zq1, zq2, zq3, zq4, zq5, zq6, zq7] at hg56
            refine wl_on rfl rfl ?_
            refine wl (y_fld fl_42_3 rfl) rfl ?_
            refine wl_on rfl rfl ?_
            refine wl (y_load pl_9 rfl (hS.cell (v := .string (fg4 s).1) rfl)) rfl ?_
            refine wl_on rfl rfl ?_
            refine wl (y_sneq rfl rfl) rfl ?_
            refine wl (y_pickT rfl rfl) rfl ?_
            refine wl_nil ?_
            refine wc_if rfl (fun hc60 => ?_) (fun hc60 => ?_)
            · try simp only [zq1, zq2, zq3, zq4, zq5, zq6, zq7] at hc60
              have hge : fge s = 13 := fge_13 (by omega) (by omega) hc60
              rw [hff, if_neg (by omega), hge]
              refine wc_seq ?_
              refine wc_region ?_
              refine wl (y_loadS st_42 sz_42 rfl (hS.cells (vs := [_, _, _, _]) rfl) rfl) rfl ?_
              refine a_storeS (vs := [_, _, _, _]) sz_42 rfl rfl rfl rfl hS (Nat.le_of_ble_eq_true rfl) fun w hS => ?_
              refine wl (y_assign rfl) rfl ?_
              refine wl_nil ?_
              refine wc_ret ?_
              refine wret (vs := [_, _]) (.cell rfl (loadVar_struct st_42 sz_42 (vs := [_, _, _, _]) rfl (hS.cells rfl)) (.tmp rfl .nil)) ?_
              exact ⟨rfl, hS.keep⟩
            · try simp only [zq1, zq2, zq3, zq4, zq5, zq6, zq7] at hc60
              have hge := fge_end (s := s) (.inr (.inr hc60))
              refine wc_skip ?_
              refine wc_seq ?_
              refine wc_seq ?_
              refine wc_region ?_
              refine wl (y_move rfl) rfl ?_
              refine wl_call (.cons rfl .nil) (qend_c o4 (hS.pull [(b21, rdrQ (fg4 s).2)])) rfl ?_
              rintro _ w ⟨rfl, hS⟩
              rw [← hge] at ⊢
              refine wl (y_assign rfl) rfl ?_
              refine wl_nil ?_
              refine wc_seq ?_
              refine wc_region ?_
              refine wl (y_move rfl) rfl ?_
              refine wl (y_neq rfl rfl) rfl ?_
              refine wl_nil ?_
              refine wc_if rfl (fun hc65 => ?_) (fun hc65 => ?_)
              · try simp only [zq1, zq2, zq3, zq4, zq5, zq6, zq7] at hc65
                rw [hff, if_neg (by omega)]
                refine wc_seq ?_
                refine wc_region ?_
                refine wl (y_loadS st_42 sz_42 rfl (hS.cells (vs := [_, _, _, _]) rfl) rfl) rfl ?_
                refine wl (y_move rfl) rfl ?_
                refine a_storeS (vs := [_, _, _, _]) sz_42 rfl rfl rfl rfl hS (Nat.le_of_ble_eq_true rfl) fun w hS => ?_
                refine wl (y_assign rfl) rfl ?_
                refine wl_nil ?_
                refine wc_ret ?_
                refine wret (vs := [_, _]) (.cell rfl (loadVar_struct st_42 sz_42 (vs := [_, _, _, _]) rfl (hS.cells rfl)) (.tmp rfl .nil)) ?_
                exact ⟨rfl, hS.keep⟩
              · try simp only [zq1, zq2, zq3, zq4, zq5, zq6, zq7] at hc65
                have hz0 : fge s = 0 := by omega
                rw [hff, if_pos hz0, hz0]
                refine wc_skip ?_
                refine wc_seq ?_
                refine wc_region ?_
                refine wl (y_loadS st_42 sz_42 rfl (hS.cells (vs := [_, _, _, _]) rfl) rfl) rfl ?_
                refine a_storeS (vs := [_, _, _, _]) sz_42 rfl rfl rfl rfl hS (Nat.le_of_ble_eq_true rfl) fun w hS => ?_
                refine wl (y_assign rfl) rfl ?_
                refine wl_nil ?_
                refine wc_ret ?_
                refine wret (vs := [_, _]) (.cell rfl (loadVar_struct st_42 sz_42 (vs := [_, _, _, _]) rfl (hS.cells rfl)) (.tmp rfl .nil)) ?_
                exact ⟨rfl, hS.keep⟩
          · try simp only [zq1, zq2, zq3, zq4, zq5, zq6, zq7] at hg56
            have hge := fge_end (s := s) (.inr (.inl (by omega)))
            refine wl_off rfl rfl rfl rfl ?_
            refine wl_off rfl rfl rfl rfl ?_
            refine wl_off rfl rfl rfl rfl ?_
            refine wl (y_pickF rfl rfl) rfl ?_
            refine wl_nil ?_
            refine wc_ifF rfl rfl ?_
            refine wc_skip ?_
            refine wc_seq ?_
            refine wc_seq ?_
            refine wc_region ?_
            refine wl (y_move rfl) rfl ?_
            refine wl_call (.cons rfl .nil) (qend_c o4 (hS.pull [(b21, rdrQ (fg4 s).2)])) rfl ?_
            rintro _ w ⟨rfl, hS⟩
            rw [← hge] at ⊢
            refine wl (y_assign rfl) rfl ?_
            refine wl_nil ?_
            refine wc_seq ?_
            refine wc_region ?_
            refine wl (y_move rfl) rfl ?_
            refine wl (y_neq rfl rfl) rfl ?_
            refine wl_nil ?_
            refine wc_if rfl (fun hc65 => ?_) (fun hc65 => ?_)
            · try simp only [zq1, zq2, zq3, zq4, zq5, zq6, zq7] at hc65
              rw [hff, if_neg (by omega)]
              refine wc_seq ?_
              refine wc_region ?_
              refine wl (y_loadS st_42 sz_42 rfl (hS.cells (vs := [_, _, _, _]) rfl) rfl) rfl ?_
              refine wl (y_move rfl) rfl ?_
              refine a_storeS (vs := [_, _, _, _]) sz_42 rfl rfl rfl rfl hS (Nat.le_of_ble_eq_true rfl) fun w hS => ?_
              refine wl (y_assign rfl) rfl ?_
              refine wl_nil ?_
              refine wc_ret ?_
              refine wret (vs := [_, _]) (.cell rfl (loadVar_struct st_42 sz_42 (vs := [_, _, _, _]) rfl (hS.cells rfl)) (.tmp rfl .nil)) ?_
              exact ⟨rfl, hS.keep⟩
            · try simp only [zq1, zq2, zq3, zq4, zq5, zq6, zq7] at hc65
              have hz0 : fge s = 0 := by omega
              rw [hff, if_pos hz0, hz0]
              refine wc_skip ?_
              refine wc_seq ?_
              refine wc_region ?_
              refine wl (y_loadS st_42 sz_42 rfl (hS.cells (vs := [_, _, _, _]) rfl) rfl) rfl ?_
              refine a_storeS (vs := [_, _, _, _]) sz_42 rfl rfl rfl rfl hS (Nat.le_of_ble_eq_true rfl) fun w hS => ?_
              refine wl (y_assign rfl) rfl ?_
              refine wl_nil ?_
              refine wc_ret ?_
              refine wret (vs := [_, _]) (.cell rfl (loadVar_struct st_42 sz_42 (vs := [_, _, _, _]) rfl (hS.cells rfl)) (.tmp rfl .nil)) ?_
              exact ⟨rfl, hS.keep⟩
        · try simp only [zq1, zq2, zq3, zq4, zq5, zq6, zq7] at hg51
          have hge := fge_end (s := s) (.inl (by omega))
          refine wl_off rfl rfl rfl rfl ?_
          refine wl_off rfl rfl rfl rfl ?_
          refine wl_off rfl rfl rfl rfl ?_
          refine wl (y_pickF rfl rfl) rfl ?_
          refine wl (y_move rfl) rfl ?_
          refine wl_off rfl rfl rfl rfl ?_
          refine wl_off rfl rfl rfl rfl ?_
          refine wl_off rfl rfl rfl rfl ?_
          refine wl (y_pickF rfl rfl) rfl ?_
          refine wl_nil ?_
          refine wc_ifF rfl rfl ?_
          refine wc_skip ?_
          refine wc_seq ?_
          refine wc_seq ?_
          refine wc_region ?_
          refine wl (y_move rfl) rfl ?_
          refine wl_call (.cons rfl .nil) (qend_c o4 (hS.pull [(b21, rdrQ (fg4 s).2)])) rfl ?_
          rintro _ w ⟨rfl, hS⟩
          rw [← hge] at ⊢
          refine wl (y_assign rfl) rfl ?_
          refine wl_nil ?_
          refine wc_seq ?_
          refine wc_region ?_
          refine wl (y_move rfl) rfl ?_
          refine wl (y_neq rfl rfl) rfl ?_
          refine wl_nil ?_
          refine wc_if rfl (fun hc65 => ?_) (fun hc65 => ?_)
          · try simp only [zq1, zq2, zq3, zq4, zq5, zq6, zq7] at hc65
            rw [hff, if_neg (by omega)]
            refine wc_seq ?_
            refine wc_region ?_
            refine wl (y_loadS st_42 sz_42 rfl (hS.cells (vs := [_, _, _, _]) rfl) rfl) rfl ?_
            refine wl (y_move rfl) rfl ?_
            refine a_storeS (vs := [_, _, _, _]) sz_42 rfl rfl rfl rfl hS (Nat.le_of_ble_eq_true rfl) fun w hS => ?_
            refine wl (y_assign rfl) rfl ?_
            refine wl_nil ?_
            refine wc_ret ?_
            refine wret (vs := [_, _]) (.cell rfl (loadVar_struct st_42 sz_42 (vs := [_, _, _, _]) rfl (hS.cells rfl)) (.tmp rfl .nil)) ?_
            exact ⟨rfl, hS.keep⟩
          · try simp only [zq1, zq2, zq3, zq4, zq5, zq6, zq7] at hc65
            have hz0 : fge s = 0 := by omega
            rw [hff, if_pos hz0, hz0]
            refine wc_skip ?_
            refine wc_seq ?_
            refine wc_region ?_
            refine wl (y_loadS st_42 sz_42 rfl (hS.cells (vs := [_, _, _, _]) rfl) rfl) rfl ?_
            refine a_storeS (vs := [_, _, _, _]) sz_42 rfl rfl rfl rfl hS (Nat.le_of_ble_eq_true rfl) fun w hS => ?_
            refine wl (y_assign rfl) rfl ?_
            refine wl_nil ?_
            refine wc_ret ?_
            refine wret (vs := [_, _]) (.cell rfl (loadVar_struct st_42 sz_42 (vs := [_, _, _, _]) rfl (hS.cells rfl)) (.tmp rfl .nil)) ?_
            exact ⟨rfl, hS.keep⟩
    · try simp only [zq1, zq2, zq3, zq4, zq5, zq6, zq7] at hg31
      have hp := fg1'_eq (s := s) (.inl (by omega))
      refine wl_off rfl rfl rfl rfl ?_
      refine wl_off rfl rfl rfl rfl ?_
      refine wl_off rfl rfl rfl rfl ?_
      refine wl (y_pickF rfl rfl) rfl ?_
      refine wl_nil ?_
      refine wc_ifF rfl rfl ?_
      refine wc_skip ?_
      refine wc_seq ?_
      rw [← hp] at hS
      refine wc_region ?_
      refine wl (y_move rfl) rfl ?_
      refine wl_call (.cons rfl (.cons rfl .nil)) (qnum_c 1125899906842624 (by decide) o1' (hS.pull [(b21, rdrQ (fg1' s))])) rfl ?_
      rintro _ w ⟨rfl, hS⟩
      rw [← hd2] at hS ⊢
      refine wl (y_fld fl_42_1 rfl) rfl ?_
      refine a_store sz_3 rfl rfl rfl hS (Nat.le_of_ble_eq_true rfl) fun w hS => ?_
      refine wl_nil ?_
      refine wc_seq ?_
      refine wc_region ?_
      refine wl (y_move rfl) rfl ?_
      refine wl_call (.cons rfl (.cons rfl .nil)) (qnum_c 1125899906842624 (by decide) o2 (hS.pull [(b21, rdrQ (fg2 s).2)])) rfl ?_
      rintro _ w ⟨rfl, hS⟩
      rw [← hd3] at hS ⊢
      refine wl (y_fld fl_42_2 rfl) rfl ?_
      refine a_store sz_3 rfl rfl rfl hS (Nat.le_of_ble_eq_true rfl) fun w hS => ?_
      refine wl_nil ?_
      refine wc_seq ?_
      refine wc_region ?_
      refine wl (y_move rfl) rfl ?_
      refine wl_call (.cons rfl (.cons rfl .nil)) (qtext_c 1400 (by decide) o3 (hS.pull [(b21, rdrQ (fg3 s).2)])) rfl ?_
      rintro _ w ⟨rfl, hS⟩
      rw [← hd4] at hS ⊢
      refine wl (y_fld fl_42_3 rfl) rfl ?_
      refine a_store sz_9 rfl rfl rfl hS (Nat.le_of_ble_eq_true rfl) fun w hS => ?_
      refine wl_nil ?_
      refine wc_seq ?_
      refine wc_seq ?_
      refine wc_region ?_
      refine wl (y_move rfl) rfl ?_
      refine wl (y_nil rfl) rfl ?_
      refine wl (y_fld fl_120_2 rfl) rfl ?_
      refine wl (y_load pl_3 rfl (hS.cell (v := .int .i64 (fg4 s).2.e) rfl)) rfl ?_
      refine wl (y_eql rfl rfl) rfl ?_
      refine wl (y_move rfl) rfl ?_
      refine wl_cases (s := 51) rfl (fun hg51 => ?_) (fun hg51 => ?_)
      · try simp only [zq1, zq2, zq3, zq4, zq5, zq6, zq7] at hg51
        refine wl_on rfl rfl ?_
        refine wl (y_fld fl_42_1 rfl) rfl ?_
        refine wl_on rfl rfl ?_
        refine wl (y_load pl_3 rfl (hS.cell (v := .int .i64 (fg2 s).1) rfl)) rfl ?_
        refine wl_on rfl rfl ?_
        refine wl (y_eql rfl rfl) rfl ?_
        refine wl (y_pickT rfl rfl) rfl ?_
        refine wl (y_move rfl) rfl ?_
        refine wl_cases (s := 56) rfl (fun hg56 => ?_) (fun hg56 => ?_)
        · try simp only [zq1, zq2, zq3, zq4, zq5, zq6, zq7] at hg56
          refine wl_on rfl rfl ?_
          refine wl (y_fld fl_42_3 rfl) rfl ?_
          refine wl_on rfl rfl ?_
          refine wl (y_load pl_9 rfl (hS.cell (v := .string (fg4 s).1) rfl)) rfl ?_
          refine wl_on rfl rfl ?_
          refine wl (y_sneq rfl rfl) rfl ?_
          refine wl (y_pickT rfl rfl) rfl ?_
          refine wl_nil ?_
          refine wc_if rfl (fun hc60 => ?_) (fun hc60 => ?_)
          · try simp only [zq1, zq2, zq3, zq4, zq5, zq6, zq7] at hc60
            have hge : fge s = 13 := fge_13 (by omega) (by omega) hc60
            rw [hff, if_neg (by omega), hge]
            refine wc_seq ?_
            refine wc_region ?_
            refine wl (y_loadS st_42 sz_42 rfl (hS.cells (vs := [_, _, _, _]) rfl) rfl) rfl ?_
            refine a_storeS (vs := [_, _, _, _]) sz_42 rfl rfl rfl rfl hS (Nat.le_of_ble_eq_true rfl) fun w hS => ?_
            refine wl (y_assign rfl) rfl ?_
            refine wl_nil ?_
            refine wc_ret ?_
            refine wret (vs := [_, _]) (.cell rfl (loadVar_struct st_42 sz_42 (vs := [_, _, _, _]) rfl (hS.cells rfl)) (.tmp rfl .nil)) ?_
            exact ⟨rfl, hS.keep⟩
          · try simp only [zq1, zq2, zq3, zq4, zq5, zq6, zq7] at hc60
            have hge := fge_end (s := s) (.inr (.inr hc60))
            refine wc_skip ?_
            refine wc_seq ?_
            refine wc_seq ?_
            refine wc_region ?_
            refine wl (y_move rfl) rfl ?_
            refine wl_call (.cons rfl .nil) (qend_c o4 (hS.pull [(b21, rdrQ (fg4 s).2)])) rfl ?_
            rintro _ w ⟨rfl, hS⟩
            rw [← hge] at ⊢
            refine wl (y_assign rfl) rfl ?_
            refine wl_nil ?_
            refine wc_seq ?_
            refine wc_region ?_
            refine wl (y_move rfl) rfl ?_
            refine wl (y_neq rfl rfl) rfl ?_
            refine wl_nil ?_
            refine wc_if rfl (fun hc65 => ?_) (fun hc65 => ?_)
            · try simp only [zq1, zq2, zq3, zq4, zq5, zq6, zq7] at hc65
              rw [hff, if_neg (by omega)]
              refine wc_seq ?_
              refine wc_region ?_
              refine wl (y_loadS st_42 sz_42 rfl (hS.cells (vs := [_, _, _, _]) rfl) rfl) rfl ?_
              refine wl (y_move rfl) rfl ?_
              refine a_storeS (vs := [_, _, _, _]) sz_42 rfl rfl rfl rfl hS (Nat.le_of_ble_eq_true rfl) fun w hS => ?_
              refine wl (y_assign rfl) rfl ?_
              refine wl_nil ?_
              refine wc_ret ?_
              refine wret (vs := [_, _]) (.cell rfl (loadVar_struct st_42 sz_42 (vs := [_, _, _, _]) rfl (hS.cells rfl)) (.tmp rfl .nil)) ?_
              exact ⟨rfl, hS.keep⟩
            · try simp only [zq1, zq2, zq3, zq4, zq5, zq6, zq7] at hc65
              have hz0 : fge s = 0 := by omega
              rw [hff, if_pos hz0, hz0]
              refine wc_skip ?_
              refine wc_seq ?_
              refine wc_region ?_
              refine wl (y_loadS st_42 sz_42 rfl (hS.cells (vs := [_, _, _, _]) rfl) rfl) rfl ?_
              refine a_storeS (vs := [_, _, _, _]) sz_42 rfl rfl rfl rfl hS (Nat.le_of_ble_eq_true rfl) fun w hS => ?_
              refine wl (y_assign rfl) rfl ?_
              refine wl_nil ?_
              refine wc_ret ?_
              refine wret (vs := [_, _]) (.cell rfl (loadVar_struct st_42 sz_42 (vs := [_, _, _, _]) rfl (hS.cells rfl)) (.tmp rfl .nil)) ?_
              exact ⟨rfl, hS.keep⟩
        · try simp only [zq1, zq2, zq3, zq4, zq5, zq6, zq7] at hg56
          have hge := fge_end (s := s) (.inr (.inl (by omega)))
          refine wl_off rfl rfl rfl rfl ?_
          refine wl_off rfl rfl rfl rfl ?_
          refine wl_off rfl rfl rfl rfl ?_
          refine wl (y_pickF rfl rfl) rfl ?_
          refine wl_nil ?_
          refine wc_ifF rfl rfl ?_
          refine wc_skip ?_
          refine wc_seq ?_
          refine wc_seq ?_
          refine wc_region ?_
          refine wl (y_move rfl) rfl ?_
          refine wl_call (.cons rfl .nil) (qend_c o4 (hS.pull [(b21, rdrQ (fg4 s).2)])) rfl ?_
          rintro _ w ⟨rfl, hS⟩
          rw [← hge] at ⊢
          refine wl (y_assign rfl) rfl ?_
          refine wl_nil ?_
          refine wc_seq ?_
          refine wc_region ?_
          refine wl (y_move rfl) rfl ?_
          refine wl (y_neq rfl rfl) rfl ?_
          refine wl_nil ?_
          refine wc_if rfl (fun hc65 => ?_) (fun hc65 => ?_)
          · try simp only [zq1, zq2, zq3, zq4, zq5, zq6, zq7] at hc65
            rw [hff, if_neg (by omega)]
            refine wc_seq ?_
            refine wc_region ?_
            refine wl (y_loadS st_42 sz_42 rfl (hS.cells (vs := [_, _, _, _]) rfl) rfl) rfl ?_
            refine wl (y_move rfl) rfl ?_
            refine a_storeS (vs := [_, _, _, _]) sz_42 rfl rfl rfl rfl hS (Nat.le_of_ble_eq_true rfl) fun w hS => ?_
            refine wl (y_assign rfl) rfl ?_
            refine wl_nil ?_
            refine wc_ret ?_
            refine wret (vs := [_, _]) (.cell rfl (loadVar_struct st_42 sz_42 (vs := [_, _, _, _]) rfl (hS.cells rfl)) (.tmp rfl .nil)) ?_
            exact ⟨rfl, hS.keep⟩
          · try simp only [zq1, zq2, zq3, zq4, zq5, zq6, zq7] at hc65
            have hz0 : fge s = 0 := by omega
            rw [hff, if_pos hz0, hz0]
            refine wc_skip ?_
            refine wc_seq ?_
            refine wc_region ?_
            refine wl (y_loadS st_42 sz_42 rfl (hS.cells (vs := [_, _, _, _]) rfl) rfl) rfl ?_
            refine a_storeS (vs := [_, _, _, _]) sz_42 rfl rfl rfl rfl hS (Nat.le_of_ble_eq_true rfl) fun w hS => ?_
            refine wl (y_assign rfl) rfl ?_
            refine wl_nil ?_
            refine wc_ret ?_
            refine wret (vs := [_, _]) (.cell rfl (loadVar_struct st_42 sz_42 (vs := [_, _, _, _]) rfl (hS.cells rfl)) (.tmp rfl .nil)) ?_
            exact ⟨rfl, hS.keep⟩
      · try simp only [zq1, zq2, zq3, zq4, zq5, zq6, zq7] at hg51
        have hge := fge_end (s := s) (.inl (by omega))
        refine wl_off rfl rfl rfl rfl ?_
        refine wl_off rfl rfl rfl rfl ?_
        refine wl_off rfl rfl rfl rfl ?_
        refine wl (y_pickF rfl rfl) rfl ?_
        refine wl (y_move rfl) rfl ?_
        refine wl_off rfl rfl rfl rfl ?_
        refine wl_off rfl rfl rfl rfl ?_
        refine wl_off rfl rfl rfl rfl ?_
        refine wl (y_pickF rfl rfl) rfl ?_
        refine wl_nil ?_
        refine wc_ifF rfl rfl ?_
        refine wc_skip ?_
        refine wc_seq ?_
        refine wc_seq ?_
        refine wc_region ?_
        refine wl (y_move rfl) rfl ?_
        refine wl_call (.cons rfl .nil) (qend_c o4 (hS.pull [(b21, rdrQ (fg4 s).2)])) rfl ?_
        rintro _ w ⟨rfl, hS⟩
        rw [← hge] at ⊢
        refine wl (y_assign rfl) rfl ?_
        refine wl_nil ?_
        refine wc_seq ?_
        refine wc_region ?_
        refine wl (y_move rfl) rfl ?_
        refine wl (y_neq rfl rfl) rfl ?_
        refine wl_nil ?_
        refine wc_if rfl (fun hc65 => ?_) (fun hc65 => ?_)
        · try simp only [zq1, zq2, zq3, zq4, zq5, zq6, zq7] at hc65
          rw [hff, if_neg (by omega)]
          refine wc_seq ?_
          refine wc_region ?_
          refine wl (y_loadS st_42 sz_42 rfl (hS.cells (vs := [_, _, _, _]) rfl) rfl) rfl ?_
          refine wl (y_move rfl) rfl ?_
          refine a_storeS (vs := [_, _, _, _]) sz_42 rfl rfl rfl rfl hS (Nat.le_of_ble_eq_true rfl) fun w hS => ?_
          refine wl (y_assign rfl) rfl ?_
          refine wl_nil ?_
          refine wc_ret ?_
          refine wret (vs := [_, _]) (.cell rfl (loadVar_struct st_42 sz_42 (vs := [_, _, _, _]) rfl (hS.cells rfl)) (.tmp rfl .nil)) ?_
          exact ⟨rfl, hS.keep⟩
        · try simp only [zq1, zq2, zq3, zq4, zq5, zq6, zq7] at hc65
          have hz0 : fge s = 0 := by omega
          rw [hff, if_pos hz0, hz0]
          refine wc_skip ?_
          refine wc_seq ?_
          refine wc_region ?_
          refine wl (y_loadS st_42 sz_42 rfl (hS.cells (vs := [_, _, _, _]) rfl) rfl) rfl ?_
          refine a_storeS (vs := [_, _, _, _]) sz_42 rfl rfl rfl rfl hS (Nat.le_of_ble_eq_true rfl) fun w hS => ?_
          refine wl (y_assign rfl) rfl ?_
          refine wl_nil ?_
          refine wc_ret ?_
          refine wret (vs := [_, _]) (.cell rfl (loadVar_struct st_42 sz_42 (vs := [_, _, _, _]) rfl (hS.cells rfl)) (.tmp rfl .nil)) ?_
          exact ⟨rfl, hS.keep⟩
end
end Go.Proofs.YtndahppmjdbifaaGreatDoor.Fra

set_option linter.unusedVariables false
set_option linter.unusedSimpArgs false
namespace Go.Proofs.YtndahppmjdbifaaGreatDoor.Nod
open Go Go.Proofs Go.Proofs.YtndahppmjdbifaaGreatDoor.Eng Go.Proofs.YtndahppmjdbifaaGreatDoor.Pre Go.Proofs.YtndahppmjdbifaaGreatDoor.Pak Go.Proofs.YtndahppmjdbifaaGreatDoor.Val Go.Proofs.YtndahppmjdbifaaGreatDoor.Rou Go.Proofs.YtndahppmjdbifaaGreatDoor.Fra Go.Proofs.YtndahppmjdbifaaGreatDoor.Snd Go.Proofs.YtndahppmjdbifaaGreatDoor.Lnk Go.Proofs.YtndahppmjdbifaaGreatDoor.Jnl Go.Proofs.YtndahppmjdbifaaGreatDoor.Cli Go.Proofs.YtndahppmjdbifaaGreatDoor.Sto
/-! ### a tick, asked again -/
theorem offl_end (l : List Rnd) (k : Lnk) (n : Nat) : (offl l k n).2 = n + l.length ∨ (offl l k n).1.s.offerE ≠ 0 := by
  induction l generalizing k n with
  | nil => exact .inl rfl
  | cons r l ih =>
    simp only [offl]
    split
    · rcases ih (k.offer (putB r)) (n + 1) with h | h
      · exact .inl (by rw [h, List.length_cons]; omega)
      · exact .inr h
    · rename_i h; exact .inr h
theorem Nod.tick_tick (m : Nod) : m.tick.tick = m.tick := by
  have h := offl_end (m.j.l.drop m.offered) m.k m.offered
  have hs : offl (m.j.l.drop m.tick.offered) m.tick.k m.tick.offered = (m.tick.k, m.tick.offered) := by
    apply offl_stop
    rcases h with h | h
    · refine .inl ?_
      show m.j.l.length ≤ (offl (m.j.l.drop m.offered) m.k m.offered).2
      rw [h, List.length_drop]; omega
    · exact .inr h
  show ({ m.tick with k := (offl (m.j.l.drop m.tick.offered) m.tick.k m.tick.offered).1, offered := (offl (m.j.l.drop m.tick.offered) m.tick.k m.tick.offered).2 } : Nod) = m.tick
  rw [hs]
theorem Nod.tick_tickP (m : Nod) : m.tick.tickP = m.tickP := by
  unfold Nod.tickP
  rw [Nod.tick_tick]
  rfl
theorem Nod.tick_ep (m : Nod) : m.tick.k.ep = m.k.ep := (offl_r _ _ _).2.1
theorem hearE_ne {m : Nod} {b : ByteArray} (h : ¬ (fgetE b = 0 ∧ (fget b).ep = m.k.ep)) : m.hearE b ≠ 0 ∧ m.hear b = m := by
  have h1 : m.hearE b ≠ 0 := by
    unfold Nod.hearE
    split
    · assumption
    · rename_i h0
      rw [if_pos (fun h2 => h ⟨by omega, h2⟩)]
      decide
  exact ⟨h1, by unfold Nod.hear; rw [if_neg h1]⟩
section
variable {M : Mem} {w : World} {Ls : List Chunk}
theorem NodeStrange_c (hG : Bits M) (c : Cfg) (origin : Int) (l : List Act) (s : Value) (b : ByteArray) (hl : Rd M encA s l) (hS : St M w Ls) :
    CallsR Tryz.prog 5 [cfgV c, .int .i64 origin, .agg [s, .string b].toArray].toArray w fun v w' => ∃ M', Mle M M' ∧ v = .bool true ∧ St M' w' Ls := by
  obtain ⟨sa, sc, rfl⟩ := (hl.holds hS).slice
  refine calls_of (c := _) (rs := _) (n := 75) Tryz.func5 rfl rfl rfl rfl rfl ?_
  refine wc_seq ?_
  refine wc_region ?_
  refine a_box rfl hS rfl fun b3 w hS => ?_
  refine a_box rfl hS rfl fun b5 w hS => ?_
  refine wl (y_assign rfl) rfl ?_
  refine wl_nil ?_
  refine wc_seq ?_
  refine wc_seq ?_
  refine wc_region ?_
  refine wl_call .nil (awake_c hG hS) rfl ?_
  rintro _ w ⟨M1, hM1, rfl, hS⟩
  refine wl (y_not rfl) rfl ?_
  refine wl (y_move rfl) rfl ?_
  refine wl_on rfl rfl ?_
  refine wl ((y_loadS st_23 sz_23 rfl (vs := cfgL c) (hS.cells rfl) rfl).val (show _ = cfgV c from rfl)) rfl ?_
  refine wl_on rfl rfl ?_
  refine wl (y_move rfl) rfl ?_
  refine wl_on rfl rfl ?_
  refine wl (y_fld fl_51_0 rfl) rfl ?_
  refine wl_on rfl rfl ?_
  refine wl (y_load pl_24 rfl (hS.cell (v := .slice sa l.length sc) rfl)) rfl ?_
  refine wl_on rfl rfl ?_
  refine wl_call (.cons rfl (.cons rfl (.cons rfl .nil))) (may_c c origin l _ (hl.mono hM1) hS) rfl ?_
  rintro _ w ⟨rfl, hS⟩
  refine wl_on rfl rfl ?_
  refine wl (y_not rfl) rfl ?_
  refine wl (y_pickF rfl rfl) rfl ?_
  refine wl (y_move rfl) rfl ?_
  refine wl_cases (s := 22) rfl (fun hg22 => ?_) (fun hg22 => ?_)
  · try simp only [zq1, zq2, zq3, zq4, zq5, zq6, zq7] at hg22
    refine wl_off rfl rfl rfl rfl ?_
    refine wl_off rfl rfl rfl rfl ?_
    refine wl_off rfl rfl rfl rfl ?_
    refine wl_off rfl rfl rfl rfl ?_
    refine wl (y_pickT rfl rfl) rfl ?_
    refine wl_nil ?_
    refine wc_ifT rfl rfl ?_
    refine wc_seq ?_
    refine wc_region ?_
    refine wl_call .nil (awake_c (hG.mono hM1) hS) rfl ?_
    rintro _ w ⟨M2, hM2, rfl, hS⟩
    refine wl (y_assign rfl) rfl ?_
    refine wl_nil ?_
    refine wc_ret ?_
    refine wret (vs := [_]) (.tmp rfl .nil) ?_
    first
    | exact ⟨M9, hMc, rfl, hS.keep⟩
    | exact ⟨M3, (hM1.trans hM2).trans hM3, rfl, hS.keep⟩
    | exact ⟨M2, hM1.trans hM2, rfl, hS.keep⟩
  · try simp only [zq1, zq2, zq3, zq4, zq5, zq6, zq7] at hg22
    obtain ⟨g1, g2, g3, g4, g5, g6⟩ := mayB_ok hg22
    have hab : ∀ a ∈ l, a.bytes.size ≤ 140737488351232 := fun a ha => by have := g2 a ha; omega
    have hinv : ((Nod.new c origin).acts l).inv l.length := by simpa using Nod.acts_inv (Nod.new_inv g3 origin) l hab
    generalize hn : (Nod.new c origin).acts l = m at hinv
    have hsm := hinv.small (by omega)
    have hinv' := Nod.tick_inv hinv
    have hsm2 := hinv'.small (by omega)
    have htl := pkts_length (origin := m.origin) (to_ := 0) (mtu := m.c.mtu) (l := m.tick.k.frames)
    have hfl := frames_length m.tick.k hinv'.k
    refine wl_on rfl rfl ?_
    refine wl (y_fld fl_51_1 rfl) rfl ?_
    refine wl_on rfl rfl ?_
    refine wl (y_load pl_9 rfl (hS.cell (v := .string b) rfl)) rfl ?_
    refine wl_on rfl rfl ?_
    refine wl (y_len_s Tryz.underlying9 rfl) rfl ?_
    refine wl_on rfl rfl ?_
    refine wl (y_gtr rfl rfl) rfl ?_
    refine wl (y_pickF rfl rfl) rfl ?_
    refine wl_nil ?_
    refine wc_if rfl (fun hc27 => ?_) (fun hc27 => ?_)
    · try simp only [zq1, zq2, zq3, zq4, zq5, zq6, zq7] at hc27
      refine wc_seq ?_
      refine wc_region ?_
      refine wl_call .nil (awake_c (hG.mono hM1) hS) rfl ?_
      rintro _ w ⟨M2, hM2, rfl, hS⟩
      refine wl (y_assign rfl) rfl ?_
      refine wl_nil ?_
      refine wc_ret ?_
      refine wret (vs := [_]) (.tmp rfl .nil) ?_
      first
      | exact ⟨M9, hMc, rfl, hS.keep⟩
      | exact ⟨M3, (hM1.trans hM2).trans hM3, rfl, hS.keep⟩
      | exact ⟨M2, hM1.trans hM2, rfl, hS.keep⟩
    · try simp only [zq1, zq2, zq3, zq4, zq5, zq6, zq7] at hc27
      refine wc_skip ?_
      refine wc_seq ?_
      refine wc_region ?_
      refine wl ((y_loadS st_23 sz_23 rfl (vs := cfgL c) (hS.cells rfl) rfl).val (show _ = cfgV c from rfl)) rfl ?_
      refine wl (y_move rfl) rfl ?_
      refine wl (y_fld fl_51_0 rfl) rfl ?_
      refine wl (y_load pl_24 rfl (hS.cell (v := .slice sa l.length sc) rfl)) rfl ?_
      refine wl_call (.cons rfl (.cons rfl (.cons rfl .nil))) (run_c (hG.mono hM1) c origin l _ (hl.mono hM1) (by omega) hab g4 g3 hS) rfl ?_
      rintro v w ⟨M2, p, H, rfl, hM2, n1, hS⟩
      rw [hn] at n1
      refine wl (y_assign rfl) rfl ?_
      refine wl_nil ?_
      refine wc_seq ?_
      refine wc_seq ?_
      refine wc_region ?_
      refine wl (y_move rfl) rfl ?_
      refine wl (y_pnil Tryz.underlying27 rfl rfl) rfl ?_
      refine wl_nil ?_
      refine wc_ifF rfl (rfl) ?_
      refine wc_skip ?_
      refine wc_seq ?_
      refine wc_region ?_
      refine wl (y_fld fl_51_1 rfl) rfl ?_
      refine wl (y_load pl_9 rfl (hS.cell (v := .string b) rfl)) rfl ?_
      refine wl_call (.cons rfl .nil) (qget_c b (by omega) hS) rfl ?_
      rintro _ w ⟨rfl, hS⟩
      refine wl (y_move rfl) rfl ?_
      refine wl (y_extract (vs := [_, _]) rfl rfl) rfl ?_
      refine wl (y_extract (vs := [_, _]) rfl rfl) rfl ?_
      refine a_alloc z_42 hS rfl fun b8 w hS => ?_
      refine a_storeS (vs := [_, _, _, _]) sz_42 rfl rfl rfl rfl hS (Nat.le_of_ble_eq_true rfl) fun w hS => ?_
      refine wl (y_assign rfl) rfl ?_
      refine wl_nil ?_
      refine wc_seq ?_
      refine wc_seq ?_
      refine wc_draw (l0 := (lb 10 0)) (fun w => w.cell? ⟨b8, 0, none⟩ = some (.int .i64 (fget b).ep)) [] wide_ rfl rfl fun w hw => ?_
      replace hS := hS.same hw; clear hw
      refine dr_pure (i := 0) (lb 10 1) rfl rfl (by kernel_rfl) (fun w => y_move rfl) ?_
      refine dr_pure (i := 1) (lb 10 3) rfl rfl (by kernel_rfl) (fun w => y_eql rfl rfl) ?_
      refine dr_pure (i := 2) (lb 10 7) rfl rfl (by kernel_rfl) (fun w => y_move rfl) ?_
      refine dr_cases (s := 44) rfl (fun hg44 => ?_) (fun hg44 => ?_)
      · try simp only [zq1, zq2, zq3, zq4, zq5, zq6, zq7] at hg44
        refine dr_pureG (i := 3) (lb 10 15) rfl rfl (by kernel_rfl) rfl rfl (fun w => y_fld fl_42_0 rfl) ?_
        refine dr_pureG (i := 5) (lb 10 47) rfl rfl (by kernel_rfl) rfl rfl (fun w => y_move rfl) ?_
        refine dr_readG (i := 4) (lb 10 63) rfl rfl (by kernel_rfl) rfl rfl (hS.cell rfl) (fun w hS => y_load pl_3 rfl hS) ?_
        refine dr_do (i := 6) (lb 10 127) rfl (by kernel_rfl) ?_
        refine wl_on rfl rfl ?_
        refine wl_call (.cons rfl .nil) (nlook_c hsm n1 (hS.pull H)) rfl ?_
        rintro _ w ⟨M3, hM3, rfl, n1, hS⟩
        refine wl_nil ⟨fun _ _ => hS.cell rfl, ?_⟩
        refine dr_pureG (i := 7) (lb 10 255) rfl rfl (by kernel_rfl) rfl rfl (fun w => y_field fl_30_0 pl_3 rfl rfl) ?_
        refine dr_pureG (i := 8) (lb 10 511) rfl rfl (by kernel_rfl) rfl rfl (fun w => y_eql rfl rfl) ?_
        refine dr_pure (i := 9) (lb 10 1023) rfl rfl (by kernel_rfl) (fun w => y_pickT rfl rfl) ?_
        refine dr_done (by kernel_rfl) ?_
        refine wc_if rfl (fun hc51 => ?_) (fun hc51 => ?_)
        · try simp only [zq1, zq2, zq3, zq4, zq5, zq6, zq7] at hc51
          refine wc_seq ?_
          refine wc_region ?_
          refine wl (y_assign rfl) rfl ?_
          refine wl_nil ?_
          refine wc_ret ?_
          refine wret (vs := [_]) (.tmp rfl .nil) ?_
          first
          | exact ⟨M9, hMc, rfl, hS.keep⟩
          | exact ⟨M3, (hM1.trans hM2).trans hM3, rfl, hS.keep⟩
          | exact ⟨M2, hM1.trans hM2, rfl, hS.keep⟩
        · try simp only [zq1, zq2, zq3, zq4, zq5, zq6, zq7] at hc51
          have hbad : ¬ (fgetE b = 0 ∧ (fget b).ep = m.k.ep) := fun h => hc51 h.2
          have hMc := (hM1.trans hM2).trans hM3
          rw [← Nod.tick_ep m] at hbad
          obtain ⟨q1, q2⟩ := hearE_ne hbad
          refine wc_skip ?_
          refine wc_seq ?_
          refine wc_region ?_
          refine wl (y_move rfl) rfl ?_
          refine wl_call (.cons rfl .nil) (nlook_c hsm n1 (hS.pull H)) rfl ?_
          rintro _ w ⟨M4, hM4, rfl, n1, hS⟩
          replace hMc := hMc.trans hM4
          refine wl (y_move rfl) rfl ?_
          refine wl_call (.cons rfl .nil) (ntick_c (hG.mono hMc) hinv.k hsm hinv.frames n1 (hS.pull H)) rfl ?_
          rintro _ w ⟨M5, H5, Hp, hM5, hp, n2, hS⟩
          replace hMc := hMc.trans hM5
          obtain ⟨pa, pc, rfl⟩ := hp.slice
          refine a_alloc z_30 hS rfl fun b10 w hS => ?_
          refine a_storeS (vs := [_, _, _, _, _, _]) sz_30 rfl rfl rfl rfl hS (Nat.le_of_ble_eq_true rfl) fun w hS => ?_
          refine wl (y_assign rfl) rfl ?_
          refine wl_nil ?_
          simp only [List.setIfInBounds_toArray, List.set_cons_zero, List.set_cons_succ, Nat.zero_add, Nat.add_zero, cells_agg, setCells] at hS
          refine wc_seq ?_
          refine wc_region ?_
          refine wl (y_move rfl) rfl ?_
          refine wl_call (.cons rfl .nil) (nlook_c hsm2 n2 (hS.pull H5)) rfl ?_
          rintro _ w ⟨M6, hM6, rfl, n2, hS⟩
          replace hMc := hMc.trans hM6
          refine a_storeS (vs := [_, _, _, _, _, _]) sz_30 rfl rfl rfl rfl hS (Nat.le_of_ble_eq_true rfl) fun w hS => ?_
          refine wl_nil ?_
          simp only [List.setIfInBounds_toArray, List.set_cons_zero, List.set_cons_succ, Nat.zero_add, Nat.add_zero, cells_agg, setCells] at hS
          refine wc_seq ?_
          refine wc_draw (l0 := (lb 18 0)) (fun w => w.cell? ⟨b5, 1, none⟩ = some (.string b) ∧ CellsAt w b10 0 [.int .i64 m.tick.look.ep, .int .i64 m.tick.look.known, .int .i64 m.tick.look.pending, .int .i64 m.tick.look.opn, .int .i64 m.tick.look.came, .int .i64 m.tick.look.unacked]) [] wide_ rfl rfl fun w hw => ?_
          replace hS := hS.same hw; clear hw
          refine dr_pure (i := 0) (lb 18 1) rfl rfl (by kernel_rfl) (fun w => y_move rfl) ?_
          refine dr_pure (i := 1) (lb 18 3) rfl rfl (by kernel_rfl) (fun w => y_fld fl_51_1 rfl) ?_
          refine dr_read (i := 2) (lb 18 7) rfl rfl (by kernel_rfl) ⟨hS.cell rfl, hS.cells rfl⟩ (fun w hS => y_load pl_9 rfl hS.1) ?_
          refine dr_do (i := 3) (lb 18 15) rfl (by kernel_rfl) ?_
          refine wl_call (.cons rfl (.cons rfl .nil)) (nhear_c (hG.mono hMc) b (by omega) hinv'.k n2 (hS.pull H5)) rfl ?_
          rintro _ w ⟨H7, rfl, n3, hS⟩
          rw [q2] at n3
          refine wl_nil ⟨fun _ _ => ⟨hS.cell rfl, hS.cells rfl⟩, ?_⟩
          refine dr_pure (i := 4) (lb 18 31) rfl rfl (by kernel_rfl) (fun w => (y_neq rfl rfl).val (u := .bool true) (congrArg Value.bool (by rw [decide_eq_false (by omega)]; rfl))) ?_
          refine dr_pure (i := 5) (lb 18 63) rfl rfl (by kernel_rfl) (fun w => y_move rfl) ?_
          refine dr_pureG (i := 6) (lb 18 127) rfl rfl (by kernel_rfl) rfl rfl (fun w => y_move rfl) ?_
          refine dr_readG (i := 8) (lb 18 383) rfl rfl (by kernel_rfl) rfl rfl ⟨hS.cell rfl, hS.cells rfl⟩ (fun w hS => y_loadS st_30 sz_30 rfl hS.2 rfl) ?_
          refine dr_do (i := 7) (lb 18 511) rfl (by kernel_rfl) ?_
          refine wl_on rfl rfl ?_
          refine wl_call (.cons rfl .nil) (nlook_c hsm2 n3 (hS.pull H7)) rfl ?_
          rintro _ w ⟨M8, hM8, rfl, n3, hS⟩
          replace hMc := hMc.trans hM8
          refine wl_nil ⟨fun _ _ => ⟨hS.cell rfl, hS.cells rfl⟩, ?_⟩
          refine dr_pureG (i := 9) (lb 18 1023) rfl rfl (by kernel_rfl) rfl rfl (fun w => (y_eqS Tryz.eqGuardType30 rfl rfl (eq_30 _ _ _ _ _ _ _ _ _ _ _ _)).val (u := .bool true) (congrArg Value.bool ((look_eq m.tick.look m.tick.look).trans (decide_eq_true rfl)))) ?_
          refine dr_pure (i := 10) (lb 18 2047) rfl rfl (by kernel_rfl) (fun w => y_pickT rfl rfl) ?_
          refine dr_pure (i := 11) (lb 18 4095) rfl rfl (by kernel_rfl) (fun w => y_move rfl) ?_
          refine dr_pureG (i := 12) (lb 18 8191) rfl rfl (by kernel_rfl) rfl rfl (fun w => y_move rfl) ?_
          refine dr_pureG (i := 14) (lb 18 24575) rfl rfl (by kernel_rfl) rfl rfl (fun w => y_move rfl) ?_
          refine dr_do (i := 13) (lb 18 32767) rfl (by kernel_rfl) ?_
          refine wl_on rfl rfl ?_
          refine wl_call (.cons rfl .nil) (ntick_c (hG.mono hMc) hinv'.k hsm2 hinv'.frames n3 (hS.pull H7)) rfl ?_
          rintro _ w ⟨M9, H9, Hq, hM9, hq, n4, hS⟩
          replace hMc := hMc.trans hM9
          rw [Nod.tick_tickP] at hq
          refine wl_nil ⟨fun _ _ => ⟨hS.cell rfl, hS.cells rfl⟩, ?_⟩
          refine dr_do (i := 15) (lb 18 65535) rfl (by kernel_rfl) ?_
          refine wl_on rfl rfl ?_
          refine wl_call (.cons rfl (.cons rfl .nil)) (psame_c (by unfold Nod.tickP; omega) hq hp ((hS.pull Hp).pull Hq)) rfl ?_
          rintro _ w ⟨rfl, hS⟩
          rw [decide_eq_true rfl]
          refine wl_nil ⟨fun _ _ => ⟨hS.cell rfl, hS.cells rfl⟩, ?_⟩
          refine dr_pure (i := 16) (lb 18 131071) rfl rfl (by kernel_rfl) (fun w => y_pickT rfl rfl) ?_
          refine dr_pure (i := 17) (lb 18 262143) rfl rfl (by kernel_rfl) (fun w => y_assign rfl) ?_
          refine dr_done (by kernel_rfl) ?_
          refine wc_ret ?_
          refine wret (vs := [_]) (.tmp rfl .nil) ?_
          first
          | exact ⟨M9, hMc, rfl, hS.keep⟩
          | exact ⟨M3, (hM1.trans hM2).trans hM3, rfl, hS.keep⟩
          | exact ⟨M2, hM1.trans hM2, rfl, hS.keep⟩
      · try simp only [zq1, zq2, zq3, zq4, zq5, zq6, zq7] at hg44
        have hbad : ¬ (fgetE b = 0 ∧ (fget b).ep = m.k.ep) := fun h => by omega
        rw [← Nod.tick_ep m] at hbad
        obtain ⟨q1, q2⟩ := hearE_ne hbad
        have hMc := hM1.trans hM2
        refine dr_off (i := 3) (lb 10 15) rfl rfl (by kernel_rfl) rfl rfl rfl ?_
        refine dr_off (i := 5) (lb 10 47) rfl rfl (by kernel_rfl) rfl rfl rfl ?_
        refine dr_off (i := 4) (lb 10 63) rfl rfl (by kernel_rfl) rfl rfl rfl ?_
        refine dr_off (i := 6) (lb 10 127) rfl rfl (by kernel_rfl) rfl rfl rfl ?_
        refine dr_off (i := 7) (lb 10 255) rfl rfl (by kernel_rfl) rfl rfl rfl ?_
        refine dr_off (i := 8) (lb 10 511) rfl rfl (by kernel_rfl) rfl rfl rfl ?_
        refine dr_pure (i := 9) (lb 10 1023) rfl rfl (by kernel_rfl) (fun w => y_pickF rfl rfl) ?_
        refine dr_done (by kernel_rfl) ?_
        refine wc_ifF rfl rfl ?_
        refine wc_skip ?_
        refine wc_seq ?_
        refine wc_region ?_
        refine wl (y_move rfl) rfl ?_
        refine wl_call (.cons rfl .nil) (nlook_c hsm n1 (hS.pull H)) rfl ?_
        rintro _ w ⟨M4, hM4, rfl, n1, hS⟩
        replace hMc := hMc.trans hM4
        refine wl (y_move rfl) rfl ?_
        refine wl_call (.cons rfl .nil) (ntick_c (hG.mono hMc) hinv.k hsm hinv.frames n1 (hS.pull H)) rfl ?_
        rintro _ w ⟨M5, H5, Hp, hM5, hp, n2, hS⟩
        replace hMc := hMc.trans hM5
        obtain ⟨pa, pc, rfl⟩ := hp.slice
        refine a_alloc z_30 hS rfl fun b10 w hS => ?_
        refine a_storeS (vs := [_, _, _, _, _, _]) sz_30 rfl rfl rfl rfl hS (Nat.le_of_ble_eq_true rfl) fun w hS => ?_
        refine wl (y_assign rfl) rfl ?_
        refine wl_nil ?_
        simp only [List.setIfInBounds_toArray, List.set_cons_zero, List.set_cons_succ, Nat.zero_add, Nat.add_zero, cells_agg, setCells] at hS
        refine wc_seq ?_
        refine wc_region ?_
        refine wl (y_move rfl) rfl ?_
        refine wl_call (.cons rfl .nil) (nlook_c hsm2 n2 (hS.pull H5)) rfl ?_
        rintro _ w ⟨M6, hM6, rfl, n2, hS⟩
        replace hMc := hMc.trans hM6
        refine a_storeS (vs := [_, _, _, _, _, _]) sz_30 rfl rfl rfl rfl hS (Nat.le_of_ble_eq_true rfl) fun w hS => ?_
        refine wl_nil ?_
        simp only [List.setIfInBounds_toArray, List.set_cons_zero, List.set_cons_succ, Nat.zero_add, Nat.add_zero, cells_agg, setCells] at hS
        refine wc_seq ?_
        refine wc_draw (l0 := (lb 18 0)) (fun w => w.cell? ⟨b5, 1, none⟩ = some (.string b) ∧ CellsAt w b10 0 [.int .i64 m.tick.look.ep, .int .i64 m.tick.look.known, .int .i64 m.tick.look.pending, .int .i64 m.tick.look.opn, .int .i64 m.tick.look.came, .int .i64 m.tick.look.unacked]) [] wide_ rfl rfl fun w hw => ?_
        replace hS := hS.same hw; clear hw
        refine dr_pure (i := 0) (lb 18 1) rfl rfl (by kernel_rfl) (fun w => y_move rfl) ?_
        refine dr_pure (i := 1) (lb 18 3) rfl rfl (by kernel_rfl) (fun w => y_fld fl_51_1 rfl) ?_
        refine dr_read (i := 2) (lb 18 7) rfl rfl (by kernel_rfl) ⟨hS.cell rfl, hS.cells rfl⟩ (fun w hS => y_load pl_9 rfl hS.1) ?_
        refine dr_do (i := 3) (lb 18 15) rfl (by kernel_rfl) ?_
        refine wl_call (.cons rfl (.cons rfl .nil)) (nhear_c (hG.mono hMc) b (by omega) hinv'.k n2 (hS.pull H5)) rfl ?_
        rintro _ w ⟨H7, rfl, n3, hS⟩
        rw [q2] at n3
        refine wl_nil ⟨fun _ _ => ⟨hS.cell rfl, hS.cells rfl⟩, ?_⟩
        refine dr_pure (i := 4) (lb 18 31) rfl rfl (by kernel_rfl) (fun w => (y_neq rfl rfl).val (u := .bool true) (congrArg Value.bool (by rw [decide_eq_false (by omega)]; rfl))) ?_
        refine dr_pure (i := 5) (lb 18 63) rfl rfl (by kernel_rfl) (fun w => y_move rfl) ?_
        refine dr_pureG (i := 6) (lb 18 127) rfl rfl (by kernel_rfl) rfl rfl (fun w => y_move rfl) ?_
        refine dr_readG (i := 8) (lb 18 383) rfl rfl (by kernel_rfl) rfl rfl ⟨hS.cell rfl, hS.cells rfl⟩ (fun w hS => y_loadS st_30 sz_30 rfl hS.2 rfl) ?_
        refine dr_do (i := 7) (lb 18 511) rfl (by kernel_rfl) ?_
        refine wl_on rfl rfl ?_
        refine wl_call (.cons rfl .nil) (nlook_c hsm2 n3 (hS.pull H7)) rfl ?_
        rintro _ w ⟨M8, hM8, rfl, n3, hS⟩
        replace hMc := hMc.trans hM8
        refine wl_nil ⟨fun _ _ => ⟨hS.cell rfl, hS.cells rfl⟩, ?_⟩
        refine dr_pureG (i := 9) (lb 18 1023) rfl rfl (by kernel_rfl) rfl rfl (fun w => (y_eqS Tryz.eqGuardType30 rfl rfl (eq_30 _ _ _ _ _ _ _ _ _ _ _ _)).val (u := .bool true) (congrArg Value.bool ((look_eq m.tick.look m.tick.look).trans (decide_eq_true rfl)))) ?_
        refine dr_pure (i := 10) (lb 18 2047) rfl rfl (by kernel_rfl) (fun w => y_pickT rfl rfl) ?_
        refine dr_pure (i := 11) (lb 18 4095) rfl rfl (by kernel_rfl) (fun w => y_move rfl) ?_
        refine dr_pureG (i := 12) (lb 18 8191) rfl rfl (by kernel_rfl) rfl rfl (fun w => y_move rfl) ?_
        refine dr_pureG (i := 14) (lb 18 24575) rfl rfl (by kernel_rfl) rfl rfl (fun w => y_move rfl) ?_
        refine dr_do (i := 13) (lb 18 32767) rfl (by kernel_rfl) ?_
        refine wl_on rfl rfl ?_
        refine wl_call (.cons rfl .nil) (ntick_c (hG.mono hMc) hinv'.k hsm2 hinv'.frames n3 (hS.pull H7)) rfl ?_
        rintro _ w ⟨M9, H9, Hq, hM9, hq, n4, hS⟩
        replace hMc := hMc.trans hM9
        rw [Nod.tick_tickP] at hq
        refine wl_nil ⟨fun _ _ => ⟨hS.cell rfl, hS.cells rfl⟩, ?_⟩
        refine dr_do (i := 15) (lb 18 65535) rfl (by kernel_rfl) ?_
        refine wl_on rfl rfl ?_
        refine wl_call (.cons rfl (.cons rfl .nil)) (psame_c (by unfold Nod.tickP; omega) hq hp ((hS.pull Hp).pull Hq)) rfl ?_
        rintro _ w ⟨rfl, hS⟩
        rw [decide_eq_true rfl]
        refine wl_nil ⟨fun _ _ => ⟨hS.cell rfl, hS.cells rfl⟩, ?_⟩
        refine dr_pure (i := 16) (lb 18 131071) rfl rfl (by kernel_rfl) (fun w => y_pickT rfl rfl) ?_
        refine dr_pure (i := 17) (lb 18 262143) rfl rfl (by kernel_rfl) (fun w => y_assign rfl) ?_
        refine dr_done (by kernel_rfl) ?_
        refine wc_ret ?_
        refine wret (vs := [_]) (.tmp rfl .nil) ?_
        first
        | exact ⟨M9, hMc, rfl, hS.keep⟩
        | exact ⟨M3, (hM1.trans hM2).trans hM3, rfl, hS.keep⟩
        | exact ⟨M2, hM1.trans hM2, rfl, hS.keep⟩
end
end Go.Proofs.YtndahppmjdbifaaGreatDoor.Nod

set_option linter.unusedVariables false
set_option linter.unusedSimpArgs false
namespace Go.Proofs.YtndahppmjdbifaaGreatDoor.Pak
open Go Go.Proofs Go.Proofs.YtndahppmjdbifaaGreatDoor.Eng Go.Proofs.YtndahppmjdbifaaGreatDoor.Pre

/-! ### what is written is read -/
theorem un_be (x y : Nat) : ∀ j, un x (be y j) = x * 256 ^ j + y % 256 ^ j := by
  intro j
  induction j generalizing y with
  | zero => simp [be, un, Nat.mod_one]
  | succ j ih =>
    simp only [be]
    rw [un_append, ih]
    simp only [un]
    rw [show (UInt8.ofNat y).toNat = y % 256 from by simp [UInt8.toNat_ofNat']]
    have h1 : y % 256 ^ (j + 1) = 256 * (y / 256 % 256 ^ j) + y % 256 := by
      rw [Nat.pow_succ, Nat.mul_comm (256 ^ j) 256, Nat.mod_mul]; omega
    rw [h1, Nat.pow_succ]
    have h2 : x * (256 ^ j * 256) = 256 * (x * 256 ^ j) := by rw [← Nat.mul_assoc]; omega
    rw [h2]
    omega
theorem be_cons (y : Nat) : ∀ j, be y (j + 1) = UInt8.ofNat (y / 256 ^ j) :: be y j := by
  intro j
  induction j generalizing y with
  | zero => simp [be]
  | succ j ih =>
    rw [show be y (j + 1 + 1) = be (y / 256) (j + 1) ++ [UInt8.ofNat y] from rfl, ih]
    rw [Nat.div_div_eq_div_mul, List.cons_append]
    rw [show 256 * 256 ^ j = 256 ^ (j + 1) by rw [Nat.pow_succ, Nat.mul_comm]]
    rfl
theorem spell_bound (n : Nat) (h : n < 4611686018427387904) : spell n ≤ 3 ∧ n < 64 * 256 ^ (2 ^ spell n - 1) := by
  unfold spell
  (repeat' split) <;> simp <;> omega
theorem pget_put (n : Nat) (h : n < 4611686018427387904) (l : List UInt8) : pget (pput n ++ l) = (n, (pput n).length, 0) := by
  obtain ⟨h3, hb⟩ := spell_bound n h
  have hps : psize n = 2 ^ spell n := by unfold psize; rw [if_pos h]
  have hlen : (pput n).length = 2 ^ spell n := by unfold pput; rw [be_length, hps]
  generalize hsp : spell n = sp at h3 hb hps hlen
  have key : ∀ k, 2 ^ sp = k + 1 → (∃ c : UInt8, pput n = c :: be (pnum n) k ∧ c.toNat / 64 = sp ∧ un (c.toNat % 64) (be (pnum n) k) = n) := by
    intro k hk
    refine ⟨UInt8.ofNat (pnum n / 256 ^ k), ?_, ?_⟩
    · unfold pput; rw [hps, hk, be_cons]
    · rw [un_be, show (UInt8.ofNat (pnum n / 256 ^ k)).toNat = pnum n / 256 ^ k % 256 from by simp [UInt8.toNat_ofNat']]
      unfold pnum
      rw [hps, hsp]
      rcases sp with _ | _ | _ | _ | sp
      · obtain rfl : k = 0 := by omega
        simp at hb ⊢; omega
      · obtain rfl : k = 1 := by omega
        simp at hb ⊢; omega
      · obtain rfl : k = 3 := by omega
        simp at hb ⊢; omega
      · obtain rfl : k = 7 := by omega
        simp at hb ⊢; omega
      · omega
  have hp1 : 1 ≤ 2 ^ sp := Nat.pow_pos (by omega)
  obtain ⟨c, h1, h2, h4⟩ := key (2 ^ sp - 1) (by omega)
  rw [hlen]
  have hl2 : (pput n ++ l).length = 2 ^ sp + l.length := by rw [List.length_append, hlen]
  rw [h1, List.cons_append] at hl2 ⊢
  have e : pget (c :: (be (pnum n) (2 ^ sp - 1) ++ l)) = if (c :: (be (pnum n) (2 ^ sp - 1) ++ l)).length < 2 ^ (c.toNat / 64) then (0, 0, 2) else if psize (un (c.toNat % 64) ((be (pnum n) (2 ^ sp - 1) ++ l).take (2 ^ (c.toNat / 64) - 1))) = 2 ^ (c.toNat / 64) then (un (c.toNat % 64) ((be (pnum n) (2 ^ sp - 1) ++ l).take (2 ^ (c.toNat / 64) - 1)), 2 ^ (c.toNat / 64), 0) else (0, 0, 3) := rfl
  rw [e, h2, if_neg (by omega), List.take_left' (be_length _ _), h4, hps, if_pos rfl]
/-- a reader that stands ahead of bytes -/
theorem rraw_put {s : ByteArray} {at_ n : Nat} {l : List UInt8} (h : n < 4611686018427387904) (hd : s.data.toList.drop at_ = pput n ++ l) : rraw ⟨s, at_, 0⟩ = (n, ⟨s, at_ + (pput n).length, 0⟩) ∧ s.data.toList.drop (at_ + (pput n).length) = l := by
  refine ⟨?_, ?_⟩
  · unfold rraw rest
    simp only [hd, pget_put n h l]
    simp
  · rw [← List.drop_drop, hd, List.drop_left' rfl]
theorem rnum_put {s : ByteArray} {at_ n lim : Nat} {l : List UInt8} (h : n < 4611686018427387904) (hl : n ≤ lim) (hd : s.data.toList.drop at_ = pput n ++ l) : rnum ⟨s, at_, 0⟩ lim = (n, ⟨s, at_ + (pput n).length, 0⟩) ∧ s.data.toList.drop (at_ + (pput n).length) = l := by
  obtain ⟨h1, h2⟩ := rraw_put h hd
  refine ⟨?_, h2⟩
  unfold rnum
  rw [h1]
  simp only
  rw [if_neg (by omega)]
theorem rtext_put {s d : ByteArray} {at_ lim : Nat} {l : List UInt8} (h : d.size < 4611686018427387904) (hl : d.size ≤ lim) (hd : s.data.toList.drop at_ = ptext d ++ l) : rtext ⟨s, at_, 0⟩ lim = (d, ⟨s, at_ + (ptext d).length, 0⟩) ∧ s.data.toList.drop (at_ + (ptext d).length) = l := by
  unfold ptext at hd ⊢
  rw [List.append_assoc] at hd
  obtain ⟨h1, h2⟩ := rnum_put h hl hd
  have hdl : d.data.toList.length = d.size := by simp
  have hsz : (s.data.toList.drop (at_ + (pput d.size).length)).length = s.size - (at_ + (pput d.size).length) := by rw [List.length_drop]; simp
  rw [h2, List.length_append, hdl] at hsz
  refine ⟨?_, ?_⟩
  · unfold rtext
    rw [h1]
    simp only
    rw [if_neg (by omega)]
    have hex : s.extract (at_ + (pput d.size).length) (at_ + (pput d.size).length + d.size) = d := by
      apply bytes_eq
      simp only [ByteArray.data_extract, Array.toList_extract, List.extract_eq_take_drop]
      rw [h2, Nat.add_sub_cancel_left, List.take_left' hdl]
    rw [hex, List.length_append, hdl]
    rw [Nat.add_assoc]
  · rw [List.length_append, ← Nat.add_assoc, ← List.drop_drop, h2, List.drop_left' rfl]
theorem rend_put {s : ByteArray} {at_ : Nat} (hd : s.data.toList.drop at_ = []) : rend ⟨s, at_, 0⟩ = ⟨s, at_, 0⟩ := by
  have : s.size ≤ at_ := by
    have h1 := congrArg List.length hd
    rw [List.length_drop] at h1
    simp at h1
    omega
  unfold rend
  rw [if_neg (by simp only; omega)]
end Go.Proofs.YtndahppmjdbifaaGreatDoor.Pak

set_option linter.unusedVariables false
set_option linter.unusedSimpArgs false
namespace Go.Proofs.YtndahppmjdbifaaGreatDoor.Nod
open Go Go.Proofs Go.Proofs.YtndahppmjdbifaaGreatDoor.Eng Go.Proofs.YtndahppmjdbifaaGreatDoor.Pre Go.Proofs.YtndahppmjdbifaaGreatDoor.Pak Go.Proofs.YtndahppmjdbifaaGreatDoor.Val Go.Proofs.YtndahppmjdbifaaGreatDoor.Rou Go.Proofs.YtndahppmjdbifaaGreatDoor.Fra Go.Proofs.YtndahppmjdbifaaGreatDoor.Snd Go.Proofs.YtndahppmjdbifaaGreatDoor.Lnk Go.Proofs.YtndahppmjdbifaaGreatDoor.Jnl Go.Proofs.YtndahppmjdbifaaGreatDoor.Cli Go.Proofs.YtndahppmjdbifaaGreatDoor.Sto Go.Proofs.YtndahppmjdbifaaGreatDoor.Crc

/-! ### frames come back -/
theorem fputE_ok {f : Frm} {mtu : Int} (h : fputE f mtu = 0) : (64 ≤ mtu ∧ mtu ≤ 1400) ∧ (1 ≤ f.ep ∧ f.ep ≤ 1099511627776) ∧ (0 ≤ f.seq ∧ f.seq ≤ 1125899906842624) ∧ (0 ≤ f.ack ∧ f.ack ≤ 1125899906842624) ∧ (f.seq = 0 → f.data = ⟨#[]⟩) ∧ ((fbytes f).size : Int) ≤ mtu := by
  unfold fputE at h
  split at h; · cases h
  split at h; · cases h
  split at h; · cases h
  split at h; · cases h
  rename_i h1 h2 h3 h4
  refine ⟨by omega, by omega, by omega, by omega, ?_, ?_⟩
  · intro h0
    rw [if_pos h0] at h
    split at h
    · cases h
    · rename_i h5; exact Decidable.not_not.1 h5
  · split at h
    · split at h
      · cases h
      · split at h
        · cases h
        · omega
    · split at h
      · cases h
      · omega
theorem fputE_of {f : Frm} {mtu : Int} (h1 : 64 ≤ mtu ∧ mtu ≤ 1400) (h2 : 1 ≤ f.ep ∧ f.ep ≤ 1099511627776) (h3 : 0 ≤ f.seq ∧ f.seq ≤ 1125899906842624) (h4 : 0 ≤ f.ack ∧ f.ack ≤ 1125899906842624) (h5 : f.seq = 0 → f.data = ⟨#[]⟩) (h6 : ((fbytes f).size : Int) ≤ mtu) : fputE f mtu = 0 := by
  unfold fputE
  rw [if_neg (by omega), if_neg (by omega), if_neg (by omega), if_neg (by omega)]
  split
  · rename_i h0
    rw [if_neg (fun h => h (h5 h0)), if_neg (by omega)]
  · rw [if_neg (by omega)]
theorem fbytes_size (f : Frm) : (fbytes f).size = (fplain f).length + 4 := by
  unfold fbytes seal_
  show (((str (fplain f)).data.toList ++ le4 (sum (str (fplain f)))).toArray).size = _
  rw [List.size_toArray, List.length_append]
  simp [str, le4]
theorem fbytes_le (f : Frm) : (fbytes f).size ≤ 36 + f.data.size := by
  have := fplain_length f
  rw [fbytes_size]; omega
theorem fget_put {f : Frm} {mtu : Int} (h : fputE f mtu = 0) : fgetE (fput f mtu) = 0 ∧ fget (fput f mtu) = f ∧ ((fput f mtu).size : Int) ≤ mtu := by
  obtain ⟨h1, h2, h3, h4, h5, h6⟩ := fputE_ok h
  have hput : fput f mtu = fbytes f := by unfold fput; rw [if_pos h]
  rw [hput]
  have hop : open_ (fbytes f) = some (str (fplain f)) := by unfold fbytes; exact open_seal _
  obtain ⟨ep, hep⟩ : ∃ n : Nat, f.ep = n := ⟨f.ep.toNat, by omega⟩
  obtain ⟨sq, hsq⟩ : ∃ n : Nat, f.seq = n := ⟨f.seq.toNat, by omega⟩
  obtain ⟨ak, hak⟩ : ∃ n : Nat, f.ack = n := ⟨f.ack.toNat, by omega⟩
  have hpl : fplain f = pput ep ++ (pput sq ++ (pput ak ++ (ptext f.data ++ []))) := by unfold fplain; rw [hep, hsq, hak]; simp
  have hds : f.data.size ≤ 1400 := by
    have e := fbytes_size f
    have e2 : (ptext f.data).length = (pput f.data.size).length + f.data.size := by unfold ptext; rw [List.length_append]; simp
    rw [hpl] at e
    simp only [List.length_append, List.length_nil] at e
    omega
  have hd0 : (str (fplain f)).data.toList.drop 0 = pput ep ++ (pput sq ++ (pput ak ++ (ptext f.data ++ []))) := by rw [← hpl]; rfl
  generalize hss : str (fplain f) = s at hop hd0
  obtain ⟨a1, d1⟩ := rnum_put (lim := 1099511627776) (by omega) (by omega) hd0
  obtain ⟨a2, d2⟩ := rnum_put (lim := 1125899906842624) (by omega) (by omega) d1
  obtain ⟨a3, d3⟩ := rnum_put (lim := 1125899906842624) (by omega) (by omega) d2
  obtain ⟨a4, d4⟩ := rtext_put (lim := 1400) (by omega) hds d3
  have e1 : fg1 s = (ep, ⟨s, 0 + (pput ep).length, 0⟩) := by unfold fg1; exact a1
  have e1' : fg1' s = ⟨s, 0 + (pput ep).length, 0⟩ := by rw [fg1'_eq (.inr (by rw [e1]; simp only; omega)), e1]
  have e2 : fg2 s = (sq, ⟨s, 0 + (pput ep).length + (pput sq).length, 0⟩) := by unfold fg2; rw [e1']; exact a2
  have e3 : fg3 s = (ak, ⟨s, 0 + (pput ep).length + (pput sq).length + (pput ak).length, 0⟩) := by unfold fg3; rw [e2]; exact a3
  have e4 : fg4 s = (f.data, ⟨s, 0 + (pput ep).length + (pput sq).length + (pput ak).length + (ptext f.data).length, 0⟩) := by unfold fg4; rw [e3]; exact a4
  have hge : fge s = 0 := by
    rw [fge_end (by
      by_cases hz : f.data = ⟨#[]⟩
      · right; right; rw [e4]; exact hz
      · right; left; rw [e2]; simp only; intro hz2; exact hz (h5 (by omega)))]
    rw [e4, rend_put d4]
  refine ⟨?_, ?_, h6⟩
  · unfold fgetE; rw [hop]; exact hge
  · unfold fget; rw [hop]
    show fgf s = f
    unfold fgf
    rw [if_pos hge, e1, e2, e3, e4]
    simp only
    rw [← hep, ← hsq, ← hak]
/-! ### rounds that fit -/
theorem pput_size (n : Nat) : (pput n).length = psize n := by unfold pput; rw [be_length]
theorem psize_2 {n : Nat} (h : n ≤ 64) : psize n ≤ 2 := by
  unfold psize spell
  rw [if_pos (by omega)]
  (repeat' split) <;> first | omega | simp
theorem rbytes_fit {r : Rnd} {mtu : Int} (h : mayR r = 0) (hf : fits r.ups mtu = true) : ((rbytes r).length : Int) ≤ mtu - 40 := by
  obtain ⟨_, _, h3⟩ := fits_ok hf
  obtain ⟨m1, m2, m3, m4, _, _, _⟩ := mayR_ok h
  have e : ∀ r : Rnd, (rbytes r).length = (pput r.o.toNat).length + (pput r.n.toNat).length + (pput r.ups.length).length + (r.ups.flatMap ubytes).length := by
    intro r; unfold rbytes; simp only [List.length_append]
  rw [e] at h3 ⊢
  simp only at h3
  have a := psize_2 (n := r.o.toNat) (by omega)
  have b := psize_le r.n.toNat
  have c : (pput (64 : Int).toNat).length = 2 := by rw [pput_size]; decide
  have d : (pput (1099511627776 : Int).toNat).length = 8 := by rw [pput_size]; decide
  rw [← pput_size] at a b
  rw [c, d] at h3
  omega
theorem putB_eq {r : Rnd} (h : mayR r = 0) : putB r = str (rbytes r) := by unfold putB; rw [if_pos h]
theorem str_size (l : List UInt8) : (str l).size = l.length := by
  show l.toArray.size = l.length
  simp
structure Nod.fit (m : Nod) : Prop where
  jr : ∀ r ∈ m.j.l, mayR r = 0 ∧ ((rbytes r).length : Int) ≤ m.c.mtu - 40
  jn : ∀ i r, m.j.l[i]? = some r → r.n = ((i + 1 : Nat) : Int) ∧ r.o = m.origin
  jo : m.j.origin = m.origin
  opn : m.own.opn = [] ∨ fits m.own.opn m.c.mtu = true
  sd : ∀ d ∈ m.k.s.all, (d.size : Int) ≤ m.c.mtu - 40
  ep : 1 ≤ m.k.ep
theorem Nod.new_fit (c : Cfg) (o : Int) : (Nod.new c o).fit := by
  refine ⟨?_, ?_, rfl, .inl rfl, ?_, ?_⟩
  · intro r hr; unfold Nod.new Jnl.new at hr; simp at hr
  · intro i r hr; unfold Nod.new Jnl.new at hr; simp at hr
  · intro d hd; unfold Nod.new Lnk.new Snd.new at hd; simp at hd
  · show 1 ≤ epc 1; decide
theorem behind_all {l : List Rnd} (h : ∀ i r, l[i]? = some r → r.n = ((i + 1 : Nat) : Int)) : behind 0 l = l := by
  unfold behind
  rw [List.filter_eq_self]
  intro r hr
  obtain ⟨i, hi⟩ := List.getElem?_of_mem hr
  have := h i r hi
  exact decide_eq_true (by omega)
theorem Nod.act_fit {t : Nat} {m : Nod} (hi : m.inv t) (h : m.fit) (a : Act) : (m.act a).fit := by
  have hc := mayC_ok hi.c
  unfold Nod.act
  split
  · unfold Nod.upd Cli.upd
    split
    · rename_i he
      refine ⟨h.jr, h.jn, h.jo, .inr ?_, h.sd, h.ep⟩
      simp only
      unfold Cli.updE at he
      split at he
      · omega
      · split at he; · cases he
        split at he; · cases he
        rename_i hf
        rw [hi.mtu] at hf
        simpa using hf
    · exact h
  split
  · unfold Nod.push Cli.pushC Cli.pushJ
    split
    · rename_i he
      have hadd : m.j.addE m.own.opn = 0 ∧ m.own.opn.length ≠ 0 := by
        unfold Cli.pushE at he
        split at he; · cases he
        split at he; · cases he
        rename_i h1 h2
        exact ⟨he, h1⟩
      have hmr : mayR (m.j.next m.own.opn) = 0 := by
        have := hadd.1
        unfold Jnl.addE at this
        split at this
        · cases this
        · exact this
      have hft : fits m.own.opn m.c.mtu = true := by
        rcases h.opn with h0 | h0
        · exact absurd (by rw [h0]; rfl) hadd.2
        · exact h0
      have hj : m.j.add m.own.opn = ⟨m.j.origin, m.j.last, m.j.l ++ [m.j.next m.own.opn]⟩ := by unfold Jnl.add; rw [if_pos hadd.1]
      rw [hj]
      refine ⟨?_, ?_, h.jo, .inl rfl, h.sd, h.ep⟩
      · intro r hr
        simp only [List.mem_append, List.mem_singleton] at hr
        rcases hr with hr | rfl
        · exact h.jr r hr
        · exact ⟨hmr, rbytes_fit hmr hft⟩
      · intro i r hr
        simp only at hr
        rcases Nat.lt_or_ge i m.j.l.length with hl | hl
        · rw [List.getElem?_append_left hl] at hr; exact h.jn i r hr
        · rw [List.getElem?_append_right hl] at hr
          have hz : i - m.j.l.length = 0 := by
            rcases Nat.eq_zero_or_pos (i - m.j.l.length) with h | h
            · exact h
            · rw [List.getElem?_eq_none (by simp; omega)] at hr; cases hr
          rw [hz] at hr
          simp only [List.getElem?_cons_zero, Option.some.injEq] at hr
          subst hr
          refine ⟨?_, h.jo⟩
          show (m.j.l.length : Int) + 1 = _
          omega
    · exact h
  split
  · obtain ⟨_, _, _, a4, _⟩ := Cli.takeL_same m.own m.k.r.came
    exact ⟨h.jr, h.jn, h.jo, by unfold Nod.pull; simp only [a4]; exact h.opn, h.sd, h.ep⟩
  split
  · unfold Nod.reset
    split
    · rename_i he
      refine ⟨h.jr, h.jn, h.jo, .inl rfl, ?_, ?_⟩
      · intro d hd; unfold Lnk.new Snd.new at hd; simp at hd
      · unfold Lnk.new epc; simp only []; omega
    · exact h
  split
  · unfold Nod.hear
    split
    · rename_i he
      have hpep : (fget a.bytes).ep = m.k.ep := by
        unfold Nod.hearE at he
        split at he
        · omega
        · split at he
          · cases he
          · rename_i h2; exact Decidable.not_not.1 h2
      have hep : (m.k.hear (fget a.bytes)).ep = m.k.ep := by
        unfold Lnk.hear
        rw [if_neg (by omega), if_neg (by omega)]
        rfl
      exact ⟨h.jr, h.jn, h.jo, h.opn, Lnk.hear_s h.sd, by show 1 ≤ (m.k.hear (fget a.bytes)).ep; rw [hep]; exact h.ep⟩
    · exact h
  split
  · refine ⟨h.jr, h.jn, h.jo, h.opn, ?_, ?_⟩
    · show ∀ d ∈ (offl (m.j.l.drop m.offered) m.k m.offered).1.s.all, (d.size : Int) ≤ m.c.mtu - 40
      refine offl_s h.sd fun r hr => ?_
      have hjr := h.jr r (List.mem_of_mem_drop hr)
      rw [putB_eq hjr.1, str_size]
      exact hjr.2
    · rw [Nod.tick_ep]; exact h.ep
  · exact h
theorem Nod.acts_fit {t : Nat} {m : Nod} (hi : m.inv t) (h : m.fit) (l : List Act) (hb : ∀ a ∈ l, a.bytes.size ≤ 140737488351232) : (m.acts l).fit := by
  induction l generalizing m t with
  | nil => exact h
  | cons a l ih => exact ih (Nod.act_inv hi a (hb a List.mem_cons_self)) (Nod.act_fit hi h a) fun x hx => hb x (List.mem_cons_of_mem _ hx)
end Go.Proofs.YtndahppmjdbifaaGreatDoor.Nod

set_option linter.unusedVariables false
set_option linter.unusedSimpArgs false
namespace Go.Proofs.YtndahppmjdbifaaGreatDoor.Nod
open Go Go.Proofs Go.Proofs.YtndahppmjdbifaaGreatDoor.Eng Go.Proofs.YtndahppmjdbifaaGreatDoor.Pre Go.Proofs.YtndahppmjdbifaaGreatDoor.Pak Go.Proofs.YtndahppmjdbifaaGreatDoor.Val Go.Proofs.YtndahppmjdbifaaGreatDoor.Rou Go.Proofs.YtndahppmjdbifaaGreatDoor.Fra Go.Proofs.YtndahppmjdbifaaGreatDoor.Snd Go.Proofs.YtndahppmjdbifaaGreatDoor.Lnk Go.Proofs.YtndahppmjdbifaaGreatDoor.Jnl Go.Proofs.YtndahppmjdbifaaGreatDoor.Cli Go.Proofs.YtndahppmjdbifaaGreatDoor.Sto Go.Proofs.YtndahppmjdbifaaGreatDoor.Crc
/-! ### all that is sent is well formed -/
theorem pcs_seq {a : Nat} {l : List ByteArray} {x : Nat × ByteArray} (h : x ∈ pcs a l) : a < x.1 ∧ x.1 ≤ a + l.length := by
  induction l generalizing a with
  | nil => cases h
  | cons d l ih =>
    simp only [pcs, List.mem_cons] at h
    rw [List.length_cons]
    rcases h with rfl | h
    · simp only; omega
    · have := ih h; omega
theorem frames_put {k : Lnk} {mtu : Int} (hk : k.ok) (he : 1 ≤ k.ep) (hm : 64 ≤ mtu ∧ mtu ≤ 1400) (hd : ∀ d ∈ k.s.all, (d.size : Int) ≤ mtu - 40) : ∀ f ∈ k.frames, fputE f mtu = 0 ∧ f.ep = k.ep := by
  obtain ⟨h1, h2, h3⟩ := hk
  unfold Snd.ok at h2
  unfold Rcv.ok at h3
  intro f hf
  unfold Lnk.frames at hf
  rw [if_neg (by omega)] at hf
  split at hf
  · simp only [List.mem_singleton] at hf
    subst hf
    refine ⟨fputE_of hm ⟨by simp only; omega, by simp only; omega⟩ ⟨by simp, by simp⟩ ⟨by simp only; omega, by simp only; omega⟩ (fun _ => rfl) ?_, rfl⟩
    have := fbytes_le ⟨k.ep, 0, k.r.all.length, ByteArray.empty⟩
    have e : ByteArray.empty.size = 0 := rfl
    simp only [e] at this
    omega
  · obtain ⟨x, hx, rfl⟩ := List.mem_map.1 hf
    have hs := pcs_seq hx
    rw [List.length_drop] at hs
    have hxd := hd _ (List.mem_of_mem_drop (pcs_mem hx))
    have := fbytes_le (frm k x)
    unfold frm at this ⊢
    simp only at this
    refine ⟨fputE_of hm ⟨by simp only; omega, by simp only; omega⟩ ⟨by simp only; omega, by simp only; omega⟩ ⟨by simp only; omega, by simp only; omega⟩ (fun h => by simp only at h; omega) (by omega), rfl⟩
theorem pkts_all {o t mtu : Int} {l : List Frm} (h : ∀ f ∈ l, fputE f mtu = 0) : pkts o t mtu l = l.map fun f => ⟨o, t, fput f mtu⟩ := by
  unfold pkts
  induction l with
  | nil => rfl
  | cons f l ih =>
    rw [List.filterMap_cons, if_pos (h f List.mem_cons_self), List.map_cons]
    simp only
    rw [ih fun x hx => h x (List.mem_cons_of_mem _ hx)]
theorem Nod.tick_fit {t : Nat} {m : Nod} (hi : m.inv t) (h : m.fit) : m.tick.fit := by
  have := Nod.act_fit hi h ⟨6, upd0, ByteArray.empty⟩
  exact this
theorem tickP_eq {t : Nat} {m : Nod} (hi : m.inv t) (h : m.fit) : m.tickP = m.tick.k.frames.map fun f => ⟨m.origin, 0, fput f m.c.mtu⟩ := by
  have hc := mayC_ok hi.c
  have hf := Nod.tick_fit hi h
  unfold Nod.tickP
  exact pkts_all fun f hx => (frames_put (mtu := m.c.mtu) (Nod.tick_inv hi).k hf.ep (by omega) hf.sd f hx).1
theorem tickP_mem {t : Nat} {m : Nod} (hi : m.inv t) (h : m.fit) {x : Pkt} (hx : x ∈ m.tickP) : x.frm = m.origin ∧ x.to_ = 0 ∧ fgetE x.bytes = 0 ∧ (fget x.bytes).ep = m.k.ep ∧ (x.bytes.size : Int) ≤ m.c.mtu ∧ fget x.bytes ∈ m.tick.k.frames := by
  have hc := mayC_ok hi.c
  have hf := Nod.tick_fit hi h
  rw [tickP_eq hi h] at hx
  obtain ⟨f, hff, rfl⟩ := List.mem_map.1 hx
  obtain ⟨h1, h2⟩ := frames_put (mtu := m.c.mtu) (Nod.tick_inv hi).k hf.ep (by omega) hf.sd f hff
  obtain ⟨g1, g2, g3⟩ := fget_put h1
  refine ⟨rfl, rfl, g1, ?_, g3, ?_⟩
  · simp only; rw [g2, h2, Nod.tick_ep]
  · simp only; rw [g2]; exact hff
theorem frames_len {k : Lnk} (hk : k.ok) (he : 1 ≤ k.ep) : k.frames.length = max (k.s.all.length - k.s.acked) 1 ∧ k.s.all.length - k.s.acked ≤ k.s.win := by
  obtain ⟨h1, h2, h3⟩ := hk
  unfold Snd.ok at h2
  have hpl := pieces_length k.s
  unfold Lnk.frames
  rw [if_neg (by omega)]
  split
  · rename_i h
    rw [h] at hpl
    simp only [List.length_nil] at hpl
    simp only [List.length_singleton]
    omega
  · rename_i h
    have : k.s.pieces.length ≠ 0 := fun h0 => h (List.length_eq_zero_iff.1 h0)
    rw [List.length_map]
    omega
theorem tickP_len {t : Nat} {m : Nod} (hi : m.inv t) (h : m.fit) (hw : m.wide) : 1 ≤ m.tickP.length ∧ (m.tickP.length : Int) ≤ m.c.window ∧ ((m.tick.k.s.all.length - m.tick.k.s.acked : Nat) : Int) ≤ m.c.window := by
  have hc := mayC_ok hi.c
  have hf := Nod.tick_fit hi h
  obtain ⟨h1, h2⟩ := frames_len (Nod.tick_inv hi).k hf.ep
  have h3 := hw.win
  rw [show m.tick.k.s.win = m.k.s.win from (offl_win _ _ _).1] at h2
  rw [tickP_eq hi h, List.length_map]
  omega
end Go.Proofs.YtndahppmjdbifaaGreatDoor.Nod

set_option linter.unusedVariables false
set_option linter.unusedSimpArgs false
namespace Go.Proofs.YtndahppmjdbifaaGreatDoor.Pak
open Go Go.Proofs Go.Proofs.YtndahppmjdbifaaGreatDoor.Eng Go.Proofs.YtndahppmjdbifaaGreatDoor.Pre Go.Proofs.YtndahppmjdbifaaGreatDoor.Crc Go.Proofs.YtndahppmjdbifaaGreatDoor.Snd

/-! ### the reference's layers 1 and 3: writing -/
theorem be_mod (y : Nat) : ∀ j, be (y % 256 ^ j) j = be y j := by
  intro j
  induction j generalizing y with
  | zero => rfl
  | succ j ih =>
    simp only [be]
    have h1 : y % 256 ^ (j + 1) / 256 = (y / 256) % 256 ^ j := by
      rw [Nat.pow_succ, Nat.mul_comm (256 ^ j) 256, Nat.mod_mul_right_div_self]
    have h2 : UInt8.ofNat (y % 256 ^ (j + 1)) = UInt8.ofNat y := by
      apply UInt8.toNat_inj.1
      simp only [UInt8.toNat_ofNat']
      rw [Nat.pow_succ, Nat.mul_comm (256 ^ j) 256]
      exact Nat.mod_mul_right_mod y 256 (256 ^ j)
    rw [h1, ih, h2]
theorem nmod256 (q : Nat) : ((q : Nat) : Int).tmod 256 = ((q % 256 : Nat) : Int) := by rw [Int.tmod_eq_emod_of_nonneg (by omega)]; omega
theorem ndiv256 (q : Nat) : ((q : Nat) : Int).tdiv 256 = ((q / 256 : Nat) : Int) := by rw [Int.tdiv_eq_ediv_of_nonneg (by omega)]; omega
theorem conv256 (q : Nat) : IntKind.u8.wrap ((q % 256 : Nat) : Int) = ((UInt8.ofNat q).toNat : Int) := by
  rw [wu8, show (UInt8.ofNat q).toNat = q % 256 from by simp [UInt8.toNat_ofNat']]; omega
theorem be_step (n i : Nat) : be n (i + 1) = UInt8.ofNat (n / 256 ^ i) :: be n i := be_cons n i
/-- the number, marked -/
theorem pput_mark {n k : Nat} (h : n < 4611686018427387904) (hk : psize n = k + 1) : pput n = UInt8.ofNat (n / 256 ^ k + 64 * spell n) :: be n k := by
  have hps : psize n = 2 ^ spell n := by unfold psize; rw [if_pos h]
  unfold pput
  rw [hk, be_cons]
  have hN : pnum n = n + 256 ^ k * (64 * spell n) := by
    unfold pnum
    rw [hk]
    have : 8 * (k + 1) - 2 = 6 + 8 * k := by omega
    rw [this, Nat.pow_add, Nat.pow_mul]
    have e : (2 : Nat) ^ 6 * (2 ^ 8) ^ k * spell n = 256 ^ k * (64 * spell n) := by
      rw [show (2 : Nat) ^ 8 = 256 from rfl, show (2 : Nat) ^ 6 = 64 from rfl, Nat.mul_comm 64 (256 ^ k), Nat.mul_assoc]
    rw [e]
  rw [hN]
  congr 1
  · rw [Nat.add_mul_div_left _ _ (Nat.pow_pos (by omega))]
  · rw [← be_mod (n + 256 ^ k * (64 * spell n)), Nat.add_mul_mod_self_left, be_mod]
theorem _root_.Go.Proofs.YtndahppmjdbifaaGreatDoor.Eng.Holds.cellB {α : Type} {A : Enc α} {w : World} {b off m c i j : Nat} {xs : List α} {x : α} {v : Value} (h : Holds w A (.slice (some ⟨b, off, none⟩) m c) xs) (hx : xs[i]? = some x) (hv : (A.f x)[j]? = some v) : w.cell? ⟨b, off + i * A.k + j, none⟩ = some v := by
  obtain ⟨b', off', c', hse, hce⟩ := h.at hx
  simp only [Value.slice.injEq, Option.some.injEq, Addr.mk.injEq] at hse
  obtain ⟨⟨rfl, rfl, _⟩, _⟩ := hse
  exact hce j v hv
def mark (n : Nat) : Nat := if psize n = 2 then 64 else if psize n = 4 then 128 else if psize n = 8 then 192 else 0
theorem mark_eq {n : Nat} (h : n < 4611686018427387904) : mark n = 64 * spell n := by
  unfold mark psize
  rw [if_pos h]
  unfold spell
  (repeat' split) <;> first | rfl | omega | simp_all
def put1V (n : Nat) : Value := if n < 4611686018427387904 then .tuple [.string (str (pput n)), .int .i64 0].toArray else .tuple [.string ⟨#[]⟩, .int .i64 1].toArray
section
variable {M : Mem} {w : World} {Ls : List Chunk}
theorem r1put_c (n : Nat) (hn : n < 18446744073709551616) (hS : St M w Ls) :
    CallsR Tryz.prog 132 [.int .u64 n].toArray w fun v w' => v = put1V n ∧ St M w' Ls := by
  refine calls_of (c := _) (rs := _) (n := 45) Tryz.func132 rfl rfl rfl rfl rfl ?_
  refine wc_seq ?_
  refine wc_region ?_
  refine wl (y_assign rfl) rfl ?_
  refine wl (y_assign rfl) rfl ?_
  refine wl_nil ?_
  refine wc_seq ?_
  refine wc_region ?_
  refine wl (y_move rfl) rfl ?_
  refine wl_call (.cons rfl .nil) (r1size_c n hS) rfl ?_
  rintro _ w ⟨rfl, hS⟩
  refine wl (y_assign rfl) rfl ?_
  refine wl_nil ?_
  refine wc_seq ?_
  refine wc_seq ?_
  refine wc_region ?_
  refine wl (y_move rfl) rfl ?_
  refine wl (y_eql rfl rfl) rfl ?_
  refine wl_nil ?_
  refine wc_if rfl (fun hc11 => ?_) (fun hc11 => ?_)
  · try simp only [zq1, zq2, zq3, zq4, zq5, zq6, zq7] at hc11
    have hbig : ¬ n < 4611686018427387904 := by
      intro h
      have : psize n = 2 ^ spell n := by unfold psize; rw [if_pos h]
      have : 0 < 2 ^ spell n := Nat.pow_pos (by omega)
      omega
    have hv : put1V n = .tuple [.string ⟨#[]⟩, .int .i64 1].toArray := by unfold put1V; rw [if_neg hbig]
    rw [hv]
    refine wc_seq ?_
    refine wc_region ?_
    refine wl (y_assign rfl) rfl ?_
    refine wl (y_assign rfl) rfl ?_
    refine wl_nil ?_
    refine wc_ret ?_
    refine wret (vs := [_, _]) (.tmp rfl (.tmp rfl .nil)) ?_
    first
    | exact ⟨rfl, hS.keep⟩
    | (refine ⟨?_, hS.keep⟩
       rw [append_mk]
       show Value.tuple _ = _
       rw [hpm]
       rfl)
  · try simp only [zq1, zq2, zq3, zq4, zq5, zq6, zq7] at hc11
    have hsm : n < 4611686018427387904 := by
      rcases Nat.lt_or_ge n 4611686018427387904 with h | h
      · exact h
      · exact absurd (show psize n = 0 by unfold psize; rw [if_neg (by omega)]) (by omega)
    have hv : put1V n = .tuple [.string (str (pput n)), .int .i64 0].toArray := by unfold put1V; rw [if_pos hsm]
    rw [hv]
    have hp8 := psize_le n
    obtain ⟨k, hk⟩ : ∃ k, psize n = k + 1 := ⟨psize n - 1, by omega⟩
    have hmk := mark_eq hsm
    have hpm := pput_mark hsm hk
    rw [← hmk] at hpm
    refine wc_skip ?_
    refine wc_seq ?_
    refine wc_region ?_
    refine a_bslice encB [] (vs := []) (ps := []) Tryz.underlying173 sz_5 z_5 rfl .nil rfl rfl rfl (by decide) hS rfl fun s H w ho hS => ?_
    refine wl (y_assign rfl) rfl ?_
    refine wl_nil ?_
    refine wc_seq ?_
    refine wc_seq ?_
    refine wc_region ?_
    refine wl (y_assign rfl) rfl ?_
    refine wl_nil ?_
    refine wc_block ?_
    refine wc_loop (α := Nat × Value × Chunk) (fun ⟨i, s, _⟩ => [(0, .int .u64 ((n / 256 ^ i : Nat) : Int)), (4, .int .i64 (psize n)), (5, s), (6, .int .i64 i)]) (fun ⟨i, s, H⟩ w => i ≤ psize n ∧ Own 5 encB s (be n i) H ∧ St M w (H :: Ls)) (fun ⟨i, _, _⟩ => psize n - i) (0, s, H) (sub_cons (show _ = some (Value.int .u64 ((n / 256 ^ 0 : Nat) : Int)) by rw [Nat.pow_zero, Nat.div_one]; rfl) (sub_cons rfl (sub_cons rfl (sub_cons rfl sub_nil)))) ⟨by omega, ho, hS⟩ ?_
    clear hS ho
    rintro ⟨i, s, H⟩ w ⟨hi, ho, hS⟩
    have hbl := be_length n i
    have hqi : n / 256 ^ i < 18446744073709551616 := Nat.lt_of_le_of_lt (Nat.div_le_self _ _) hn
    have hu8 : (UInt8.ofNat (n / 256 ^ i)).toNat = n / 256 ^ i % 256 := by simp [UInt8.toNat_ofNat']
    refine wc_seq ?_
    refine wc_seq ?_
    refine wc_region ?_
    refine wl (y_move rfl) rfl ?_
    refine wl (y_move rfl) rfl ?_
    refine wl (y_lss rfl rfl) rfl ?_
    refine wl_nil ?_
    refine wc_if rfl (fun hc15 => ?_) (fun hc15 => ?_)
    · try simp only [zq1, zq2, zq3, zq4, zq5, zq6, zq7] at hc15
      refine wc_skip ?_
      refine wc_seq ?_
      refine wc_block ?_
      refine wc_seq ?_
      refine wc_region ?_
      refine wl (y_move rfl) rfl ?_
      refine wl (y_rem (r := ((n / 256 ^ i % 256 : Nat) : Int)) rfl rfl (by decide) (nmod256 _)) rfl ?_
      refine wl (y_conv (r := ((UInt8.ofNat (n / 256 ^ i)).toNat : Int)) Tryz.underlying190 Tryz.underlying5 rfl (conv256 _)) rfl ?_
      refine a_bslice encB [UInt8.ofNat (n / 256 ^ i)] Tryz.underlying173 sz_5 z_5 rfl (.cons rfl .nil) rfl rfl rfl (by decide) hS rfl fun s1 H1 w ho1 hS => ?_
      refine wl (y_move rfl) rfl ?_
      refine a_append (A := encB) (H := H1) Tryz.underlying173 Tryz.underlying173 sz_5 z_5 rfl by_5 (by decide) rfl rfl ho1 (ho.holds (hS.pull H)) hS (by rw [hbl]; simp; omega) rfl fun s2 H2 w ho2 hS => ?_
      rw [List.singleton_append, ← be_cons] at ho2
      refine wl (y_assign rfl) rfl ?_
      refine wl_nil ?_
      refine wc_region ?_
      refine wl (y_move rfl) rfl ?_
      refine wl (y_quo (r := ((n / 256 ^ (i + 1) : Nat) : Int)) rfl rfl (by decide) (by rw [ndiv256, Nat.div_div_eq_div_mul, ← Nat.pow_succ]; exact natwrap64 _ (Nat.lt_of_le_of_lt (Nat.div_le_self _ _) hn))) rfl ?_
      refine wl (y_assign rfl) rfl ?_
      refine wl_nil ?_
      refine wc_region ?_
      refine wl (y_move rfl) rfl ?_
      refine wl (y_add rfl rfl (w64 (by omega) (by omega))) rfl ?_
      refine wl (y_assign rfl) rfl ?_
      refine wl_nil ?_
      exact ⟨(i + 1, s2, H2), by simp only; omega, sub_cons rfl (sub_cons rfl (sub_cons rfl (sub_cons rfl sub_nil))), by omega, ho2, hS.keep⟩
    · try simp only [zq1, zq2, zq3, zq4, zq5, zq6, zq7] at hc15
      obtain rfl : i = k + 1 := by omega
      refine wc_exit ?_
      refine wc_seq ?_
      refine wc_region ?_
      refine wl (y_assign rfl) rfl ?_
      refine wl_nil ?_
      refine wc_seq ?_
      refine wc_seq ?_
      refine wc_region ?_
      refine wl (y_move rfl) rfl ?_
      refine wl (y_eql rfl rfl) rfl ?_
      refine wl_nil ?_
      refine wc_if rfl (fun hc27 => ?_) (fun hc27 => ?_)
      · try simp only [zq1, zq2, zq3, zq4, zq5, zq6, zq7] at hc27
        refine wc_region ?_
        refine wl (y_assign rfl) rfl ?_
        refine wl_nil ?_
        refine wc_seq ?_
        refine wc_seq ?_
        refine wc_region ?_
        refine wl (y_move rfl) rfl ?_
        refine wl (y_eql rfl rfl) rfl ?_
        refine wl_nil ?_
        refine wc_if rfl (fun hc29 => ?_) (fun hc29 => ?_)
        · try simp only [zq1, zq2, zq3, zq4, zq5, zq6, zq7] at hc29
          refine wc_region ?_
          refine wl (y_assign rfl) rfl ?_
          refine wl_nil ?_
          refine wc_cut (α := Unit) (fun _ => [(5, s), (7, .int .i64 ((mark n : Nat) : Int))]) (fun _ w => St M w (H :: Ls)) ?_ ?_
          have hmz : ∀ z : Int, z = ((mark n : Nat) : Int) → some (Value.int .i64 z) = some (Value.int .i64 ((mark n : Nat) : Int)) := fun z h => by rw [h]
          ·  -- up to the cut
            refine wc_seq ?_
            refine wc_region ?_
            refine wl (y_move rfl) rfl ?_
            refine wl (y_eql rfl rfl) rfl ?_
            refine wl_nil ?_
            refine wc_if rfl (fun hc31 => ?_) (fun hc31 => ?_)
            · try simp only [zq1, zq2, zq3, zq4, zq5, zq6, zq7] at hc31
              refine wc_region ?_
              refine wl (y_assign rfl) rfl ?_
              refine wl_nil ?_
              exact ⟨(), sub_cons rfl (sub_cons (hmz _ (by unfold mark; (repeat' split) <;> omega)) sub_nil), hS⟩
            · try simp only [zq1, zq2, zq3, zq4, zq5, zq6, zq7] at hc31
              refine wc_skip ?_
              exact ⟨(), sub_cons rfl (sub_cons (hmz _ (by unfold mark; (repeat' split) <;> omega)) sub_nil), hS⟩
          ·  -- behind the cut
            clear hS
            rintro _ w hS
            have hq : n / 256 ^ k < 256 := by
              have h1 := (pnum_bound n hsm).1
              rw [hk] at h1
              have h2 : 2 ^ (8 * (k + 1) - 2) ≤ 2 ^ (8 * (k + 1)) := Nat.pow_le_pow_right (by omega) (by omega)
              have h3 : 2 ^ (8 * (k + 1)) = 256 * 256 ^ k := by rw [Nat.mul_add, Nat.pow_add, Nat.pow_mul, Nat.mul_comm]
              exact Nat.div_lt_of_lt_mul (by rw [Nat.mul_comm]; omega)
            have hmk2 : mark n ≤ 192 := by unfold mark; (repeat' split) <;> omega
            have hu8 : (UInt8.ofNat (n / 256 ^ k)).toNat = n / 256 ^ k := by simp [UInt8.toNat_ofNat']; omega
            have hv8 : (UInt8.ofNat (n / 256 ^ k + mark n)).toNat = (n / 256 ^ k + mark n) % 256 := by simp [UInt8.toNat_ofNat']
            have hbe := be_cons n k
            have h0 : (be n (k + 1))[0]? = some (UInt8.ofNat (n / 256 ^ k)) := by rw [hbe]; rfl
            obtain ⟨bb, off, c', hse, _⟩ := (ho.holds hS).at h0
            subst hse
            have hbl := be_length n (k + 1)
            have hcut := cutFrom (k := 1) ho (by omega)
            rw [show (be n (k + 1)).drop 1 = be n k by rw [hbe]; rfl] at hcut
            generalize hcv : cutV _ _ _ _ _ = sq at hcut
            obtain ⟨qa, qc, rfl⟩ := hcut.slice
            have hbk := be_length n k
            refine wc_seq ?_
            refine wc_draw (l0 := (lb 15 0)) (fun w => Holds w encB (.slice (some ⟨bb, off, none⟩) (be n (k + 1)).length c') (be n (k + 1)) ∧ Holds w encB (.slice qa (be n k).length qc) (be n k)) [13, 14] wide_ rfl rfl fun w hw => ?_
            replace hS := hS.same hw; clear hw
            refine dr_pure (i := 0) (lb 15 1) rfl rfl (by kernel_rfl) (fun w => y_move rfl) ?_
            refine dr_pure (i := 1) (lb 15 3) rfl rfl (by kernel_rfl) (fun w => y_ixa_sl Tryz.underlying173 sz_5 rfl rfl (by omega) (by omega)) ?_
            refine dr_pure (i := 4) (lb 15 19) rfl rfl (by kernel_rfl) (fun w => y_move rfl) ?_
            refine dr_pure (i := 9) (lb 15 531) rfl rfl (by kernel_rfl) (fun w => y_move rfl) ?_
            refine dr_pure (i := 10) (lb 15 1555) rfl rfl (by kernel_rfl) (fun w => (y_slFrom (lv := 1) Tryz.underlying173 sz_5 rfl rfl (by omega) (by omega) (by omega)).val hcv) ?_
            refine dr_read (i := 2) (lb 15 1559) rfl rfl (by kernel_rfl) ⟨ho.holds (hS.pull H), hcut.holds (hS.pull H)⟩ (fun w hS => y_load pl_5 rfl (hS.1.cellB h0 (j := 0) rfl)) ?_
            refine dr_pure (i := 3) (lb 15 1567) rfl rfl (by kernel_rfl) (fun w => y_conv (r := ((n / 256 ^ k : Nat) : Int)) Tryz.underlying5 Tryz.underlying3 rfl (by rw [hu8]; exact w64 (by omega) (by omega))) ?_
            refine dr_pure (i := 5) (lb 15 1599) rfl rfl (by kernel_rfl) (fun w => y_add (r := ((n / 256 ^ k + mark n : Nat) : Int)) rfl rfl (by rw [w64 (by omega) (by omega)]; omega)) ?_
            refine dr_pure (i := 6) (lb 15 1663) rfl rfl (by kernel_rfl) (fun w => y_conv (r := ((UInt8.ofNat (n / 256 ^ k + mark n)).toNat : Int)) Tryz.underlying3 Tryz.underlying5 rfl (by rw [wu8, hv8]; omega)) ?_
            refine dr_read (i := 11) (lb 15 3711) rfl rfl (by kernel_rfl) ⟨ho.holds (hS.pull H), hcut.holds (hS.pull H)⟩ (fun w hS => y_b2sh Tryz.underlying173 Tryz.underlying9 Tryz.underlying5 rfl hS.2) ?_
            refine dr_do (i := 7) (lb 15 3839) rfl (by kernel_rfl) ?_
            refine a_bslice encB [UInt8.ofNat (n / 256 ^ k + mark n)] Tryz.underlying173 sz_5 z_5 rfl (.cons rfl .nil) rfl rfl rfl (by decide) hS rfl fun s1 H1 w ho1 hS => ?_
            refine wl_nil ⟨fun _ _ => ⟨ho.holds (hS.pull H), hcut.holds (hS.pull H)⟩, ?_⟩
            refine dr_do (i := 8) (lb 15 4095) rfl (by kernel_rfl) ?_
            refine wl (y_b2sh Tryz.underlying173 Tryz.underlying9 Tryz.underlying5 rfl (ho1.holds hS)) rfl ?_
            refine wl_nil ⟨fun _ _ => ⟨ho.holds (hS.pull H), hcut.holds (hS.pull H)⟩, ?_⟩
            refine dr_pure (i := 12) (lb 15 8191) rfl rfl (by kernel_rfl) (fun w => y_sadd rfl rfl (by simp only [ByteArray.size, List.size_toArray, List.length_singleton]; omega)) ?_
            refine dr_pure (i := 13) (lb 15 16383) rfl rfl (by kernel_rfl) (fun w => y_assign rfl) ?_
            refine dr_pure (i := 14) (lb 15 32767) rfl rfl (by kernel_rfl) (fun w => y_assign rfl) ?_
            refine dr_done (by kernel_rfl) ?_
            refine wc_ret ?_
            refine wret (vs := [_, _]) (.tmp rfl (.tmp rfl .nil)) ?_
            first
            | exact ⟨rfl, hS.keep⟩
            | (refine ⟨?_, hS.keep⟩
               rw [append_mk]
               show Value.tuple _ = _
               rw [hpm]
               rfl)
        · try simp only [zq1, zq2, zq3, zq4, zq5, zq6, zq7] at hc29
          refine wc_skip ?_
          refine wc_cut (α := Unit) (fun _ => [(5, s), (7, .int .i64 ((mark n : Nat) : Int))]) (fun _ w => St M w (H :: Ls)) ?_ ?_
          have hmz : ∀ z : Int, z = ((mark n : Nat) : Int) → some (Value.int .i64 z) = some (Value.int .i64 ((mark n : Nat) : Int)) := fun z h => by rw [h]
          ·  -- up to the cut
            refine wc_seq ?_
            refine wc_region ?_
            refine wl (y_move rfl) rfl ?_
            refine wl (y_eql rfl rfl) rfl ?_
            refine wl_nil ?_
            refine wc_if rfl (fun hc31 => ?_) (fun hc31 => ?_)
            · try simp only [zq1, zq2, zq3, zq4, zq5, zq6, zq7] at hc31
              refine wc_region ?_
              refine wl (y_assign rfl) rfl ?_
              refine wl_nil ?_
              exact ⟨(), sub_cons rfl (sub_cons (hmz _ (by unfold mark; (repeat' split) <;> omega)) sub_nil), hS⟩
            · try simp only [zq1, zq2, zq3, zq4, zq5, zq6, zq7] at hc31
              refine wc_skip ?_
              exact ⟨(), sub_cons rfl (sub_cons (hmz _ (by unfold mark; (repeat' split) <;> omega)) sub_nil), hS⟩
          ·  -- behind the cut
            clear hS
            rintro _ w hS
            have hq : n / 256 ^ k < 256 := by
              have h1 := (pnum_bound n hsm).1
              rw [hk] at h1
              have h2 : 2 ^ (8 * (k + 1) - 2) ≤ 2 ^ (8 * (k + 1)) := Nat.pow_le_pow_right (by omega) (by omega)
              have h3 : 2 ^ (8 * (k + 1)) = 256 * 256 ^ k := by rw [Nat.mul_add, Nat.pow_add, Nat.pow_mul, Nat.mul_comm]
              exact Nat.div_lt_of_lt_mul (by rw [Nat.mul_comm]; omega)
            have hmk2 : mark n ≤ 192 := by unfold mark; (repeat' split) <;> omega
            have hu8 : (UInt8.ofNat (n / 256 ^ k)).toNat = n / 256 ^ k := by simp [UInt8.toNat_ofNat']; omega
            have hv8 : (UInt8.ofNat (n / 256 ^ k + mark n)).toNat = (n / 256 ^ k + mark n) % 256 := by simp [UInt8.toNat_ofNat']
            have hbe := be_cons n k
            have h0 : (be n (k + 1))[0]? = some (UInt8.ofNat (n / 256 ^ k)) := by rw [hbe]; rfl
            obtain ⟨bb, off, c', hse, _⟩ := (ho.holds hS).at h0
            subst hse
            have hbl := be_length n (k + 1)
            have hcut := cutFrom (k := 1) ho (by omega)
            rw [show (be n (k + 1)).drop 1 = be n k by rw [hbe]; rfl] at hcut
            generalize hcv : cutV _ _ _ _ _ = sq at hcut
            obtain ⟨qa, qc, rfl⟩ := hcut.slice
            have hbk := be_length n k
            refine wc_seq ?_
            refine wc_draw (l0 := (lb 15 0)) (fun w => Holds w encB (.slice (some ⟨bb, off, none⟩) (be n (k + 1)).length c') (be n (k + 1)) ∧ Holds w encB (.slice qa (be n k).length qc) (be n k)) [13, 14] wide_ rfl rfl fun w hw => ?_
            replace hS := hS.same hw; clear hw
            refine dr_pure (i := 0) (lb 15 1) rfl rfl (by kernel_rfl) (fun w => y_move rfl) ?_
            refine dr_pure (i := 1) (lb 15 3) rfl rfl (by kernel_rfl) (fun w => y_ixa_sl Tryz.underlying173 sz_5 rfl rfl (by omega) (by omega)) ?_
            refine dr_pure (i := 4) (lb 15 19) rfl rfl (by kernel_rfl) (fun w => y_move rfl) ?_
            refine dr_pure (i := 9) (lb 15 531) rfl rfl (by kernel_rfl) (fun w => y_move rfl) ?_
            refine dr_pure (i := 10) (lb 15 1555) rfl rfl (by kernel_rfl) (fun w => (y_slFrom (lv := 1) Tryz.underlying173 sz_5 rfl rfl (by omega) (by omega) (by omega)).val hcv) ?_
            refine dr_read (i := 2) (lb 15 1559) rfl rfl (by kernel_rfl) ⟨ho.holds (hS.pull H), hcut.holds (hS.pull H)⟩ (fun w hS => y_load pl_5 rfl (hS.1.cellB h0 (j := 0) rfl)) ?_
            refine dr_pure (i := 3) (lb 15 1567) rfl rfl (by kernel_rfl) (fun w => y_conv (r := ((n / 256 ^ k : Nat) : Int)) Tryz.underlying5 Tryz.underlying3 rfl (by rw [hu8]; exact w64 (by omega) (by omega))) ?_
            refine dr_pure (i := 5) (lb 15 1599) rfl rfl (by kernel_rfl) (fun w => y_add (r := ((n / 256 ^ k + mark n : Nat) : Int)) rfl rfl (by rw [w64 (by omega) (by omega)]; omega)) ?_
            refine dr_pure (i := 6) (lb 15 1663) rfl rfl (by kernel_rfl) (fun w => y_conv (r := ((UInt8.ofNat (n / 256 ^ k + mark n)).toNat : Int)) Tryz.underlying3 Tryz.underlying5 rfl (by rw [wu8, hv8]; omega)) ?_
            refine dr_read (i := 11) (lb 15 3711) rfl rfl (by kernel_rfl) ⟨ho.holds (hS.pull H), hcut.holds (hS.pull H)⟩ (fun w hS => y_b2sh Tryz.underlying173 Tryz.underlying9 Tryz.underlying5 rfl hS.2) ?_
            refine dr_do (i := 7) (lb 15 3839) rfl (by kernel_rfl) ?_
            refine a_bslice encB [UInt8.ofNat (n / 256 ^ k + mark n)] Tryz.underlying173 sz_5 z_5 rfl (.cons rfl .nil) rfl rfl rfl (by decide) hS rfl fun s1 H1 w ho1 hS => ?_
            refine wl_nil ⟨fun _ _ => ⟨ho.holds (hS.pull H), hcut.holds (hS.pull H)⟩, ?_⟩
            refine dr_do (i := 8) (lb 15 4095) rfl (by kernel_rfl) ?_
            refine wl (y_b2sh Tryz.underlying173 Tryz.underlying9 Tryz.underlying5 rfl (ho1.holds hS)) rfl ?_
            refine wl_nil ⟨fun _ _ => ⟨ho.holds (hS.pull H), hcut.holds (hS.pull H)⟩, ?_⟩
            refine dr_pure (i := 12) (lb 15 8191) rfl rfl (by kernel_rfl) (fun w => y_sadd rfl rfl (by simp only [ByteArray.size, List.size_toArray, List.length_singleton]; omega)) ?_
            refine dr_pure (i := 13) (lb 15 16383) rfl rfl (by kernel_rfl) (fun w => y_assign rfl) ?_
            refine dr_pure (i := 14) (lb 15 32767) rfl rfl (by kernel_rfl) (fun w => y_assign rfl) ?_
            refine dr_done (by kernel_rfl) ?_
            refine wc_ret ?_
            refine wret (vs := [_, _]) (.tmp rfl (.tmp rfl .nil)) ?_
            first
            | exact ⟨rfl, hS.keep⟩
            | (refine ⟨?_, hS.keep⟩
               rw [append_mk]
               show Value.tuple _ = _
               rw [hpm]
               rfl)
      · try simp only [zq1, zq2, zq3, zq4, zq5, zq6, zq7] at hc27
        refine wc_skip ?_
        refine wc_seq ?_
        refine wc_seq ?_
        refine wc_region ?_
        refine wl (y_move rfl) rfl ?_
        refine wl (y_eql rfl rfl) rfl ?_
        refine wl_nil ?_
        refine wc_if rfl (fun hc29 => ?_) (fun hc29 => ?_)
        · try simp only [zq1, zq2, zq3, zq4, zq5, zq6, zq7] at hc29
          refine wc_region ?_
          refine wl (y_assign rfl) rfl ?_
          refine wl_nil ?_
          refine wc_cut (α := Unit) (fun _ => [(5, s), (7, .int .i64 ((mark n : Nat) : Int))]) (fun _ w => St M w (H :: Ls)) ?_ ?_
          have hmz : ∀ z : Int, z = ((mark n : Nat) : Int) → some (Value.int .i64 z) = some (Value.int .i64 ((mark n : Nat) : Int)) := fun z h => by rw [h]
          ·  -- up to the cut
            refine wc_seq ?_
            refine wc_region ?_
            refine wl (y_move rfl) rfl ?_
            refine wl (y_eql rfl rfl) rfl ?_
            refine wl_nil ?_
            refine wc_if rfl (fun hc31 => ?_) (fun hc31 => ?_)
            · try simp only [zq1, zq2, zq3, zq4, zq5, zq6, zq7] at hc31
              refine wc_region ?_
              refine wl (y_assign rfl) rfl ?_
              refine wl_nil ?_
              exact ⟨(), sub_cons rfl (sub_cons (hmz _ (by unfold mark; (repeat' split) <;> omega)) sub_nil), hS⟩
            · try simp only [zq1, zq2, zq3, zq4, zq5, zq6, zq7] at hc31
              refine wc_skip ?_
              exact ⟨(), sub_cons rfl (sub_cons (hmz _ (by unfold mark; (repeat' split) <;> omega)) sub_nil), hS⟩
          ·  -- behind the cut
            clear hS
            rintro _ w hS
            have hq : n / 256 ^ k < 256 := by
              have h1 := (pnum_bound n hsm).1
              rw [hk] at h1
              have h2 : 2 ^ (8 * (k + 1) - 2) ≤ 2 ^ (8 * (k + 1)) := Nat.pow_le_pow_right (by omega) (by omega)
              have h3 : 2 ^ (8 * (k + 1)) = 256 * 256 ^ k := by rw [Nat.mul_add, Nat.pow_add, Nat.pow_mul, Nat.mul_comm]
              exact Nat.div_lt_of_lt_mul (by rw [Nat.mul_comm]; omega)
            have hmk2 : mark n ≤ 192 := by unfold mark; (repeat' split) <;> omega
            have hu8 : (UInt8.ofNat (n / 256 ^ k)).toNat = n / 256 ^ k := by simp [UInt8.toNat_ofNat']; omega
            have hv8 : (UInt8.ofNat (n / 256 ^ k + mark n)).toNat = (n / 256 ^ k + mark n) % 256 := by simp [UInt8.toNat_ofNat']
            have hbe := be_cons n k
            have h0 : (be n (k + 1))[0]? = some (UInt8.ofNat (n / 256 ^ k)) := by rw [hbe]; rfl
            obtain ⟨bb, off, c', hse, _⟩ := (ho.holds hS).at h0
            subst hse
            have hbl := be_length n (k + 1)
            have hcut := cutFrom (k := 1) ho (by omega)
            rw [show (be n (k + 1)).drop 1 = be n k by rw [hbe]; rfl] at hcut
            generalize hcv : cutV _ _ _ _ _ = sq at hcut
            obtain ⟨qa, qc, rfl⟩ := hcut.slice
            have hbk := be_length n k
            refine wc_seq ?_
            refine wc_draw (l0 := (lb 15 0)) (fun w => Holds w encB (.slice (some ⟨bb, off, none⟩) (be n (k + 1)).length c') (be n (k + 1)) ∧ Holds w encB (.slice qa (be n k).length qc) (be n k)) [13, 14] wide_ rfl rfl fun w hw => ?_
            replace hS := hS.same hw; clear hw
            refine dr_pure (i := 0) (lb 15 1) rfl rfl (by kernel_rfl) (fun w => y_move rfl) ?_
            refine dr_pure (i := 1) (lb 15 3) rfl rfl (by kernel_rfl) (fun w => y_ixa_sl Tryz.underlying173 sz_5 rfl rfl (by omega) (by omega)) ?_
            refine dr_pure (i := 4) (lb 15 19) rfl rfl (by kernel_rfl) (fun w => y_move rfl) ?_
            refine dr_pure (i := 9) (lb 15 531) rfl rfl (by kernel_rfl) (fun w => y_move rfl) ?_
            refine dr_pure (i := 10) (lb 15 1555) rfl rfl (by kernel_rfl) (fun w => (y_slFrom (lv := 1) Tryz.underlying173 sz_5 rfl rfl (by omega) (by omega) (by omega)).val hcv) ?_
            refine dr_read (i := 2) (lb 15 1559) rfl rfl (by kernel_rfl) ⟨ho.holds (hS.pull H), hcut.holds (hS.pull H)⟩ (fun w hS => y_load pl_5 rfl (hS.1.cellB h0 (j := 0) rfl)) ?_
            refine dr_pure (i := 3) (lb 15 1567) rfl rfl (by kernel_rfl) (fun w => y_conv (r := ((n / 256 ^ k : Nat) : Int)) Tryz.underlying5 Tryz.underlying3 rfl (by rw [hu8]; exact w64 (by omega) (by omega))) ?_
            refine dr_pure (i := 5) (lb 15 1599) rfl rfl (by kernel_rfl) (fun w => y_add (r := ((n / 256 ^ k + mark n : Nat) : Int)) rfl rfl (by rw [w64 (by omega) (by omega)]; omega)) ?_
            refine dr_pure (i := 6) (lb 15 1663) rfl rfl (by kernel_rfl) (fun w => y_conv (r := ((UInt8.ofNat (n / 256 ^ k + mark n)).toNat : Int)) Tryz.underlying3 Tryz.underlying5 rfl (by rw [wu8, hv8]; omega)) ?_
            refine dr_read (i := 11) (lb 15 3711) rfl rfl (by kernel_rfl) ⟨ho.holds (hS.pull H), hcut.holds (hS.pull H)⟩ (fun w hS => y_b2sh Tryz.underlying173 Tryz.underlying9 Tryz.underlying5 rfl hS.2) ?_
            refine dr_do (i := 7) (lb 15 3839) rfl (by kernel_rfl) ?_
            refine a_bslice encB [UInt8.ofNat (n / 256 ^ k + mark n)] Tryz.underlying173 sz_5 z_5 rfl (.cons rfl .nil) rfl rfl rfl (by decide) hS rfl fun s1 H1 w ho1 hS => ?_
            refine wl_nil ⟨fun _ _ => ⟨ho.holds (hS.pull H), hcut.holds (hS.pull H)⟩, ?_⟩
            refine dr_do (i := 8) (lb 15 4095) rfl (by kernel_rfl) ?_
            refine wl (y_b2sh Tryz.underlying173 Tryz.underlying9 Tryz.underlying5 rfl (ho1.holds hS)) rfl ?_
            refine wl_nil ⟨fun _ _ => ⟨ho.holds (hS.pull H), hcut.holds (hS.pull H)⟩, ?_⟩
            refine dr_pure (i := 12) (lb 15 8191) rfl rfl (by kernel_rfl) (fun w => y_sadd rfl rfl (by simp only [ByteArray.size, List.size_toArray, List.length_singleton]; omega)) ?_
            refine dr_pure (i := 13) (lb 15 16383) rfl rfl (by kernel_rfl) (fun w => y_assign rfl) ?_
            refine dr_pure (i := 14) (lb 15 32767) rfl rfl (by kernel_rfl) (fun w => y_assign rfl) ?_
            refine dr_done (by kernel_rfl) ?_
            refine wc_ret ?_
            refine wret (vs := [_, _]) (.tmp rfl (.tmp rfl .nil)) ?_
            first
            | exact ⟨rfl, hS.keep⟩
            | (refine ⟨?_, hS.keep⟩
               rw [append_mk]
               show Value.tuple _ = _
               rw [hpm]
               rfl)
        · try simp only [zq1, zq2, zq3, zq4, zq5, zq6, zq7] at hc29
          refine wc_skip ?_
          refine wc_cut (α := Unit) (fun _ => [(5, s), (7, .int .i64 ((mark n : Nat) : Int))]) (fun _ w => St M w (H :: Ls)) ?_ ?_
          have hmz : ∀ z : Int, z = ((mark n : Nat) : Int) → some (Value.int .i64 z) = some (Value.int .i64 ((mark n : Nat) : Int)) := fun z h => by rw [h]
          ·  -- up to the cut
            refine wc_seq ?_
            refine wc_region ?_
            refine wl (y_move rfl) rfl ?_
            refine wl (y_eql rfl rfl) rfl ?_
            refine wl_nil ?_
            refine wc_if rfl (fun hc31 => ?_) (fun hc31 => ?_)
            · try simp only [zq1, zq2, zq3, zq4, zq5, zq6, zq7] at hc31
              refine wc_region ?_
              refine wl (y_assign rfl) rfl ?_
              refine wl_nil ?_
              exact ⟨(), sub_cons rfl (sub_cons (hmz _ (by unfold mark; (repeat' split) <;> omega)) sub_nil), hS⟩
            · try simp only [zq1, zq2, zq3, zq4, zq5, zq6, zq7] at hc31
              refine wc_skip ?_
              exact ⟨(), sub_cons rfl (sub_cons (hmz _ (by unfold mark; (repeat' split) <;> omega)) sub_nil), hS⟩
          ·  -- behind the cut
            clear hS
            rintro _ w hS
            have hq : n / 256 ^ k < 256 := by
              have h1 := (pnum_bound n hsm).1
              rw [hk] at h1
              have h2 : 2 ^ (8 * (k + 1) - 2) ≤ 2 ^ (8 * (k + 1)) := Nat.pow_le_pow_right (by omega) (by omega)
              have h3 : 2 ^ (8 * (k + 1)) = 256 * 256 ^ k := by rw [Nat.mul_add, Nat.pow_add, Nat.pow_mul, Nat.mul_comm]
              exact Nat.div_lt_of_lt_mul (by rw [Nat.mul_comm]; omega)
            have hmk2 : mark n ≤ 192 := by unfold mark; (repeat' split) <;> omega
            have hu8 : (UInt8.ofNat (n / 256 ^ k)).toNat = n / 256 ^ k := by simp [UInt8.toNat_ofNat']; omega
            have hv8 : (UInt8.ofNat (n / 256 ^ k + mark n)).toNat = (n / 256 ^ k + mark n) % 256 := by simp [UInt8.toNat_ofNat']
            have hbe := be_cons n k
            have h0 : (be n (k + 1))[0]? = some (UInt8.ofNat (n / 256 ^ k)) := by rw [hbe]; rfl
            obtain ⟨bb, off, c', hse, _⟩ := (ho.holds hS).at h0
            subst hse
            have hbl := be_length n (k + 1)
            have hcut := cutFrom (k := 1) ho (by omega)
            rw [show (be n (k + 1)).drop 1 = be n k by rw [hbe]; rfl] at hcut
            generalize hcv : cutV _ _ _ _ _ = sq at hcut
            obtain ⟨qa, qc, rfl⟩ := hcut.slice
            have hbk := be_length n k
            refine wc_seq ?_
            refine wc_draw (l0 := (lb 15 0)) (fun w => Holds w encB (.slice (some ⟨bb, off, none⟩) (be n (k + 1)).length c') (be n (k + 1)) ∧ Holds w encB (.slice qa (be n k).length qc) (be n k)) [13, 14] wide_ rfl rfl fun w hw => ?_
            replace hS := hS.same hw; clear hw
            refine dr_pure (i := 0) (lb 15 1) rfl rfl (by kernel_rfl) (fun w => y_move rfl) ?_
            refine dr_pure (i := 1) (lb 15 3) rfl rfl (by kernel_rfl) (fun w => y_ixa_sl Tryz.underlying173 sz_5 rfl rfl (by omega) (by omega)) ?_
            refine dr_pure (i := 4) (lb 15 19) rfl rfl (by kernel_rfl) (fun w => y_move rfl) ?_
            refine dr_pure (i := 9) (lb 15 531) rfl rfl (by kernel_rfl) (fun w => y_move rfl) ?_
            refine dr_pure (i := 10) (lb 15 1555) rfl rfl (by kernel_rfl) (fun w => (y_slFrom (lv := 1) Tryz.underlying173 sz_5 rfl rfl (by omega) (by omega) (by omega)).val hcv) ?_
            refine dr_read (i := 2) (lb 15 1559) rfl rfl (by kernel_rfl) ⟨ho.holds (hS.pull H), hcut.holds (hS.pull H)⟩ (fun w hS => y_load pl_5 rfl (hS.1.cellB h0 (j := 0) rfl)) ?_
            refine dr_pure (i := 3) (lb 15 1567) rfl rfl (by kernel_rfl) (fun w => y_conv (r := ((n / 256 ^ k : Nat) : Int)) Tryz.underlying5 Tryz.underlying3 rfl (by rw [hu8]; exact w64 (by omega) (by omega))) ?_
            refine dr_pure (i := 5) (lb 15 1599) rfl rfl (by kernel_rfl) (fun w => y_add (r := ((n / 256 ^ k + mark n : Nat) : Int)) rfl rfl (by rw [w64 (by omega) (by omega)]; omega)) ?_
            refine dr_pure (i := 6) (lb 15 1663) rfl rfl (by kernel_rfl) (fun w => y_conv (r := ((UInt8.ofNat (n / 256 ^ k + mark n)).toNat : Int)) Tryz.underlying3 Tryz.underlying5 rfl (by rw [wu8, hv8]; omega)) ?_
            refine dr_read (i := 11) (lb 15 3711) rfl rfl (by kernel_rfl) ⟨ho.holds (hS.pull H), hcut.holds (hS.pull H)⟩ (fun w hS => y_b2sh Tryz.underlying173 Tryz.underlying9 Tryz.underlying5 rfl hS.2) ?_
            refine dr_do (i := 7) (lb 15 3839) rfl (by kernel_rfl) ?_
            refine a_bslice encB [UInt8.ofNat (n / 256 ^ k + mark n)] Tryz.underlying173 sz_5 z_5 rfl (.cons rfl .nil) rfl rfl rfl (by decide) hS rfl fun s1 H1 w ho1 hS => ?_
            refine wl_nil ⟨fun _ _ => ⟨ho.holds (hS.pull H), hcut.holds (hS.pull H)⟩, ?_⟩
            refine dr_do (i := 8) (lb 15 4095) rfl (by kernel_rfl) ?_
            refine wl (y_b2sh Tryz.underlying173 Tryz.underlying9 Tryz.underlying5 rfl (ho1.holds hS)) rfl ?_
            refine wl_nil ⟨fun _ _ => ⟨ho.holds (hS.pull H), hcut.holds (hS.pull H)⟩, ?_⟩
            refine dr_pure (i := 12) (lb 15 8191) rfl rfl (by kernel_rfl) (fun w => y_sadd rfl rfl (by simp only [ByteArray.size, List.size_toArray, List.length_singleton]; omega)) ?_
            refine dr_pure (i := 13) (lb 15 16383) rfl rfl (by kernel_rfl) (fun w => y_assign rfl) ?_
            refine dr_pure (i := 14) (lb 15 32767) rfl rfl (by kernel_rfl) (fun w => y_assign rfl) ?_
            refine dr_done (by kernel_rfl) ?_
            refine wc_ret ?_
            refine wret (vs := [_, _]) (.tmp rfl (.tmp rfl .nil)) ?_
            first
            | exact ⟨rfl, hS.keep⟩
            | (refine ⟨?_, hS.keep⟩
               rw [append_mk]
               show Value.tuple _ = _
               rw [hpm]
               rfl)
end
end Go.Proofs.YtndahppmjdbifaaGreatDoor.Pak

set_option linter.unusedVariables false
set_option linter.unusedSimpArgs false
namespace Go.Proofs.YtndahppmjdbifaaGreatDoor.Rou
open Go Go.Proofs Go.Proofs.YtndahppmjdbifaaGreatDoor.Eng Go.Proofs.YtndahppmjdbifaaGreatDoor.Pre Go.Proofs.YtndahppmjdbifaaGreatDoor.Pak Go.Proofs.YtndahppmjdbifaaGreatDoor.Val
theorem str_app (a b : List UInt8) : str a ++ str b = str (a ++ b) := by
  apply bytes_eq; simp [str]
theorem str_len (a : List UInt8) : (str a).size = a.length := by
  show a.toArray.size = a.length
  simp
section
variable {M : Mem} {w : World} {Ls : List Chunk}
theorem r3num_c (n : Nat) (hn : n < 4611686018427387904) (hS : St M w Ls) :
    CallsR Tryz.prog 70 [.int .i64 n].toArray w fun v w' => v = .tuple [.string (str (pput n)), .bool true].toArray ∧ St M w' Ls := by
  have hv : put1V n = .tuple [.string (str (pput n)), .int .i64 0].toArray := by unfold put1V; rw [if_pos hn]
  refine calls_of (c := _) (rs := _) (n := 17) Tryz.func70 rfl rfl rfl rfl rfl ?_
  refine wc_seq ?_
  refine wc_region ?_
  refine wl (y_assign rfl) rfl ?_
  refine wl (y_assign rfl) rfl ?_
  refine wl_nil ?_
  refine wc_seq ?_
  refine wc_seq ?_
  refine wc_region ?_
  refine wl (y_move rfl) rfl ?_
  refine wl (y_lss rfl rfl) rfl ?_
  refine wl_nil ?_
  refine wc_ifF rfl (decide_eq_false (by omega)) ?_
  refine wc_skip ?_
  refine wc_seq ?_
  refine wc_region ?_
  refine wl (y_move rfl) rfl ?_
  refine wl (y_conv (r := (n : Int)) Tryz.underlying3 Tryz.underlying190 rfl (natwrap64 _ (by omega))) rfl ?_
  refine wl_call (.cons rfl .nil) (r1put_c n (by omega) hS) rfl ?_
  rintro _ w ⟨rfl, hS⟩
  rw [hv]
  refine wl (y_move rfl) rfl ?_
  refine wl (y_extract (vs := [_, _]) rfl rfl) rfl ?_
  refine wl (y_extract (vs := [_, _]) rfl rfl) rfl ?_
  refine wl (y_assign rfl) rfl ?_
  refine wl (y_assign rfl) rfl ?_
  refine wl_nil ?_
  refine wc_seq ?_
  refine wc_region ?_
  refine wl (y_move rfl) rfl ?_
  refine wl (y_move rfl) rfl ?_
  refine wl (y_eql rfl rfl) rfl ?_
  refine wl (y_assign rfl) rfl ?_
  refine wl (y_assign rfl) rfl ?_
  refine wl_nil ?_
  refine wc_ret ?_
  refine wret (vs := [_, _]) (.tmp rfl (.tmp rfl .nil)) ?_
  exact ⟨rfl, hS⟩
theorem r3text_c (b : ByteArray) (hn : b.size ≤ 1099511627776) (hS : St M w Ls) :
    CallsR Tryz.prog 133 [.string b].toArray w fun v w' => v = .string (str (ptext b)) ∧ St M w' Ls := by
  have hpl := pput_length b.size
  refine calls_of (c := _) (rs := _) (n := 14) Tryz.func133 rfl rfl rfl rfl rfl ?_
  refine wc_seq ?_
  refine wc_region ?_
  refine wl (y_assign rfl) rfl ?_
  refine wl_nil ?_
  refine wc_seq ?_
  refine wc_region ?_
  refine wl (y_move rfl) rfl ?_
  refine wl (y_len_s Tryz.underlying9 rfl) rfl ?_
  refine wl_call (.cons rfl .nil) (r3num_c b.size (by omega) hS) rfl ?_
  rintro _ w ⟨rfl, hS⟩
  refine wl (y_move rfl) rfl ?_
  refine wl (y_extract (vs := [_, _]) rfl rfl) rfl ?_
  refine wl (y_extract (vs := [_, _]) rfl rfl) rfl ?_
  refine wl (y_assign rfl) rfl ?_
  refine wl (y_assign rfl) rfl ?_
  refine wl_nil ?_
  refine wc_seq ?_
  refine wc_region ?_
  refine wl (y_move rfl) rfl ?_
  refine wl (y_move rfl) rfl ?_
  refine wl (y_sadd rfl rfl (by rw [str_len]; omega)) rfl ?_
  refine wl (y_assign rfl) rfl ?_
  refine wl_nil ?_
  refine wc_ret ?_
  refine wret (vs := [_]) (.tmp rfl .nil) ?_
  exact ⟨congrArg Value.string (bytes_eq (by unfold ptext; simp [str])), hS⟩
theorem r1zig_c (n : Int) (h0 : -2305843009213693952 ≤ n) (h1 : n < 2305843009213693952) (hS : St M w Ls) :
    CallsR Tryz.prog 169 [.int .i64 n].toArray w fun v w' => v = .tuple [.int .u64 (zig n), .bool true].toArray ∧ St M w' Ls := by
  have hz : zig n < 4611686018427387904 := by unfold zig; split <;> omega
  refine calls_of (c := _) (rs := _) (n := 21) Tryz.func169 rfl rfl rfl rfl rfl ?_
  refine wc_seq ?_
  refine wc_region ?_
  refine wl (y_assign rfl) rfl ?_
  refine wl (y_assign rfl) rfl ?_
  refine wl_nil ?_
  refine wc_seq ?_
  refine wc_seq ?_
  refine wc_region ?_
  refine wl (y_move rfl) rfl ?_
  refine wl ((y_lss rfl rfl).val (u := .bool false) (congrArg Value.bool (decide_eq_false (by omega)))) rfl ?_
  refine wl (y_move rfl) rfl ?_
  refine wl_on rfl rfl ?_
  refine wl (y_move rfl) rfl ?_
  refine wl_on rfl rfl ?_
  refine wl ((y_gtr rfl rfl).val (u := .bool false) (congrArg Value.bool (decide_eq_false (by omega)))) rfl ?_
  refine wl (y_pickF rfl rfl) rfl ?_
  refine wl_nil ?_
  refine wc_ifF rfl rfl ?_
  refine wc_skip ?_
  refine wc_seq ?_
  refine wc_seq ?_
  refine wc_region ?_
  refine wl (y_move rfl) rfl ?_
  refine wl (y_lss rfl rfl) rfl ?_
  refine wl_nil ?_
  refine wc_if rfl (fun hc11 => ?_) (fun hc11 => ?_)
  · try simp only [zq1, zq2, zq3, zq4, zq5, zq6, zq7] at hc11
    obtain ⟨m, hm⟩ : ∃ m : Nat, -(n + 1) = m := ⟨(-(n + 1)).toNat, by omega⟩
    have hzm : zig n = 2 * m + 1 := by unfold zig; rw [if_pos hc11]; omega
    refine wc_seq ?_
    refine wc_region ?_
    refine wl (y_move rfl) rfl ?_
    refine wl (y_add rfl rfl (w64 (by omega) (by omega))) rfl ?_
    refine wl (y_neg (r := (m : Int)) rfl (by rw [w64 (by omega) (by omega)]; omega)) rfl ?_
    refine wl (y_conv (r := (m : Int)) Tryz.underlying2 Tryz.underlying190 rfl (natwrap64 _ (by omega))) rfl ?_
    refine wl (y_mul (r := ((2 * m : Nat) : Int)) rfl rfl (by rw [show (2 : Int) * (m : Int) = ((2 * m : Nat) : Int) by omega]; exact natwrap64 _ (by omega))) rfl ?_
    refine wl (y_add (r := ((zig n : Nat) : Int)) rfl rfl (by rw [show ((2 * m : Nat) : Int) + 1 = ((zig n : Nat) : Int) by omega]; exact natwrap64 _ (by omega))) rfl ?_
    refine wl (y_assign rfl) rfl ?_
    refine wl (y_assign rfl) rfl ?_
    refine wl_nil ?_
    refine wc_ret ?_
    refine wret (vs := [_, _]) (.tmp rfl (.tmp rfl .nil)) ?_
    exact ⟨rfl, hS⟩
  · try simp only [zq1, zq2, zq3, zq4, zq5, zq6, zq7] at hc11
    obtain ⟨m, hm⟩ : ∃ m : Nat, n = m := ⟨n.toNat, by omega⟩
    have hzm : zig n = 2 * m := by unfold zig; rw [if_neg hc11]; omega
    refine wc_skip ?_
    refine wc_seq ?_
    refine wc_region ?_
    refine wl (y_move rfl) rfl ?_
    refine wl (y_conv (r := (m : Int)) Tryz.underlying2 Tryz.underlying190 rfl (by rw [hm]; exact natwrap64 _ (by omega))) rfl ?_
    refine wl (y_mul (r := ((zig n : Nat) : Int)) rfl rfl (by rw [show (2 : Int) * (m : Int) = ((zig n : Nat) : Int) by omega]; exact natwrap64 _ (by omega))) rfl ?_
    refine wl (y_assign rfl) rfl ?_
    refine wl (y_assign rfl) rfl ?_
    refine wl_nil ?_
    refine wc_ret ?_
    refine wret (vs := [_, _]) (.tmp rfl (.tmp rfl .nil)) ?_
    exact ⟨rfl, hS⟩
theorem r3sig_c (n : Int) (h0 : -2305843009213693952 ≤ n) (h1 : n < 2305843009213693952) (hS : St M w Ls) :
    CallsR Tryz.prog 134 [.int .i64 n].toArray w fun v w' => v = .tuple [.string (str (pput (zig n))), .bool true].toArray ∧ St M w' Ls := by
  have hz : zig n < 4611686018427387904 := by unfold zig; split <;> omega
  have hv : put1V (zig n) = .tuple [.string (str (pput (zig n))), .int .i64 0].toArray := by unfold put1V; rw [if_pos hz]
  refine calls_of (c := _) (rs := _) (n := 21) Tryz.func134 rfl rfl rfl rfl rfl ?_
  refine wc_seq ?_
  refine wc_region ?_
  refine wl (y_assign rfl) rfl ?_
  refine wl (y_assign rfl) rfl ?_
  refine wl_nil ?_
  refine wc_seq ?_
  refine wc_region ?_
  refine wl (y_move rfl) rfl ?_
  refine wl_call (.cons rfl .nil) (r1zig_c n h0 h1 hS) rfl ?_
  rintro _ w ⟨rfl, hS⟩
  refine wl (y_move rfl) rfl ?_
  refine wl (y_extract (vs := [_, _]) rfl rfl) rfl ?_
  refine wl (y_extract (vs := [_, _]) rfl rfl) rfl ?_
  refine wl (y_assign rfl) rfl ?_
  refine wl (y_assign rfl) rfl ?_
  refine wl_nil ?_
  refine wc_seq ?_
  refine wc_seq ?_
  refine wc_region ?_
  refine wl (y_move rfl) rfl ?_
  refine wl (y_not rfl) rfl ?_
  refine wl_nil ?_
  refine wc_ifF rfl (rfl) ?_
  refine wc_skip ?_
  refine wc_seq ?_
  refine wc_region ?_
  refine wl (y_move rfl) rfl ?_
  refine wl_call (.cons rfl .nil) (r1put_c (zig n) (by omega) hS) rfl ?_
  rintro _ w ⟨rfl, hS⟩
  rw [hv]
  refine wl (y_move rfl) rfl ?_
  refine wl (y_extract (vs := [_, _]) rfl rfl) rfl ?_
  refine wl (y_extract (vs := [_, _]) rfl rfl) rfl ?_
  refine wl (y_assign rfl) rfl ?_
  refine wl (y_assign rfl) rfl ?_
  refine wl_nil ?_
  refine wc_seq ?_
  refine wc_region ?_
  refine wl (y_move rfl) rfl ?_
  refine wl (y_assign rfl) rfl ?_
  refine wl (y_assign rfl) rfl ?_
  refine wl_nil ?_
  refine wc_ret ?_
  refine wret (vs := [_, _]) (.tmp rfl (.tmp rfl .nil)) ?_
  exact ⟨rfl, hS⟩
theorem mayU_facts {u : Upd} (h : mayU u = 0) : u.key.size ≤ 16 ∧ (1 ≤ u.kind ∧ u.kind ≤ 5) ∧ (u.kind = 1 ∨ u.kind = 3 → -2305843009213693952 ≤ u.n ∧ u.n < 2305843009213693952) ∧ (u.kind = 2 ∨ u.kind = 4 → u.s.size ≤ 32) := by
  unfold mayU at h
  split at h; · cases h
  split at h; · cases h
  split at h
  · rename_i hk
    split at h; · cases h
    split at h; · cases h
    split at h; · cases h
    exact ⟨by omega, by omega, fun _ => by omega, fun h => by omega⟩
  · split at h
    · rename_i hk
      split at h; · cases h
      split at h; · cases h
      exact ⟨by omega, by omega, fun h => by omega, fun _ => by omega⟩
    · split at h
      · exact ⟨by omega, by omega, fun h => by omega, fun h => by omega⟩
      · cases h
theorem r6bytes_c (u : Upd) (hu : mayU u = 0) (hS : St M w Ls) :
    CallsR Tryz.prog 71 [uv u].toArray w fun v w' => v = .string (str (ubytes u)) ∧ St M w' Ls := by
  obtain ⟨f1, f2, f3, f4⟩ := mayU_facts hu
  obtain ⟨k, hk⟩ : ∃ k : Nat, u.kind = k := ⟨u.kind.toNat, by omega⟩
  have p1 := pput_length k
  have p2 := ptext_length u.key
  have p3 := pput_length (zig u.n)
  have p4 := ptext_length u.s
  have hub : ubytes u = pput k ++ ptext u.key ++ (if u.kind = 1 ∨ u.kind = 3 then pput (zig u.n) else if u.kind = 2 ∨ u.kind = 4 then ptext u.s else []) := by unfold ubytes; rw [hk]; rfl
  refine calls_of (c := _) (rs := _) (n := 49) Tryz.func71 rfl rfl rfl rfl rfl ?_
  refine wc_seq ?_
  refine wc_region ?_
  refine a_box rfl hS rfl fun b1 w hS => ?_
  refine wl (y_assign rfl) rfl ?_
  refine wl_nil ?_
  refine wc_seq ?_
  refine wc_region ?_
  refine wl (y_fld fl_59_1 rfl) rfl ?_
  refine wl ((y_load pl_3 rfl (hS.cell (v := .int .i64 u.kind) rfl)).val (congrArg (Value.int .i64) hk)) rfl ?_
  refine wl_call (.cons rfl .nil) (r3num_c k (by omega) hS) rfl ?_
  rintro _ w ⟨rfl, hS⟩
  refine wl (y_move rfl) rfl ?_
  refine wl (y_extract (vs := [_, _]) rfl rfl) rfl ?_
  refine wl (y_extract (vs := [_, _]) rfl rfl) rfl ?_
  refine wl (y_assign rfl) rfl ?_
  refine wl (y_assign rfl) rfl ?_
  refine wl_nil ?_
  refine wc_seq ?_
  refine wc_region ?_
  refine wl (y_move rfl) rfl ?_
  refine wl (y_fld fl_59_0 rfl) rfl ?_
  refine wl (y_load pl_9 rfl (hS.cell (v := .string u.key) rfl)) rfl ?_
  refine wl_call (.cons rfl .nil) (r3text_c u.key (by omega) hS) rfl ?_
  rintro _ w ⟨rfl, hS⟩
  refine wl ((y_sadd rfl rfl (by rw [str_len, str_len]; omega)).val (congrArg Value.string (str_app _ _))) rfl ?_
  refine wl (y_assign rfl) rfl ?_
  refine wl_nil ?_
  refine wc_seq ?_
  refine wc_seq ?_
  refine wc_region ?_
  refine wl (y_fld fl_59_1 rfl) rfl ?_
  refine wl (y_load pl_3 rfl (hS.cell (v := .int .i64 u.kind) rfl)) rfl ?_
  refine wl (y_eql rfl rfl) rfl ?_
  refine wl (y_move rfl) rfl ?_
  refine wl_cases (s := 21) rfl (fun hg21 => ?_) (fun hg21 => ?_)
  · try simp only [zq1, zq2, zq3, zq4, zq5, zq6, zq7] at hg21
    refine wl_off rfl rfl rfl rfl ?_
    refine wl_off rfl rfl rfl rfl ?_
    refine wl_off rfl rfl rfl rfl ?_
    refine wl (y_pickT rfl rfl) rfl ?_
    refine wl_nil ?_
    refine wc_ifT rfl rfl ?_
    refine wc_seq ?_
    refine wc_region ?_
    refine wl (y_fld fl_59_2 rfl) rfl ?_
    refine wl (y_load pl_2 rfl (hS.cell (v := .int .i64 u.n) rfl)) rfl ?_
    refine wl_call (.cons rfl .nil) (r3sig_c u.n (f3 (by omega)).1 (f3 (by omega)).2 hS) rfl ?_
    rintro _ w ⟨rfl, hS⟩
    refine wl (y_move rfl) rfl ?_
    refine wl (y_extract (vs := [_, _]) rfl rfl) rfl ?_
    refine wl (y_extract (vs := [_, _]) rfl rfl) rfl ?_
    refine wl (y_assign rfl) rfl ?_
    refine wl (y_assign rfl) rfl ?_
    refine wl_nil ?_
    refine wc_region ?_
    refine wl (y_move rfl) rfl ?_
    refine wl (y_move rfl) rfl ?_
    refine wl ((y_sadd rfl rfl (by rw [str_len, str_len, List.length_append]; omega)).val (congrArg Value.string (str_app _ _))) rfl ?_
    refine wl (y_assign rfl) rfl ?_
    refine wl_nil ?_
    refine wc_seq ?_
    refine wc_seq ?_
    refine wc_region ?_
    refine wl (y_fld fl_59_1 rfl) rfl ?_
    refine wl (y_load pl_3 rfl (hS.cell (v := .int .i64 u.kind) rfl)) rfl ?_
    refine wl (y_eql rfl rfl) rfl ?_
    refine wl (y_move rfl) rfl ?_
    refine wl_cases (s := 38) rfl (fun hg38 => ?_) (fun hg38 => ?_)
    · try simp only [zq1, zq2, zq3, zq4, zq5, zq6, zq7] at hg38
      refine wl_off rfl rfl rfl rfl ?_
      refine wl_off rfl rfl rfl rfl ?_
      refine wl_off rfl rfl rfl rfl ?_
      refine wl (y_pickT rfl rfl) rfl ?_
      refine wl_nil ?_
      refine wc_ifT rfl rfl ?_
      refine wc_region ?_
      refine wl (y_move rfl) rfl ?_
      refine wl (y_fld fl_59_3 rfl) rfl ?_
      refine wl (y_load pl_9 rfl (hS.cell (v := .string u.s) rfl)) rfl ?_
      refine wl_call (.cons rfl .nil) (r3text_c u.s (by have := f4 (by omega); omega) hS) rfl ?_
      rintro _ w ⟨rfl, hS⟩
      refine wl ((y_sadd rfl rfl (by have := f4 (by omega); rw [str_len, str_len, List.length_append]; omega)).val (congrArg Value.string (str_app _ _))) rfl ?_
      refine wl (y_assign rfl) rfl ?_
      refine wl_nil ?_
      refine wc_seq ?_
      refine wc_region ?_
      refine wl (y_move rfl) rfl ?_
      refine wl (y_assign rfl) rfl ?_
      refine wl_nil ?_
      refine wc_ret ?_
      refine wret (vs := [_]) (.tmp rfl .nil) ?_
      first
      | (exfalso; omega)
      | exact ⟨congrArg (fun x => Value.string (str x)) (by rw [hub, if_pos (by omega)]), hS.keep⟩
      | exact ⟨congrArg (fun x => Value.string (str x)) (by rw [hub, if_neg (by omega), if_pos (by omega)]), hS.keep⟩
      | exact ⟨congrArg (fun x => Value.string (str x)) (by rw [hub, if_neg (by omega), if_neg (by omega), List.append_nil]), hS.keep⟩
    · try simp only [zq1, zq2, zq3, zq4, zq5, zq6, zq7] at hg38
      refine wl_on rfl rfl ?_
      refine wl (y_fld fl_59_1 rfl) rfl ?_
      refine wl_on rfl rfl ?_
      refine wl (y_load pl_3 rfl (hS.cell (v := .int .i64 u.kind) rfl)) rfl ?_
      refine wl_on rfl rfl ?_
      refine wl (y_eql rfl rfl) rfl ?_
      refine wl (y_pickF rfl rfl) rfl ?_
      refine wl_nil ?_
      refine wc_if rfl (fun hc42 => ?_) (fun hc42 => ?_)
      · try simp only [zq1, zq2, zq3, zq4, zq5, zq6, zq7] at hc42
        refine wc_region ?_
        refine wl (y_move rfl) rfl ?_
        refine wl (y_fld fl_59_3 rfl) rfl ?_
        refine wl (y_load pl_9 rfl (hS.cell (v := .string u.s) rfl)) rfl ?_
        refine wl_call (.cons rfl .nil) (r3text_c u.s (by have := f4 (by omega); omega) hS) rfl ?_
        rintro _ w ⟨rfl, hS⟩
        refine wl ((y_sadd rfl rfl (by have := f4 (by omega); rw [str_len, str_len, List.length_append]; omega)).val (congrArg Value.string (str_app _ _))) rfl ?_
        refine wl (y_assign rfl) rfl ?_
        refine wl_nil ?_
        refine wc_seq ?_
        refine wc_region ?_
        refine wl (y_move rfl) rfl ?_
        refine wl (y_assign rfl) rfl ?_
        refine wl_nil ?_
        refine wc_ret ?_
        refine wret (vs := [_]) (.tmp rfl .nil) ?_
        first
        | (exfalso; omega)
        | exact ⟨congrArg (fun x => Value.string (str x)) (by rw [hub, if_pos (by omega)]), hS.keep⟩
        | exact ⟨congrArg (fun x => Value.string (str x)) (by rw [hub, if_neg (by omega), if_pos (by omega)]), hS.keep⟩
        | exact ⟨congrArg (fun x => Value.string (str x)) (by rw [hub, if_neg (by omega), if_neg (by omega), List.append_nil]), hS.keep⟩
      · try simp only [zq1, zq2, zq3, zq4, zq5, zq6, zq7] at hc42
        refine wc_skip ?_
        refine wc_seq ?_
        refine wc_region ?_
        refine wl (y_move rfl) rfl ?_
        refine wl (y_assign rfl) rfl ?_
        refine wl_nil ?_
        refine wc_ret ?_
        refine wret (vs := [_]) (.tmp rfl .nil) ?_
        first
        | (exfalso; omega)
        | exact ⟨congrArg (fun x => Value.string (str x)) (by rw [hub, if_pos (by omega)]), hS.keep⟩
        | exact ⟨congrArg (fun x => Value.string (str x)) (by rw [hub, if_neg (by omega), if_pos (by omega)]), hS.keep⟩
        | exact ⟨congrArg (fun x => Value.string (str x)) (by rw [hub, if_neg (by omega), if_neg (by omega), List.append_nil]), hS.keep⟩
  · try simp only [zq1, zq2, zq3, zq4, zq5, zq6, zq7] at hg21
    refine wl_on rfl rfl ?_
    refine wl (y_fld fl_59_1 rfl) rfl ?_
    refine wl_on rfl rfl ?_
    refine wl (y_load pl_3 rfl (hS.cell (v := .int .i64 u.kind) rfl)) rfl ?_
    refine wl_on rfl rfl ?_
    refine wl (y_eql rfl rfl) rfl ?_
    refine wl (y_pickF rfl rfl) rfl ?_
    refine wl_nil ?_
    refine wc_if rfl (fun hc25 => ?_) (fun hc25 => ?_)
    · try simp only [zq1, zq2, zq3, zq4, zq5, zq6, zq7] at hc25
      refine wc_seq ?_
      refine wc_region ?_
      refine wl (y_fld fl_59_2 rfl) rfl ?_
      refine wl (y_load pl_2 rfl (hS.cell (v := .int .i64 u.n) rfl)) rfl ?_
      refine wl_call (.cons rfl .nil) (r3sig_c u.n (f3 (by omega)).1 (f3 (by omega)).2 hS) rfl ?_
      rintro _ w ⟨rfl, hS⟩
      refine wl (y_move rfl) rfl ?_
      refine wl (y_extract (vs := [_, _]) rfl rfl) rfl ?_
      refine wl (y_extract (vs := [_, _]) rfl rfl) rfl ?_
      refine wl (y_assign rfl) rfl ?_
      refine wl (y_assign rfl) rfl ?_
      refine wl_nil ?_
      refine wc_region ?_
      refine wl (y_move rfl) rfl ?_
      refine wl (y_move rfl) rfl ?_
      refine wl ((y_sadd rfl rfl (by rw [str_len, str_len, List.length_append]; omega)).val (congrArg Value.string (str_app _ _))) rfl ?_
      refine wl (y_assign rfl) rfl ?_
      refine wl_nil ?_
      refine wc_seq ?_
      refine wc_seq ?_
      refine wc_region ?_
      refine wl (y_fld fl_59_1 rfl) rfl ?_
      refine wl (y_load pl_3 rfl (hS.cell (v := .int .i64 u.kind) rfl)) rfl ?_
      refine wl (y_eql rfl rfl) rfl ?_
      refine wl (y_move rfl) rfl ?_
      refine wl_cases (s := 38) rfl (fun hg38 => ?_) (fun hg38 => ?_)
      · try simp only [zq1, zq2, zq3, zq4, zq5, zq6, zq7] at hg38
        refine wl_off rfl rfl rfl rfl ?_
        refine wl_off rfl rfl rfl rfl ?_
        refine wl_off rfl rfl rfl rfl ?_
        refine wl (y_pickT rfl rfl) rfl ?_
        refine wl_nil ?_
        refine wc_ifT rfl rfl ?_
        refine wc_region ?_
        refine wl (y_move rfl) rfl ?_
        refine wl (y_fld fl_59_3 rfl) rfl ?_
        refine wl (y_load pl_9 rfl (hS.cell (v := .string u.s) rfl)) rfl ?_
        refine wl_call (.cons rfl .nil) (r3text_c u.s (by have := f4 (by omega); omega) hS) rfl ?_
        rintro _ w ⟨rfl, hS⟩
        refine wl ((y_sadd rfl rfl (by have := f4 (by omega); rw [str_len, str_len, List.length_append]; omega)).val (congrArg Value.string (str_app _ _))) rfl ?_
        refine wl (y_assign rfl) rfl ?_
        refine wl_nil ?_
        refine wc_seq ?_
        refine wc_region ?_
        refine wl (y_move rfl) rfl ?_
        refine wl (y_assign rfl) rfl ?_
        refine wl_nil ?_
        refine wc_ret ?_
        refine wret (vs := [_]) (.tmp rfl .nil) ?_
        first
        | (exfalso; omega)
        | exact ⟨congrArg (fun x => Value.string (str x)) (by rw [hub, if_pos (by omega)]), hS.keep⟩
        | exact ⟨congrArg (fun x => Value.string (str x)) (by rw [hub, if_neg (by omega), if_pos (by omega)]), hS.keep⟩
        | exact ⟨congrArg (fun x => Value.string (str x)) (by rw [hub, if_neg (by omega), if_neg (by omega), List.append_nil]), hS.keep⟩
      · try simp only [zq1, zq2, zq3, zq4, zq5, zq6, zq7] at hg38
        refine wl_on rfl rfl ?_
        refine wl (y_fld fl_59_1 rfl) rfl ?_
        refine wl_on rfl rfl ?_
        refine wl (y_load pl_3 rfl (hS.cell (v := .int .i64 u.kind) rfl)) rfl ?_
        refine wl_on rfl rfl ?_
        refine wl (y_eql rfl rfl) rfl ?_
        refine wl (y_pickF rfl rfl) rfl ?_
        refine wl_nil ?_
        refine wc_if rfl (fun hc42 => ?_) (fun hc42 => ?_)
        · try simp only [zq1, zq2, zq3, zq4, zq5, zq6, zq7] at hc42
          refine wc_region ?_
          refine wl (y_move rfl) rfl ?_
          refine wl (y_fld fl_59_3 rfl) rfl ?_
          refine wl (y_load pl_9 rfl (hS.cell (v := .string u.s) rfl)) rfl ?_
          refine wl_call (.cons rfl .nil) (r3text_c u.s (by have := f4 (by omega); omega) hS) rfl ?_
          rintro _ w ⟨rfl, hS⟩
          refine wl ((y_sadd rfl rfl (by have := f4 (by omega); rw [str_len, str_len, List.length_append]; omega)).val (congrArg Value.string (str_app _ _))) rfl ?_
          refine wl (y_assign rfl) rfl ?_
          refine wl_nil ?_
          refine wc_seq ?_
          refine wc_region ?_
          refine wl (y_move rfl) rfl ?_
          refine wl (y_assign rfl) rfl ?_
          refine wl_nil ?_
          refine wc_ret ?_
          refine wret (vs := [_]) (.tmp rfl .nil) ?_
          first
          | (exfalso; omega)
          | exact ⟨congrArg (fun x => Value.string (str x)) (by rw [hub, if_pos (by omega)]), hS.keep⟩
          | exact ⟨congrArg (fun x => Value.string (str x)) (by rw [hub, if_neg (by omega), if_pos (by omega)]), hS.keep⟩
          | exact ⟨congrArg (fun x => Value.string (str x)) (by rw [hub, if_neg (by omega), if_neg (by omega), List.append_nil]), hS.keep⟩
        · try simp only [zq1, zq2, zq3, zq4, zq5, zq6, zq7] at hc42
          refine wc_skip ?_
          refine wc_seq ?_
          refine wc_region ?_
          refine wl (y_move rfl) rfl ?_
          refine wl (y_assign rfl) rfl ?_
          refine wl_nil ?_
          refine wc_ret ?_
          refine wret (vs := [_]) (.tmp rfl .nil) ?_
          first
          | (exfalso; omega)
          | exact ⟨congrArg (fun x => Value.string (str x)) (by rw [hub, if_pos (by omega)]), hS.keep⟩
          | exact ⟨congrArg (fun x => Value.string (str x)) (by rw [hub, if_neg (by omega), if_pos (by omega)]), hS.keep⟩
          | exact ⟨congrArg (fun x => Value.string (str x)) (by rw [hub, if_neg (by omega), if_neg (by omega), List.append_nil]), hS.keep⟩
    · try simp only [zq1, zq2, zq3, zq4, zq5, zq6, zq7] at hc25
      refine wc_skip ?_
      refine wc_seq ?_
      refine wc_seq ?_
      refine wc_region ?_
      refine wl (y_fld fl_59_1 rfl) rfl ?_
      refine wl (y_load pl_3 rfl (hS.cell (v := .int .i64 u.kind) rfl)) rfl ?_
      refine wl (y_eql rfl rfl) rfl ?_
      refine wl (y_move rfl) rfl ?_
      refine wl_cases (s := 38) rfl (fun hg38 => ?_) (fun hg38 => ?_)
      · try simp only [zq1, zq2, zq3, zq4, zq5, zq6, zq7] at hg38
        refine wl_off rfl rfl rfl rfl ?_
        refine wl_off rfl rfl rfl rfl ?_
        refine wl_off rfl rfl rfl rfl ?_
        refine wl (y_pickT rfl rfl) rfl ?_
        refine wl_nil ?_
        refine wc_ifT rfl rfl ?_
        refine wc_region ?_
        refine wl (y_move rfl) rfl ?_
        refine wl (y_fld fl_59_3 rfl) rfl ?_
        refine wl (y_load pl_9 rfl (hS.cell (v := .string u.s) rfl)) rfl ?_
        refine wl_call (.cons rfl .nil) (r3text_c u.s (by have := f4 (by omega); omega) hS) rfl ?_
        rintro _ w ⟨rfl, hS⟩
        refine wl ((y_sadd rfl rfl (by have := f4 (by omega); rw [str_len, str_len, List.length_append]; omega)).val (congrArg Value.string (str_app _ _))) rfl ?_
        refine wl (y_assign rfl) rfl ?_
        refine wl_nil ?_
        refine wc_seq ?_
        refine wc_region ?_
        refine wl (y_move rfl) rfl ?_
        refine wl (y_assign rfl) rfl ?_
        refine wl_nil ?_
        refine wc_ret ?_
        refine wret (vs := [_]) (.tmp rfl .nil) ?_
        first
        | (exfalso; omega)
        | exact ⟨congrArg (fun x => Value.string (str x)) (by rw [hub, if_pos (by omega)]), hS.keep⟩
        | exact ⟨congrArg (fun x => Value.string (str x)) (by rw [hub, if_neg (by omega), if_pos (by omega)]), hS.keep⟩
        | exact ⟨congrArg (fun x => Value.string (str x)) (by rw [hub, if_neg (by omega), if_neg (by omega), List.append_nil]), hS.keep⟩
      · try simp only [zq1, zq2, zq3, zq4, zq5, zq6, zq7] at hg38
        refine wl_on rfl rfl ?_
        refine wl (y_fld fl_59_1 rfl) rfl ?_
        refine wl_on rfl rfl ?_
        refine wl (y_load pl_3 rfl (hS.cell (v := .int .i64 u.kind) rfl)) rfl ?_
        refine wl_on rfl rfl ?_
        refine wl (y_eql rfl rfl) rfl ?_
        refine wl (y_pickF rfl rfl) rfl ?_
        refine wl_nil ?_
        refine wc_if rfl (fun hc42 => ?_) (fun hc42 => ?_)
        · try simp only [zq1, zq2, zq3, zq4, zq5, zq6, zq7] at hc42
          refine wc_region ?_
          refine wl (y_move rfl) rfl ?_
          refine wl (y_fld fl_59_3 rfl) rfl ?_
          refine wl (y_load pl_9 rfl (hS.cell (v := .string u.s) rfl)) rfl ?_
          refine wl_call (.cons rfl .nil) (r3text_c u.s (by have := f4 (by omega); omega) hS) rfl ?_
          rintro _ w ⟨rfl, hS⟩
          refine wl ((y_sadd rfl rfl (by have := f4 (by omega); rw [str_len, str_len, List.length_append]; omega)).val (congrArg Value.string (str_app _ _))) rfl ?_
          refine wl (y_assign rfl) rfl ?_
          refine wl_nil ?_
          refine wc_seq ?_
          refine wc_region ?_
          refine wl (y_move rfl) rfl ?_
          refine wl (y_assign rfl) rfl ?_
          refine wl_nil ?_
          refine wc_ret ?_
          refine wret (vs := [_]) (.tmp rfl .nil) ?_
          first
          | (exfalso; omega)
          | exact ⟨congrArg (fun x => Value.string (str x)) (by rw [hub, if_pos (by omega)]), hS.keep⟩
          | exact ⟨congrArg (fun x => Value.string (str x)) (by rw [hub, if_neg (by omega), if_pos (by omega)]), hS.keep⟩
          | exact ⟨congrArg (fun x => Value.string (str x)) (by rw [hub, if_neg (by omega), if_neg (by omega), List.append_nil]), hS.keep⟩
        · try simp only [zq1, zq2, zq3, zq4, zq5, zq6, zq7] at hc42
          refine wc_skip ?_
          refine wc_seq ?_
          refine wc_region ?_
          refine wl (y_move rfl) rfl ?_
          refine wl (y_assign rfl) rfl ?_
          refine wl_nil ?_
          refine wc_ret ?_
          refine wret (vs := [_]) (.tmp rfl .nil) ?_
          first
          | (exfalso; omega)
          | exact ⟨congrArg (fun x => Value.string (str x)) (by rw [hub, if_pos (by omega)]), hS.keep⟩
          | exact ⟨congrArg (fun x => Value.string (str x)) (by rw [hub, if_neg (by omega), if_pos (by omega)]), hS.keep⟩
          | exact ⟨congrArg (fun x => Value.string (str x)) (by rw [hub, if_neg (by omega), if_neg (by omega), List.append_nil]), hS.keep⟩
theorem r7bytes_c (r : Rnd) (s : Value) (hs : Rd M encU s r.ups) (hr : mayR r = 0) (hS : St M w Ls) :
    CallsR Tryz.prog 19 [rvS r s].toArray w fun v w' => v = .string (str (rbytes r)) ∧ St M w' Ls := by
  obtain ⟨m1, m2, m3, m4, m5, m6, m7⟩ := mayR_ok hr
  have hs0 := hs
  obtain ⟨sa, sc, rfl⟩ := (hs.holds hS).slice
  obtain ⟨o, ho⟩ : ∃ o : Nat, r.o = o := ⟨r.o.toNat, by omega⟩
  obtain ⟨n, hn⟩ : ∃ n : Nat, r.n = n := ⟨r.n.toNat, by omega⟩
  have hrb : rbytes r = pput o ++ pput n ++ pput r.ups.length ++ r.ups.flatMap ubytes := by unfold rbytes; rw [ho, hn]; rfl
  have p1 := pput_length o
  have p2 := pput_length n
  have p3 := pput_length r.ups.length
  refine calls_of (c := _) (rs := _) (n := 51) Tryz.func19 rfl rfl rfl rfl rfl ?_
  refine wc_seq ?_
  refine wc_region ?_
  refine a_box rfl hS rfl fun b1 w hS => ?_
  refine wl (y_assign rfl) rfl ?_
  refine wl_nil ?_
  refine wc_seq ?_
  refine wc_region ?_
  refine wl (y_fld fl_48_0 rfl) rfl ?_
  refine wl ((y_load pl_3 rfl (hS.cell (v := .int .i64 r.o) rfl)).val (congrArg (Value.int .i64) ho)) rfl ?_
  refine wl_call (.cons rfl .nil) (r3num_c o (by omega) hS) rfl ?_
  rintro _ w ⟨rfl, hS⟩
  refine wl (y_move rfl) rfl ?_
  refine wl (y_extract (vs := [_, _]) rfl rfl) rfl ?_
  refine wl (y_extract (vs := [_, _]) rfl rfl) rfl ?_
  refine wl (y_assign rfl) rfl ?_
  refine wl (y_assign rfl) rfl ?_
  refine wl_nil ?_
  refine wc_seq ?_
  refine wc_region ?_
  refine wl (y_fld fl_48_1 rfl) rfl ?_
  refine wl ((y_load pl_3 rfl (hS.cell (v := .int .i64 r.n) rfl)).val (congrArg (Value.int .i64) hn)) rfl ?_
  refine wl_call (.cons rfl .nil) (r3num_c n (by omega) hS) rfl ?_
  rintro _ w ⟨rfl, hS⟩
  refine wl (y_move rfl) rfl ?_
  refine wl (y_extract (vs := [_, _]) rfl rfl) rfl ?_
  refine wl (y_extract (vs := [_, _]) rfl rfl) rfl ?_
  refine wl (y_assign rfl) rfl ?_
  refine wl (y_assign rfl) rfl ?_
  refine wl_nil ?_
  refine wc_seq ?_
  refine wc_region ?_
  refine wl (y_fld fl_48_2 rfl) rfl ?_
  refine wl (y_load pl_46 rfl (hS.cell (v := .slice sa r.ups.length sc) rfl)) rfl ?_
  refine wl (y_len_sl Tryz.underlying46 rfl) rfl ?_
  refine wl_call (.cons rfl .nil) (r3num_c r.ups.length (by omega) hS) rfl ?_
  rintro _ w ⟨rfl, hS⟩
  refine wl (y_move rfl) rfl ?_
  refine wl (y_extract (vs := [_, _]) rfl rfl) rfl ?_
  refine wl (y_extract (vs := [_, _]) rfl rfl) rfl ?_
  refine wl (y_assign rfl) rfl ?_
  refine wl (y_assign rfl) rfl ?_
  refine wl_nil ?_
  refine wc_seq ?_
  refine wc_region ?_
  refine wl (y_move rfl) rfl ?_
  refine wl (y_move rfl) rfl ?_
  refine wl ((y_sadd rfl rfl (by rw [str_len, str_len]; omega)).val (congrArg Value.string (str_app _ _))) rfl ?_
  refine wl (y_move rfl) rfl ?_
  refine wl ((y_sadd rfl rfl (by rw [str_len, str_len, List.length_append]; omega)).val (congrArg Value.string (str_app _ _))) rfl ?_
  refine wl (y_assign rfl) rfl ?_
  refine wl_nil ?_
  refine wc_seq ?_
  refine wc_seq ?_
  refine wc_region ?_
  refine wl (y_assign rfl) rfl ?_
  refine wl_nil ?_
  refine wc_block ?_
  refine wc_loop (α := Nat) (fun i => [(1, .pointer (some ⟨b1, 0, none⟩)), (9, .string (str (pput o ++ pput n ++ pput r.ups.length ++ (r.ups.take i).flatMap ubytes))), (10, .int .i64 i)]) (fun i w => i ≤ r.ups.length ∧ St M w ([(b1, .cells (rvS r (.slice sa r.ups.length sc)).cells 48)] :: Ls)) (fun i => r.ups.length - i) 0 (sub_cons rfl (sub_cons (show _ = some (Value.string _) by rw [List.take_zero, List.flatMap_nil, List.append_nil]; rfl) (sub_cons rfl sub_nil))) ⟨by omega, hS⟩ ?_
  clear hS
  rintro i w ⟨hi, hS⟩
  refine wc_seq ?_
  refine wc_seq ?_
  refine wc_region ?_
  refine wl (y_move rfl) rfl ?_
  refine wl (y_fld fl_48_2 rfl) rfl ?_
  refine wl (y_load pl_46 rfl (hS.cell (v := .slice sa r.ups.length sc) rfl)) rfl ?_
  refine wl (y_len_sl Tryz.underlying46 rfl) rfl ?_
  refine wl (y_lss rfl rfl) rfl ?_
  refine wl_nil ?_
  refine wc_if rfl (fun hc39 => ?_) (fun hc39 => ?_)
  · try simp only [zq1, zq2, zq3, zq4, zq5, zq6, zq7] at hc39
    refine wc_skip ?_
    refine wc_seq ?_
    refine wc_block ?_
    have hi' : i < r.ups.length := by omega
    obtain ⟨u, hu⟩ : ∃ u, r.ups[i]? = some u := ⟨_, List.getElem?_eq_getElem hi'⟩
    have hut : (r.ups.take (i + 1)).flatMap ubytes = (r.ups.take i).flatMap ubytes ++ ubytes u := by rw [List.take_add_one, hu]; simp
    have hul := ups_length (l := r.ups.take i) fun x hx => m7 x (List.mem_of_mem_take hx)
    have hu1 := ubytes_length (m7 u (List.mem_of_getElem? hu))
    rw [List.length_take] at hul
    obtain ⟨bb, off, c', hse, hce⟩ := (hs0.holds hS).at hu
    simp only [Value.slice.injEq] at hse
    have hSk := hS
    obtain ⟨rfl, _, rfl⟩ := hse
    replace hS := hSk
    refine wc_region ?_
    refine wl (y_move rfl) rfl ?_
    refine wl (y_fld fl_48_2 rfl) rfl ?_
    refine wl (y_load pl_46 rfl (hS.cell (v := .slice (some ⟨bb, off, none⟩) r.ups.length sc) rfl)) rfl ?_
    refine wl (y_move rfl) rfl ?_
    refine wl (y_ixa_sl Tryz.underlying46 sz_59 rfl rfl (by omega) (by omega)) rfl ?_
    refine wl ((y_loadS st_59 sz_59 rfl (vs := encU.f u) hce rfl).val (show _ = uv u from rfl)) rfl ?_
    refine wl_call (.cons rfl .nil) (r6bytes_c u (m7 u (List.mem_of_getElem? hu)) hS) rfl ?_
    rintro _ w ⟨rfl, hS⟩
    refine wl ((y_sadd rfl rfl (by rw [str_len, str_len]; simp only [List.length_append]; omega)).val (u := .string (str (pput o ++ pput n ++ pput r.ups.length ++ (r.ups.take (i + 1)).flatMap ubytes))) (congrArg Value.string (by rw [str_app, hut, List.append_assoc]))) rfl ?_
    refine wl (y_assign rfl) rfl ?_
    refine wl_nil ?_
    refine wc_region ?_
    refine wl (y_move rfl) rfl ?_
    refine wl (y_add rfl rfl (w64 (by omega) (by omega))) rfl ?_
    refine wl (y_assign rfl) rfl ?_
    refine wl_nil ?_
    exact ⟨i + 1, by omega, sub_cons rfl (sub_cons rfl (sub_cons rfl sub_nil)), by omega, hS⟩
  · try simp only [zq1, zq2, zq3, zq4, zq5, zq6, zq7] at hc39
    obtain rfl : i = r.ups.length := by omega
    rw [List.take_length, ← hrb]
    refine wc_exit ?_
    refine wc_seq ?_
    refine wc_region ?_
    refine wl (y_move rfl) rfl ?_
    refine wl (y_assign rfl) rfl ?_
    refine wl_nil ?_
    refine wc_ret ?_
    refine wret (vs := [_]) (.tmp rfl .nil) ?_
    exact ⟨rfl, hS.keep⟩
end
end Go.Proofs.YtndahppmjdbifaaGreatDoor.Rou

set_option linter.unusedVariables false
set_option linter.unusedSimpArgs false
namespace Go.Proofs.YtndahppmjdbifaaGreatDoor.Nod
open Go Go.Proofs Go.Proofs.YtndahppmjdbifaaGreatDoor.Eng Go.Proofs.YtndahppmjdbifaaGreatDoor.Pre Go.Proofs.YtndahppmjdbifaaGreatDoor.Pak Go.Proofs.YtndahppmjdbifaaGreatDoor.Val Go.Proofs.YtndahppmjdbifaaGreatDoor.Rou Go.Proofs.YtndahppmjdbifaaGreatDoor.Fra Go.Proofs.YtndahppmjdbifaaGreatDoor.Snd Go.Proofs.YtndahppmjdbifaaGreatDoor.Lnk Go.Proofs.YtndahppmjdbifaaGreatDoor.Jnl Go.Proofs.YtndahppmjdbifaaGreatDoor.Cli Go.Proofs.YtndahppmjdbifaaGreatDoor.Sto
/-! ### what is sent behind a reset -/
theorem offl_fill (l : List Rnd) (k : Lnk) (n : Nat) (h1 : k.s.acked = 0) (h2 : k.s.all.length ≤ k.s.win) (h3 : k.s.all.length + l.length < k.s.last) :
    (offl l k n).1.s = ⟨k.s.win, k.s.last, k.s.all ++ (l.take (k.s.win - k.s.all.length)).map putB, 0⟩ := by
  induction l generalizing k n with
  | nil => simp only [offl, List.take_nil, List.map_nil, List.append_nil]; rw [← h1]
  | cons r l ih =>
    simp only [List.length_cons] at h3
    simp only [offl]
    by_cases hf : k.s.all.length = k.s.win
    · have he : k.s.offerE ≠ 0 := by unfold Snd.offerE; rw [if_pos (by omega)]; decide
      rw [if_neg he, hf, Nat.sub_self, List.take_zero, List.map_nil, List.append_nil]
      simp only
      rw [← h1]
    · have he : k.s.offerE = 0 := by unfold Snd.offerE; rw [if_neg (by omega), if_neg (by omega)]
      rw [if_pos he]
      have hs : (k.offer (putB r)).s = ⟨k.s.win, k.s.last, k.s.all ++ [putB r], k.s.acked⟩ := by unfold Lnk.offer Snd.offer; simp only; rw [if_pos he]
      rw [ih (k.offer (putB r)) (n + 1) (by rw [hs]; exact h1) (by rw [hs]; simp; omega) (by rw [hs]; simp; omega), hs]
      simp only [List.length_append, List.length_singleton]
      have ht : k.s.win - k.s.all.length = (k.s.win - (k.s.all.length + 1)) + 1 := by omega
      rw [ht, List.take_succ_cons, List.map_cons, List.append_assoc]
      rfl
theorem epc_succ {e : Nat} (h : (e : Int) < 1099511627776) : ((epc ((e : Int) + 1) : Nat) : Int) = e + 1 := by unfold epc; omega
theorem lnk_new_ep (e win room : Int) (pas : Bool) : (Lnk.new e win room pas).ep = epc e := by simp only [Lnk.new]
structure Again (m : Nod) (k : Lnk) : Prop where
  ep : (k.ep : Int) = m.k.ep + 1
  r : k.r.all = []
  s : k.s = ⟨m.c.window.toNat, 1125899906842624, (m.j.l.take m.c.window.toNat).map putB, 0⟩
theorem reset_again {t : Nat} {m : Nod} (hi : m.inv t) (ht : t ≤ 1000) (hr : m.resetE = 0) : Again m m.reset.tick.k := by
  have hc := mayC_ok hi.c
  have hj := hi.j
  have hrr : m.reset = { m with k := Lnk.new (m.k.ep + 1) m.c.window m.c.pull false, offered := 0, own := m.own.resume m.j } := by unfold Nod.reset; rw [if_pos hr]
  have hlt : (m.k.ep : Int) < m.c.last := by
    unfold Nod.resetE at hr
    split at hr
    · cases hr
    · omega
  have hwin : (Lnk.new (m.k.ep + 1) m.c.window m.c.pull false).s = ⟨m.c.window.toNat, 1125899906842624, [], 0⟩ := by
    unfold Lnk.new Snd.new
    simp only [Snd.mk.injEq, true_and, and_true]
    omega
  have hk : m.reset.tick.k = (offl m.j.l (Lnk.new (m.k.ep + 1) m.c.window m.c.pull false) 0).1 := by rw [hrr]; rfl
  rw [hk]
  refine ⟨?_, ?_, ?_⟩
  · rw [(offl_r _ _ _).2.1]
    rw [lnk_new_ep, epc_succ (by omega)]
  · rw [(offl_r _ _ _).1]; rfl
  · rw [offl_fill _ _ _ (by rw [hwin]) (by rw [hwin]; simp) (by rw [hwin]; simp only [List.length_nil]; omega), hwin]
    simp
theorem again_frames {m : Nod} {k : Lnk} (h : Again m k) (hw : 1 ≤ m.c.window) : k.frames.length = max (min m.j.l.length m.c.window.toNat) 1 ∧ ∀ (i : Nat) (f : Frm), k.frames[i]? = some f → f.ep = m.k.ep + 1 ∧ f.ack = 0 ∧ (∀ r : Rnd, m.j.l[i]? = some r → f.seq = (i : Int) + 1 ∧ f.data = putB r) := by
  obtain ⟨h1, h2, h3⟩ := h
  have hp : k.s.pieces = pcs 0 ((m.j.l.take m.c.window.toNat).map putB) := by unfold Snd.pieces; rw [h3]; simp
  have hf : k.frames = if k.s.pieces = [] then [⟨k.ep, 0, k.r.all.length, ByteArray.empty⟩] else k.s.pieces.map (frm k) := by
    unfold Lnk.frames
    rw [if_neg (by omega)]
  by_cases hj : m.j.l = []
  · have hpe : k.s.pieces = [] := by rw [hp, hj]; simp [pcs]
    rw [hf, if_pos hpe, hj]
    refine ⟨by simp, ?_⟩
    intro i f hfi
    have : i = 0 := by
      rcases Nat.eq_zero_or_pos i with h | h
      · exact h
      · rw [List.getElem?_eq_none (by simp; omega)] at hfi; cases hfi
    subst this
    simp only [List.getElem?_cons_zero, Option.some.injEq] at hfi
    subst hfi
    refine ⟨h1, by simp only; rw [h2]; rfl, ?_⟩
    intro r hr; simp at hr
  · have hjl : 0 < m.j.l.length := List.length_pos_iff.2 hj
    have hpl : k.s.pieces.length = min m.j.l.length m.c.window.toNat := by rw [hp, pcs_length, List.length_map, List.length_take, Nat.min_comm]
    have hpe : k.s.pieces ≠ [] := fun h0 => by rw [h0] at hpl; simp at hpl; omega
    rw [hf, if_neg hpe, List.length_map, hpl]
    refine ⟨by omega, ?_⟩
    intro i f hfi
    rw [List.getElem?_map] at hfi
    obtain ⟨x, hx, rfl⟩ := Option.map_eq_some_iff.1 hfi
    refine ⟨h1, by unfold frm; simp only; rw [h2]; rfl, ?_⟩
    intro r hr
    have hil : i < k.s.pieces.length := (List.getElem?_eq_some_iff.1 hx).1
    have hd : ((m.j.l.take m.c.window.toNat).map putB)[i]? = some (putB r) := by
      rw [List.getElem?_map, List.getElem?_take, if_pos (by omega), hr]; rfl
    have := pcs_at 0 _ i _ hd
    rw [← hp, hx] at this
    simp only [Option.some.injEq] at this
    subst this
    refine ⟨by unfold frm; simp only; omega, rfl⟩
def lk0 (m : Nod) : Look := ⟨m.k.ep + 1, 0, (behind 0 m.j.l).length, 0, 0, 0⟩
theorem reset_look {t : Nat} {m : Nod} (hi : m.inv t) (hr : m.resetE = 0) : m.reset.look = lk0 m := by
  have hc := mayC_ok hi.c
  have hrr : m.reset = { m with k := Lnk.new (m.k.ep + 1) m.c.window m.c.pull false, offered := 0, own := m.own.resume m.j } := by unfold Nod.reset; rw [if_pos hr]
  have hlt : (m.k.ep : Int) < m.c.last := by
    unfold Nod.resetE at hr
    split at hr
    · cases hr
    · omega
  rw [hrr]
  have e := lnk_new_ep (m.k.ep + 1) m.c.window m.c.pull false
  have e2 := epc_succ (e := m.k.ep) (by omega)
  unfold Nod.look lk0
  simp only [e, e2]
  rfl
section
variable {M : Mem} {w : World} {Ls : List Chunk}
theorem NodeResets_c (hG : Bits M) (c : Cfg) (origin : Int) (l : List Act) (s : Value) (hl : Rd M encA s l) (hS : St M w Ls) :
    CallsR Tryz.prog 3 [cfgV c, .int .i64 origin, s].toArray w fun v w' => ∃ M', Mle M M' ∧ v = .bool true ∧ St M' w' Ls := by
  obtain ⟨sa, sc, rfl⟩ := (hl.holds hS).slice
  refine calls_of (c := _) (rs := _) (n := 133) Tryz.func3 rfl rfl rfl rfl rfl ?_
  refine wc_seq ?_
  refine wc_region ?_
  refine a_box rfl hS rfl fun b3 w hS => ?_
  refine wl (y_assign rfl) rfl ?_
  refine wl_nil ?_
  refine wc_seq ?_
  refine wc_seq ?_
  refine wc_region ?_
  refine wl_call .nil (awake_c hG hS) rfl ?_
  rintro _ w ⟨M1, hM1, rfl, hS⟩
  refine wl (y_not rfl) rfl ?_
  refine wl (y_move rfl) rfl ?_
  refine wl_on rfl rfl ?_
  refine wl ((y_loadS st_23 sz_23 rfl (vs := cfgL c) (hS.cells rfl) rfl).val (show _ = cfgV c from rfl)) rfl ?_
  refine wl_on rfl rfl ?_
  refine wl (y_move rfl) rfl ?_
  refine wl_on rfl rfl ?_
  refine wl (y_move rfl) rfl ?_
  refine wl_on rfl rfl ?_
  refine wl_call (.cons rfl (.cons rfl (.cons rfl .nil))) (may_c c origin l _ (hl.mono hM1) hS) rfl ?_
  rintro _ w ⟨rfl, hS⟩
  refine wl_on rfl rfl ?_
  refine wl (y_not rfl) rfl ?_
  refine wl (y_pickF rfl rfl) rfl ?_
  refine wl_nil ?_
  refine wc_if rfl (fun hc24 => ?_) (fun hc24 => ?_)
  · try simp only [zq1, zq2, zq3, zq4, zq5, zq6, zq7] at hc24
    refine wc_seq ?_
    refine wc_region ?_
    refine wl_call .nil (awake_c (hG.mono hM1) hS) rfl ?_
    rintro _ w ⟨M2, hM2, rfl, hS⟩
    refine wl (y_assign rfl) rfl ?_
    refine wl_nil ?_
    refine wc_ret ?_
    refine wret (vs := [_]) (.tmp rfl .nil) ?_
    first
    | exact ⟨M8, hMd, rfl, hS.keep⟩
    | exact ⟨M6, hMc.trans hM6, rfl, hS.keep⟩
    | exact ⟨M2, hM1.trans hM2, rfl, hS.keep⟩
  · try simp only [zq1, zq2, zq3, zq4, zq5, zq6, zq7] at hc24
    obtain ⟨g1, g2, g3, g4, g5, g6⟩ := mayB_ok hc24
    have hab : ∀ a ∈ l, a.bytes.size ≤ 140737488351232 := fun a ha => by have := g2 a ha; omega
    have hinv : ((Nod.new c origin).acts l).inv l.length := by simpa using Nod.acts_inv (Nod.new_inv g3 origin) l hab
    have hfit := Nod.acts_fit (Nod.new_inv g3 origin) (Nod.new_fit c origin) l hab
    obtain ⟨hwid, hcc, hoo⟩ := Nod.acts_wide (Nod.new_wide c origin) l
    generalize hn : (Nod.new c origin).acts l = m at hinv hfit hwid hcc hoo
    replace hcc : m.c = c := hcc
    have hsm := hinv.small (by omega)
    have hc := mayC_ok g3
    have hcm := mayC_ok hinv.c
    have hinr := Nod.reset_inv hinv
    have hsmr := hinr.small (by omega)
    have hbl := behind_length 0 m.j.l
    have hjl := hinv.j
    have hepk := hinv.k.1
    refine wc_skip ?_
    refine wc_seq ?_
    refine wc_region ?_
    refine wl ((y_loadS st_23 sz_23 rfl (vs := cfgL c) (hS.cells rfl) rfl).val (show _ = cfgV c from rfl)) rfl ?_
    refine wl (y_move rfl) rfl ?_
    refine wl (y_move rfl) rfl ?_
    refine wl_call (.cons rfl (.cons rfl (.cons rfl .nil))) (run_c (hG.mono hM1) c origin l _ (hl.mono hM1) (by omega) hab g4 g3 hS) rfl ?_
    rintro v w ⟨M2, p, H, rfl, hM2, n1, hS⟩
    rw [hn] at n1
    refine wl (y_assign rfl) rfl ?_
    refine wl_nil ?_
    refine wc_seq ?_
    refine wc_seq ?_
    refine wc_region ?_
    refine wl (y_move rfl) rfl ?_
    refine wl (y_pnil Tryz.underlying27 rfl rfl) rfl ?_
    refine wl_nil ?_
    refine wc_ifF rfl (rfl) ?_
    refine wc_skip ?_
    refine wc_seq ?_
    refine wc_region ?_
    refine wl (y_move rfl) rfl ?_
    refine wl_call (.cons rfl .nil) (nlook_c hsm n1 (hS.pull H)) rfl ?_
    rintro _ w ⟨M3, hM3, rfl, n1, hS⟩
    refine wl (y_move rfl) rfl ?_
    refine wl_call (.cons rfl .nil) (njournal_c (by have := hsm.2.2.2; omega) n1 (hS.pull H)) rfl ?_
    rintro v w ⟨M4, ys, Hy, hM4, hoy, hry, n1, hS⟩
    obtain ⟨ya, yc, rfl⟩ := hoy.slice
    have hyl := hry.len
    refine a_alloc z_30 hS rfl fun b8 w hS => ?_
    refine a_storeS (vs := [_, _, _, _, _, _]) sz_30 rfl rfl rfl rfl hS (Nat.le_of_ble_eq_true rfl) fun w hS => ?_
    refine wl (y_assign rfl) rfl ?_
    refine wl_nil ?_
    simp only [List.setIfInBounds_toArray, List.set_cons_zero, List.set_cons_succ, Nat.zero_add, Nat.add_zero, cells_agg, setCells] at hS
    refine wc_seq ?_
    refine wc_region ?_
    refine wl (y_move rfl) rfl ?_
    refine wl_call (.cons rfl .nil) (nreset_c (by omega) (by have := hsm.2.2.2; omega) n1 (hS.pull H)) rfl ?_
    rintro _ w ⟨M5, H5, hM5, rfl, n2, hS⟩
    have hMc := (((hM1.trans hM2).trans hM3).trans hM4).trans hM5
    refine wl (y_assign rfl) rfl ?_
    refine wl_nil ?_
    refine wc_seq ?_
    refine wc_seq ?_
    refine wc_region ?_
    refine wl (y_fld fl_30_0 rfl) rfl ?_
    refine wl (y_load pl_3 rfl (hS.cell (v := .int .i64 m.k.ep) rfl)) rfl ?_
    refine wl (y_fld fl_23_5 rfl) rfl ?_
    refine wl (y_load pl_3 rfl (hS.cell (v := .int .i64 c.last) rfl)) rfl ?_
    refine wl (y_geq rfl rfl) rfl ?_
    refine wl_nil ?_
    refine wc_if rfl (fun hc42 => ?_) (fun hc42 => ?_)
    · try simp only [zq1, zq2, zq3, zq4, zq5, zq6, zq7] at hc42
      have hre : m.resetE = 8 := by unfold Nod.resetE; rw [hcc, if_pos (by omega)]
      have hrm : m.reset = m := by unfold Nod.reset; rw [if_neg (by omega)]
      rw [hrm] at n2
      rw [hre]
      refine wc_seq ?_
      refine wc_draw (l0 := (lb 9 0)) (fun w => CellsAt w b8 0 [.int .i64 m.look.ep, .int .i64 m.look.known, .int .i64 m.look.pending, .int .i64 m.look.opn, .int .i64 m.look.came, .int .i64 m.look.unacked]) [] wide_ rfl rfl fun w hw => ?_
      replace hS := hS.same hw; clear hw
      refine dr_pure (i := 0) (lb 9 1) rfl rfl (by kernel_rfl) (fun w => y_move rfl) ?_
      refine dr_pure (i := 1) (lb 9 3) rfl rfl (by kernel_rfl) (fun w => (y_eql rfl rfl).val (u := .bool true) rfl) ?_
      refine dr_pure (i := 2) (lb 9 7) rfl rfl (by kernel_rfl) (fun w => y_move rfl) ?_
      refine dr_pureG (i := 3) (lb 9 15) rfl rfl (by kernel_rfl) rfl rfl (fun w => y_move rfl) ?_
      refine dr_readG (i := 5) (lb 9 47) rfl rfl (by kernel_rfl) rfl rfl (hS.cells rfl) (fun w hS => y_loadS st_30 sz_30 rfl hS rfl) ?_
      refine dr_do (i := 4) (lb 9 63) rfl (by kernel_rfl) ?_
      refine wl_on rfl rfl ?_
      refine wl_call (.cons rfl .nil) (nlook_c hsm n2 (hS.pull H5)) rfl ?_
      rintro _ w ⟨M6, hM6, rfl, n2, hS⟩
      refine wl_nil ⟨fun _ _ => hS.cells rfl, ?_⟩
      refine dr_pureG (i := 6) (lb 9 127) rfl rfl (by kernel_rfl) rfl rfl (fun w => (y_eqS Tryz.eqGuardType30 rfl rfl (eq_30 _ _ _ _ _ _ _ _ _ _ _ _)).val (u := .bool true) (congrArg Value.bool ((look_eq m.look m.look).trans (decide_eq_true rfl)))) ?_
      refine dr_pure (i := 7) (lb 9 255) rfl rfl (by kernel_rfl) (fun w => y_pickT rfl rfl) ?_
      refine dr_pure (i := 8) (lb 9 511) rfl rfl (by kernel_rfl) (fun w => y_assign rfl) ?_
      refine dr_done (by kernel_rfl) ?_
      refine wc_ret ?_
      refine wret (vs := [_]) (.tmp rfl .nil) ?_
      first
      | exact ⟨M8, hMd, rfl, hS.keep⟩
      | exact ⟨M6, hMc.trans hM6, rfl, hS.keep⟩
      | exact ⟨M2, hM1.trans hM2, rfl, hS.keep⟩
    · try simp only [zq1, zq2, zq3, zq4, zq5, zq6, zq7] at hc42
      have hre : m.resetE = 0 := by unfold Nod.resetE; rw [hcc, if_neg (by omega)]
      have hlk := reset_look hinv hre
      have hag := reset_again hinv (by omega) hre
      have hafr := again_frames hag (by omega)
      have hfitr : m.reset.fit := by have := Nod.act_fit hinv hfit ⟨4, upd0, ByteArray.empty⟩; exact this
      have hrc : m.reset.c = c := by unfold Nod.reset; rw [if_pos hre]; exact hcc
      have hpk := tickP_eq hinr hfitr
      have hrj : m.reset.j = m.j := by unfold Nod.reset; rw [if_pos hre]
      have hba : behind 0 m.j.l = m.j.l := behind_all fun i r hr => (hfit.jn i r hr).1
      have hfput : ∀ f ∈ m.reset.tick.k.frames, fputE f c.mtu = 0 := fun f hf => (frames_put (mtu := c.mtu) (Nod.tick_inv hinr).k (Nod.tick_fit hinr hfitr).ep (by omega) (by have := (Nod.tick_fit hinr hfitr).sd; rw [show m.reset.tick.c = c from hrc] at this; exact this) f hf).1
      have hplen : m.reset.tickP.length = max (min m.j.l.length c.window.toNat) 1 := by rw [hpk, List.length_map, hafr.1, hcc]
      rw [hre]
      refine wc_skip ?_
      refine wc_seq ?_
      refine wc_seq ?_
      refine wc_draw (l0 := (lb 20 0)) (fun w => w.cell? ⟨b8, 0, none⟩ = some (.int .i64 m.k.ep)) [] wide_ rfl rfl fun w hw => ?_
      replace hS := hS.same hw; clear hw
      refine dr_pure (i := 0) (lb 20 1) rfl rfl (by kernel_rfl) (fun w => y_move rfl) ?_
      refine dr_pure (i := 1) (lb 20 3) rfl rfl (by kernel_rfl) (fun w => (y_neq rfl rfl).val (u := .bool false) rfl) ?_
      refine dr_pure (i := 2) (lb 20 7) rfl rfl (by kernel_rfl) (fun w => y_move rfl) ?_
      refine dr_pureG (i := 3) (lb 20 15) rfl rfl (by kernel_rfl) rfl rfl (fun w => y_move rfl) ?_
      refine dr_pureG (i := 5) (lb 20 47) rfl rfl (by kernel_rfl) rfl rfl (fun w => y_fld fl_30_0 rfl) ?_
      refine dr_pureG (i := 8) (lb 20 303) rfl rfl (by kernel_rfl) rfl rfl (fun w => y_move rfl) ?_
      refine dr_pureG (i := 9) (lb 20 815) rfl rfl (by kernel_rfl) rfl rfl (fun w => (y_len_sl Tryz.underlying32 rfl).val (u := .int .i64 (behind 0 m.j.l).length) (congrArg (fun n : Nat => Value.int .i64 (n : Int)) hyl)) ?_
      refine dr_readG (i := 6) (lb 20 879) rfl rfl (by kernel_rfl) rfl rfl (hS.cell rfl) (fun w hS => y_load pl_3 rfl hS) ?_
      refine dr_pureG (i := 7) (lb 20 1007) rfl rfl (by kernel_rfl) rfl rfl (fun w => y_add rfl rfl (w64 (by omega) (by omega))) ?_
      refine dr_pureG (i := 10) (lb 20 2031) rfl rfl (by kernel_rfl) rfl rfl (fun w => y_build (is := [0, 2]) (xs := [_, _]) (out := [_, _, _, _, _, _]) plc_30 z_30 (.cons rfl (.cons rfl .nil)) rfl) ?_
      refine dr_do (i := 4) (lb 20 2047) rfl (by kernel_rfl) ?_
      refine wl_on rfl rfl ?_
      refine wl_call (.cons rfl .nil) (nlook_c hsmr n2 (hS.pull H5)) rfl ?_
      rintro _ w ⟨M6, hM6, rfl, n2, hS⟩
      rw [hlk]
      refine wl_nil ⟨fun _ _ => hS.cell rfl, ?_⟩
      refine dr_pureG (i := 11) (lb 20 4095) rfl rfl (by kernel_rfl) rfl rfl (fun w => (y_neS Tryz.eqGuardType30 rfl rfl (eq_30 _ _ _ _ _ _ _ _ _ _ _ _)).val (u := .bool false) (congrArg Value.bool (congrArg not ((look_eq (lk0 m) (lk0 m)).trans (decide_eq_true rfl))))) ?_
      refine dr_pure (i := 12) (lb 20 8191) rfl rfl (by kernel_rfl) (fun w => y_pickF rfl rfl) ?_
      refine dr_pure (i := 13) (lb 20 16383) rfl rfl (by kernel_rfl) (fun w => y_move rfl) ?_
      refine dr_pureG (i := 14) (lb 20 32767) rfl rfl (by kernel_rfl) rfl rfl (fun w => y_move rfl) ?_
      refine dr_pureG (i := 16) (lb 20 98303) rfl rfl (by kernel_rfl) rfl rfl (fun w => y_move rfl) ?_
      refine dr_do (i := 15) (lb 20 131071) rfl (by kernel_rfl) ?_
      refine wl_on rfl rfl ?_
      refine wl_call (.cons rfl .nil) (njournal_c (by have := hsmr.2.2.2; omega) n2 (hS.pull H5)) rfl ?_
      rintro v w ⟨M7, zs, Hz, hM7, hoz, hrz, n2, hS⟩
      rw [hrj] at hrz
      refine wl_nil ⟨fun _ _ => hS.cell rfl, ?_⟩
      refine dr_do (i := 17) (lb 20 262143) rfl (by kernel_rfl) ?_
      refine wl_on rfl rfl ?_
      refine wl_call (.cons rfl (.cons rfl .nil)) (rsameall_c (by omega) hoz hrz hoy ((((hry.mono hM5).mono hM6).mono hM7)) ((hS.pull Hy).pull Hz)) rfl ?_
      rintro _ w ⟨rfl, hS⟩
      rw [decide_eq_true rfl]
      refine wl_nil ⟨fun _ _ => hS.cell rfl, ?_⟩
      refine dr_pureG (i := 18) (lb 20 524287) rfl rfl (by kernel_rfl) rfl rfl (fun w => y_not rfl) ?_
      refine dr_pure (i := 19) (lb 20 1048575) rfl rfl (by kernel_rfl) (fun w => y_pickF rfl rfl) ?_
      refine dr_done (by kernel_rfl) ?_
      refine wc_ifF rfl rfl ?_
      refine wc_skip ?_
      refine wc_seq ?_
      refine wc_region ?_
      refine wl (y_move rfl) rfl ?_
      refine wl_call (.cons rfl .nil) (ntick_c (hG.mono ((hMc.trans hM6).trans hM7)) hinr.k hsmr hinr.frames n2 (hS.pull H5)) rfl ?_
      rintro _ w ⟨M8, H8, Hp, hM8, hp, n3, hS⟩
      obtain ⟨pa, pc, rfl⟩ := hp.slice
      have hMd := ((hMc.trans hM6).trans hM7).trans hM8
      replace hry := (((hry.mono hM5).mono hM6).mono hM7).mono hM8
      refine wl (y_assign rfl) rfl ?_
      refine wl_nil ?_
      refine wc_seq ?_
      refine wc_seq ?_
      refine wc_region ?_
      refine wl (y_move rfl) rfl ?_
      refine wl (y_len_sl Tryz.underlying37 rfl) rfl ?_
      refine wl (y_move rfl) rfl ?_
      refine wl (y_len_sl Tryz.underlying32 rfl) rfl ?_
      refine wl (y_fld fl_23_1 rfl) rfl ?_
      refine wl (y_load pl_3 rfl (hS.cell (v := .int .i64 c.window) rfl)) rfl ?_
      refine wl (y_min rfl rfl) rfl ?_
      refine wl (y_max rfl rfl) rfl ?_
      refine wl ((y_neq rfl rfl).val (u := .bool false) (congrArg Value.bool (by rw [decide_eq_true (by rw [hplen, hyl, hba]; omega)]; rfl))) rfl ?_
      refine wl_nil ?_
      refine wc_ifF rfl (rfl) ?_
      refine wc_skip ?_
      refine wc_seq ?_
      refine wc_seq ?_
      refine wc_region ?_
      refine wl (y_move rfl) rfl ?_
      refine wl (y_len_sl Tryz.underlying37 rfl) rfl ?_
      refine wl (y_move rfl) rfl ?_
      refine wl_nil ?_
      refine wc_block ?_
      refine wc_loop (α := Nat × Value × Value) (fun ⟨i, v, u⟩ => [(8, .pointer (some ⟨b8, 0, none⟩)), (9, u), (82, v), (83, .int .i64 m.reset.tickP.length), (84, .int .i64 i)]) (fun ⟨i, v, u⟩ w => i ≤ m.reset.tickP.length ∧ v = .slice pa m.reset.tickP.length pc ∧ u = .slice ya ys.length yc ∧ St M8 w (Hp :: Hy :: [(b8, .cells #[.int .i64 m.look.ep, .int .i64 m.look.known, .int .i64 m.look.pending, .int .i64 m.look.opn, .int .i64 m.look.came, .int .i64 m.look.unacked] 30)] :: Ls)) (fun ⟨i, _, _⟩ => m.reset.tickP.length - i) (0, .slice pa m.reset.tickP.length pc, .slice ya ys.length yc) (sub_cons rfl (sub_cons rfl (sub_cons rfl (sub_cons rfl (sub_cons rfl sub_nil))))) ⟨by omega, rfl, rfl, hS.keep⟩ ?_
      clear hS
      rintro ⟨i, v4, u4⟩ w ⟨hi, rfl, rfl, hS⟩
      refine wc_seq ?_
      refine wc_region ?_
      refine wl (y_lss rfl rfl) rfl ?_
      refine wl_nil ?_
      refine wc_seq ?_
      refine wc_if rfl (fun hc85 => ?_) (fun hc85 => ?_)
      · try simp only [zq1, zq2, zq3, zq4, zq5, zq6, zq7] at hc85
        refine wc_skip ?_
        refine wc_seq ?_
        refine wc_block ?_
        refine wc_seq ?_
        have hi' : i < m.reset.tickP.length := by omega
        obtain ⟨x, hxi⟩ : ∃ x, m.reset.tickP[i]? = some x := ⟨_, List.getElem?_eq_getElem hi'⟩
        obtain ⟨f, hfi, hfx⟩ : ∃ f, m.reset.tick.k.frames[i]? = some f ∧ x = ⟨m.reset.origin, 0, fput f m.reset.c.mtu⟩ := by
          rw [hpk, List.getElem?_map] at hxi
          obtain ⟨f, h1, h2⟩ := Option.map_eq_some_iff.1 hxi
          exact ⟨f, h1, h2.symm⟩
        obtain ⟨e1, e2, e3⟩ := hafr.2 i f hfi
        have hxb : x.bytes = fput f c.mtu := by rw [hfx]; simp only; rw [hrc]
        obtain ⟨q1, q2, q3⟩ := fget_put (hfput f (List.mem_of_getElem? hfi))
        rw [← hxb] at q1 q2 q3
        obtain ⟨bb, off, c', hse, hce⟩ := (hp.holds (hS.pull Hp)).at hxi
        simp only [Value.slice.injEq] at hse
        have hSk := hS
        obtain ⟨rfl, _, rfl⟩ := hse
        replace hS := hSk
        refine wc_region ?_
        refine wl (y_move rfl) rfl ?_
        refine wl (y_ixa_sl Tryz.underlying37 sz_40 rfl rfl (by omega) (by omega)) rfl ?_
        refine wl (y_loadS st_40 sz_40 rfl (vs := encP.f x) hce rfl) rfl ?_
        refine a_alloc z_40 hS rfl fun b13 w hS => ?_
        refine wl (y_assign rfl) rfl ?_
        refine a_storeS (vs := [_, _, _]) sz_40 rfl rfl rfl rfl hS (Nat.le_of_ble_eq_true rfl) fun w hS => ?_
        refine wl_nil ?_
        refine wc_seq ?_
        refine wc_region ?_
        refine wl (y_fld fl_40_2 rfl) rfl ?_
        refine wl (y_load pl_9 rfl (hS.cell (v := .string x.bytes) rfl)) rfl ?_
        refine wl_call (.cons rfl .nil) (fget_c (hG.mono hMd) x.bytes (by omega) hS) rfl ?_
        rintro _ w ⟨rfl, hS⟩
        rw [q1, q2]
        refine wl (y_move rfl) rfl ?_
        refine wl (y_extract (vs := [_, _]) rfl rfl) rfl ?_
        refine wl (y_extract (vs := [_, _]) rfl rfl) rfl ?_
        refine a_alloc z_42 hS rfl fun b14 w hS => ?_
        refine a_storeS (vs := [_, _, _, _]) sz_42 rfl rfl rfl rfl hS (Nat.le_of_ble_eq_true rfl) fun w hS => ?_
        refine wl (y_assign rfl) rfl ?_
        refine wl_nil ?_
        simp only [List.setIfInBounds_toArray, List.set_cons_zero, List.set_cons_succ, Nat.zero_add, Nat.add_zero, cells_agg, setCells] at hS
        refine wc_seq ?_
        refine wc_draw (l0 := (lb 37 0)) (fun w => w.cell? ⟨b14, 0, none⟩ = some (.int .i64 f.ep) ∧ w.cell? ⟨b14, 1, none⟩ = some (.int .i64 f.seq) ∧ w.cell? ⟨b14, 2, none⟩ = some (.int .i64 f.ack) ∧ w.cell? ⟨b14, 3, none⟩ = some (.string f.data) ∧ w.cell? ⟨b8, 0, none⟩ = some (.int .i64 m.k.ep) ∧ Holds w encRV (.slice ya ys.length yc) ys) [] wide_ rfl rfl fun w hw => ?_
        replace hS := hS.same hw; clear hw
        refine dr_pure (i := 0) (lb 37 1) rfl rfl (by kernel_rfl) (fun w => y_move rfl) ?_
        refine dr_pure (i := 1) (lb 37 3) rfl rfl (by kernel_rfl) (fun w => (y_neq rfl rfl).val (u := .bool false) rfl) ?_
        refine dr_pure (i := 2) (lb 37 7) rfl rfl (by kernel_rfl) (fun w => y_move rfl) ?_
        refine dr_pureG (i := 3) (lb 37 15) rfl rfl (by kernel_rfl) rfl rfl (fun w => y_fld fl_42_0 rfl) ?_
        refine dr_pureG (i := 5) (lb 37 47) rfl rfl (by kernel_rfl) rfl rfl (fun w => y_fld fl_30_0 rfl) ?_
        refine dr_readG (i := 4) (lb 37 63) rfl rfl (by kernel_rfl) rfl rfl ⟨hS.cell rfl, hS.cell rfl, hS.cell rfl, hS.cell rfl, hS.cell rfl, hoy.holds (hS.pull Hy)⟩ (fun w hS => y_load pl_3 rfl hS.1) ?_
        refine dr_readG (i := 6) (lb 37 127) rfl rfl (by kernel_rfl) rfl rfl ⟨hS.cell rfl, hS.cell rfl, hS.cell rfl, hS.cell rfl, hS.cell rfl, hoy.holds (hS.pull Hy)⟩ (fun w hS => y_load pl_3 rfl hS.2.2.2.2.1) ?_
        refine dr_pureG (i := 7) (lb 37 255) rfl rfl (by kernel_rfl) rfl rfl (fun w => y_add rfl rfl (w64 (by omega) (by omega))) ?_
        refine dr_pureG (i := 8) (lb 37 511) rfl rfl (by kernel_rfl) rfl rfl (fun w => (y_neq rfl rfl).val (u := .bool false) (congrArg Value.bool (by rw [decide_eq_true e1]; rfl))) ?_
        refine dr_pure (i := 9) (lb 37 1023) rfl rfl (by kernel_rfl) (fun w => y_pickF rfl rfl) ?_
        refine dr_pure (i := 10) (lb 37 2047) rfl rfl (by kernel_rfl) (fun w => y_move rfl) ?_
        refine dr_pureG (i := 11) (lb 37 4095) rfl rfl (by kernel_rfl) rfl rfl (fun w => y_fld fl_42_2 rfl) ?_
        refine dr_readG (i := 12) (lb 37 8191) rfl rfl (by kernel_rfl) rfl rfl ⟨hS.cell rfl, hS.cell rfl, hS.cell rfl, hS.cell rfl, hS.cell rfl, hoy.holds (hS.pull Hy)⟩ (fun w hS => y_load pl_3 rfl hS.2.2.1) ?_
        refine dr_pureG (i := 13) (lb 37 16383) rfl rfl (by kernel_rfl) rfl rfl (fun w => (y_neq rfl rfl).val (u := .bool false) (congrArg Value.bool (by rw [decide_eq_true e2]; rfl))) ?_
        refine dr_pure (i := 14) (lb 37 32767) rfl rfl (by kernel_rfl) (fun w => y_pickF rfl rfl) ?_
        refine dr_pure (i := 15) (lb 37 65535) rfl rfl (by kernel_rfl) (fun w => y_move rfl) ?_
        refine dr_pureG (i := 16) (lb 37 131071) rfl rfl (by kernel_rfl) rfl rfl (fun w => y_move rfl) ?_
        refine dr_pureG (i := 17) (lb 37 262143) rfl rfl (by kernel_rfl) rfl rfl (fun w => y_len_sl Tryz.underlying32 rfl) ?_
        refine dr_pureG (i := 18) (lb 37 524287) rfl rfl (by kernel_rfl) rfl rfl (fun w => y_gtr rfl rfl) ?_
        refine dr_pureG (i := 19) (lb 37 1048575) rfl rfl (by kernel_rfl) rfl rfl (fun w => y_move rfl) ?_
        refine dr_cases (s := 114) rfl (fun hg114 => ?_) (fun hg114 => ?_)
        · try simp only [zq1, zq2, zq3, zq4, zq5, zq6, zq7] at hg114
          obtain ⟨r, hri⟩ : ∃ r, m.j.l[i]? = some r := ⟨_, List.getElem?_eq_getElem (by rw [hba] at hyl; omega)⟩
          obtain ⟨e4, e5⟩ := e3 r hri
          have hjr := (hfit.jr r (List.mem_of_getElem? hri)).1
          have e6 : f.data = str (rbytes r) := by rw [e5, putB_eq hjr]
          obtain ⟨y, hyi, hyr⟩ := hry.at (by rw [hba]; exact hri)
          obtain ⟨bc, og, c2, hse2, _⟩ := (hoy.holds (hS.pull Hy)).at hyi
          simp only [Value.slice.injEq] at hse2
          have hSk2 := hS
          obtain ⟨rfl, _, rfl⟩ := hse2
          replace hS := hSk2
          have hil : i < ys.length := (List.getElem?_eq_some_iff.1 hyi).1
          refine dr_pureG (i := 20) (lb 37 2097151) rfl rfl (by kernel_rfl) rfl rfl (fun w => y_fld fl_42_1 rfl) ?_
          refine dr_pureG (i := 22) (lb 37 6291455) rfl rfl (by kernel_rfl) rfl rfl (fun w => y_move rfl) ?_
          refine dr_pureG (i := 23) (lb 37 14680063) rfl rfl (by kernel_rfl) rfl rfl (fun w => y_add rfl rfl (w64 (by omega) (by omega))) ?_
          refine dr_readG (i := 21) (lb 37 16777215) rfl rfl (by kernel_rfl) rfl rfl ⟨hS.cell rfl, hS.cell rfl, hS.cell rfl, hS.cell rfl, hS.cell rfl, hoy.holds (hS.pull Hy)⟩ (fun w hS => y_load pl_3 rfl hS.2.1) ?_
          refine dr_pureG (i := 24) (lb 37 33554431) rfl rfl (by kernel_rfl) rfl rfl (fun w => (y_neq rfl rfl).val (u := .bool false) (congrArg Value.bool (by rw [decide_eq_true e4]; rfl))) ?_
          refine dr_pureG (i := 25) (lb 37 67108863) rfl rfl (by kernel_rfl) rfl rfl (fun w => y_move rfl) ?_
          refine dr_pureG (i := 26) (lb 37 134217727) rfl rfl (by kernel_rfl) rfl rfl (fun w => y_fld fl_42_3 rfl) ?_
          refine dr_pureG (i := 28) (lb 37 402653183) rfl rfl (by kernel_rfl) rfl rfl (fun w => y_move rfl) ?_
          refine dr_pureG (i := 29) (lb 37 939524095) rfl rfl (by kernel_rfl) rfl rfl (fun w => y_move rfl) ?_
          refine dr_pureG (i := 30) (lb 37 2013265919) rfl rfl (by kernel_rfl) rfl rfl (fun w => y_ixa_sl Tryz.underlying32 sz_48 rfl rfl (by omega) (by omega)) ?_
          refine dr_readG (i := 27) (lb 37 2147483647) rfl rfl (by kernel_rfl) rfl rfl ⟨hS.cell rfl, hS.cell rfl, hS.cell rfl, hS.cell rfl, hS.cell rfl, hoy.holds (hS.pull Hy)⟩ (fun w hS => y_load pl_9 rfl hS.2.2.2.1) ?_
          refine dr_readG (i := 31) (lb 37 4294967295) rfl rfl (by kernel_rfl) rfl rfl ⟨hS.cell rfl, hS.cell rfl, hS.cell rfl, hS.cell rfl, hS.cell rfl, hoy.holds (hS.pull Hy)⟩ (fun w hS => (y_loadS st_48 sz_48 rfl (hS.2.2.2.2.2.atV hyi) rfl).val hyr.val) ?_
          refine dr_do (i := 32) (lb 37 8589934591) rfl (by kernel_rfl) ?_
          refine wl_on rfl rfl ?_
          refine wl_call (.cons rfl .nil) (r7bytes_c r y.s hyr.2.2.1 hjr hS) rfl ?_
          rintro _ w ⟨rfl, hS⟩
          refine wl_nil ⟨fun _ _ => ⟨hS.cell rfl, hS.cell rfl, hS.cell rfl, hS.cell rfl, hS.cell rfl, hoy.holds (hS.pull Hy)⟩, ?_⟩
          refine dr_pureG (i := 33) (lb 37 17179869183) rfl rfl (by kernel_rfl) rfl rfl (fun w => (y_sneq rfl rfl).val (u := .bool false) (congrArg Value.bool (by rw [decide_eq_true e6]; rfl))) ?_
          refine dr_pureG (i := 34) (lb 37 34359738367) rfl rfl (by kernel_rfl) rfl rfl (fun w => y_pickF rfl rfl) ?_
          refine dr_pureG (i := 35) (lb 37 68719476735) rfl rfl (by kernel_rfl) rfl rfl (fun w => y_pickT rfl rfl) ?_
          refine dr_pure (i := 36) (lb 37 137438953471) rfl rfl (by kernel_rfl) (fun w => y_pickF rfl rfl) ?_
          refine dr_done (by kernel_rfl) ?_
          refine wc_ifF rfl rfl ?_
          refine wc_skip ?_
          refine wc_region ?_
          refine wl (y_add rfl rfl (w64 (by omega) (by omega))) rfl ?_
          refine wl (y_move rfl) rfl ?_
          refine wl_nil ?_
          exact ⟨(i + 1, _, _), by simp only; omega, sub_cons rfl (sub_cons rfl (sub_cons rfl (sub_cons rfl (sub_cons rfl sub_nil)))), by omega, rfl, rfl, hS.keep⟩
        · try simp only [zq1, zq2, zq3, zq4, zq5, zq6, zq7] at hg114
          refine dr_off (i := 20) (lb 37 2097151) rfl rfl (by kernel_rfl) rfl rfl rfl ?_
          refine dr_off (i := 22) (lb 37 6291455) rfl rfl (by kernel_rfl) rfl rfl rfl ?_
          refine dr_off (i := 23) (lb 37 14680063) rfl rfl (by kernel_rfl) rfl rfl rfl ?_
          refine dr_off (i := 21) (lb 37 16777215) rfl rfl (by kernel_rfl) rfl rfl rfl ?_
          refine dr_off (i := 24) (lb 37 33554431) rfl rfl (by kernel_rfl) rfl rfl rfl ?_
          refine dr_off (i := 25) (lb 37 67108863) rfl rfl (by kernel_rfl) rfl rfl rfl ?_
          refine dr_offU (i := 26) (lb 37 134217727) rfl rfl (by kernel_rfl) rfl rfl ?_
          refine dr_offU (i := 28) (lb 37 402653183) rfl rfl (by kernel_rfl) rfl rfl ?_
          refine dr_offU (i := 29) (lb 37 939524095) rfl rfl (by kernel_rfl) rfl rfl ?_
          refine dr_offU (i := 30) (lb 37 2013265919) rfl rfl (by kernel_rfl) rfl rfl ?_
          refine dr_offU (i := 27) (lb 37 2147483647) rfl rfl (by kernel_rfl) rfl rfl ?_
          refine dr_offU (i := 31) (lb 37 4294967295) rfl rfl (by kernel_rfl) rfl rfl ?_
          refine dr_offU (i := 32) (lb 37 8589934591) rfl rfl (by kernel_rfl) rfl rfl ?_
          refine dr_offU (i := 33) (lb 37 17179869183) rfl rfl (by kernel_rfl) rfl rfl ?_
          refine dr_off (i := 34) (lb 37 34359738367) rfl rfl (by kernel_rfl) rfl rfl rfl ?_
          refine dr_pureG (i := 35) (lb 37 68719476735) rfl rfl (by kernel_rfl) rfl rfl (fun w => y_pickF rfl rfl) ?_
          refine dr_pure (i := 36) (lb 37 137438953471) rfl rfl (by kernel_rfl) (fun w => y_pickF rfl rfl) ?_
          refine dr_done (by kernel_rfl) ?_
          refine wc_ifF rfl rfl ?_
          refine wc_skip ?_
          refine wc_region ?_
          refine wl (y_add rfl rfl (w64 (by omega) (by omega))) rfl ?_
          refine wl (y_move rfl) rfl ?_
          refine wl_nil ?_
          exact ⟨(i + 1, _, _), by simp only; omega, sub_cons rfl (sub_cons rfl (sub_cons rfl (sub_cons rfl (sub_cons rfl sub_nil)))), by omega, rfl, rfl, hS.keep⟩
      · try simp only [zq1, zq2, zq3, zq4, zq5, zq6, zq7] at hc85
        refine wc_exit ?_
        refine wc_seq ?_
        refine wc_region ?_
        refine wl (y_assign rfl) rfl ?_
        refine wl_nil ?_
        refine wc_ret ?_
        refine wret (vs := [_]) (.tmp rfl .nil) ?_
        first
        | exact ⟨M8, hMd, rfl, hS.keep⟩
        | exact ⟨M6, hMc.trans hM6, rfl, hS.keep⟩
        | exact ⟨M2, hM1.trans hM2, rfl, hS.keep⟩
end
end Go.Proofs.YtndahppmjdbifaaGreatDoor.Nod

set_option linter.unusedVariables false
set_option linter.unusedSimpArgs false
namespace Go.Proofs.YtndahppmjdbifaaGreatDoor.Eng
open Go Go.RowKit

/-! ### the start of a law's call -/
def mem0 (w : World) : Mem := ⟨fun b => w.heap[b]?, w.os, w.output, w.tape⟩
theorem st0 (w : World) : St (mem0 w) w [] := ⟨fun b o h => h, by simp, by simp, by simp, rfl, rfl, rfl⟩
theorem below_of {M : Mem} {w w' : World} {Ls : List Chunk} (h : St M w' Ls) (hm : Mle (mem0 w) M) : Below w.heap.size w w' := by
  have hk : ∀ k, k < w.heap.size → w'.heap[k]? = w.heap[k]? := by
    intro k hk
    have h1 : w.heap[k]? = some w.heap[k] := by simp [hk]
    rw [h1]
    exact h.imm k _ (hm.1 k _ h1)
  refine ⟨h.io.1.trans hm.2.1, h.io.2.2.trans hm.2.2.2, h.io.2.1.trans hm.2.2.1, ?_, hk⟩
  rcases Nat.lt_or_ge 0 w.heap.size with h0 | h0
  · have := hk (w.heap.size - 1) (by omega)
    rcases Nat.lt_or_ge (w.heap.size - 1) w'.heap.size with h1 | h1
    · omega
    · rw [Array.getElem?_eq_none h1] at this
      have h2 : w.heap[w.heap.size - 1]? = some (w.heap[w.heap.size - 1]'(by omega)) := by simp [h0]
      rw [h2] at this; cases this
  · omega

theorem trodAll_below {H : Type} {enc : TypeId × Value → H} {P : Program} (hl : laidOutB P = true) {W W' : World} (hb : Below W.heap.size W W') :
    ∀ {ts : List TypeId} {vs : List Value} {ds : List (DataW H)} {ps : List MemPlace}, ts.all (fun t => P.readableRec t && decide (t < P.types.size)) = true → (∀ x ∈ ps, x.block < W.heap.size) →
    DataW.TrodAll enc P W 0 (fun _ => true) true ts vs ds ps → DataW.TrodAll enc P W' 0 (fun b => decide (b < W.heap.size)) true ts vs ds ps
  | [], vs, ds, ps, _, _, h => by
    obtain ⟨rfl, rfl, rfl⟩ := ChangeShapes.trodAll_nil h
    exact ChangeShapes.trodAll_mk0
  | t :: ts, vs, ds, ps, ht, hlt, h => by
    obtain ⟨v, vs', d, ds', p, q, rfl, rfl, rfl, h1, h2⟩ := ChangeShapes.trodAll_cons h
    simp only [List.all_cons, Bool.and_eq_true, decide_eq_true_eq] at ht
    exact Go.trodAll_cons_mk (Below.trod hl ht.1.1 ht.1.2 h1 hb fun x hx => hlt x (List.mem_append_left _ hx)) (trodAll_below hl hb ht.2 (fun x hx => hlt x (List.mem_append_right _ hx)) h2)

theorem u32_wf {a : Int} (h : (Lit.int .u32 a).wf = true) : ∃ x : BitVec 32, a = (x.toNat : Int) := by
  have h' := bounds_u32 h
  exact ⟨BitVec.ofNat 32 a.toNat, by rw [BitVec.toNat_ofNat]; omega⟩
theorem i64_wf {a : Int} (h : (Lit.int .i64 a).wf = true) : -9223372036854775808 ≤ a ∧ a ≤ 9223372036854775807 := bounds_i64 h
/-- A law's end: it told true; of what was there nothing turned. -/
theorem law_post {H : Type} {enc : TypeId × Value → H} {P : Program} {f : Func} {s : ChangeSpec} {W W' : World} {args : Array Value} {ds gs : List (DataW H)} {before : List MemPlace} {tb : TypeId}
    (hl : laidOutB P = true) (hp : f.params.toList.all (fun t => P.readableRec t && decide (t < P.types.size)) = true) (hv : varsRowed P s.vars = true) (hr : f.resultTypes = #[tb]) (hb : P.underlying tb = some .bool)
    (hW : DataW.Whole enc P f.params.toList s.vars false W args.toList ds gs before) (hspec : s.fn H (ds ++ gs) = { results := [.lit (.bool true)], args := ds, vars := gs }) (hB : Below W.heap.size W W') :
    s.post enc P f false true false false W args (.bool true) W' := by
  have hlt := hW.lt
  obtain ⟨p, q, hA, hV, rfl, hfz, hnd⟩ := hW
  refine ⟨ds, gs, p ++ q, [], p, q, ⟨p, q, hA, hV, rfl, hfz, hnd⟩, ?_, ?_, ?_, hB.frame _, fun h => by cases h⟩
  · rw [hspec, hr]
    exact Go.trodAll_cons_mk (shut_bool hb true) ChangeShapes.trodAll_mk0
  · rw [hspec]
    exact trodAll_below hl hB hp (fun x hx => hlt x (List.mem_append_left _ hx)) hA
  · rw [hspec]
    exact Below.trodVars hl hB hv hV
end Go.Proofs.YtndahppmjdbifaaGreatDoor.Eng

set_option linter.unusedVariables false
set_option linter.unusedSimpArgs false
namespace Go.Proofs.YtndahppmjdbifaaGreatDoor.Eng
open Go Go.RowKit Go.WideShapes

/-! ### what the arguments of a law hold: structs of numbers, bools and texts, and slices of these -/
inductive Lf
  | int (k : IntKind)
  | str
  | boo
def LfOk : Lf → Value → Prop
  | .int k, v => ∃ n, v = .int k n ∧ (Lit.int k n).wf = true
  | .str, v => ∃ s : ByteArray, v = .string s ∧ s.size ≤ maxLen
  | .boo, v => ∃ b, v = .bool b
/-- the leaves of types that lie at offsets -/
inductive Lvs (P : Program) : List (TypeId × Nat) → List (Nat × Lf) → Prop
  | nil : Lvs P [] []
  | int {t o : Nat} {k : IntKind} {rest : List (TypeId × Nat)} {ls : List (Nat × Lf)} : P.underlying t = some (.int k) → Lvs P rest ls → Lvs P ((t, o) :: rest) ((o, .int k) :: ls)
  | str {t o : Nat} {rest : List (TypeId × Nat)} {ls : List (Nat × Lf)} : P.underlying t = some .string → Lvs P rest ls → Lvs P ((t, o) :: rest) ((o, .str) :: ls)
  | boo {t o : Nat} {rest : List (TypeId × Nat)} {ls : List (Nat × Lf)} : P.underlying t = some .bool → Lvs P rest ls → Lvs P ((t, o) :: rest) ((o, .boo) :: ls)
  | st {t o : Nat} {fs : List Field} {rest : List (TypeId × Nat)} {ls : List (Nat × Lf)} : P.underlying t = some (.struct fs.toArray) → fs.all (fun f => Nat.ble (f.offset + P.cellsOf f.type) (P.cellsOf t)) = true → Lvs P (fs.map (fun f => (f.type, o + f.offset)) ++ rest) ls → Lvs P ((t, o) :: rest) ls
theorem cut_one {cs : List Value} {o c : Nat} {v : Value} (h : (cs.drop o).take c = [v]) : cs[o]? = some v := by
  have h1 : ((cs.drop o).take c)[0]? = some v := by rw [h]; rfl
  rw [List.getElem?_take] at h1
  split at h1
  · simpa using h1
  · cases h1
section
variable {H : Type} {enc : TypeId × Value → H} {P : Program} {w : World} {base : Nat} {spare : Nat → Bool} {held : Bool}
theorem Lvs.of {L : List (TypeId × Nat)} {ls : List (Nat × Lf)} (hl : Lvs P L ls) {cs : List Value} (h : ∀ p ∈ L, ∃ fuel x, DataW.trod enc P w base spare held fuel p.1 ((cs.drop p.2).take (P.cellsOf p.1)) = some x) : ∀ q ∈ ls, ∃ v, cs[q.1]? = some v ∧ LfOk q.2 v := by
  induction hl with
  | nil => intro q hq; cases hq
  | int ht _ ih =>
    intro q hq
    rcases List.mem_cons.1 hq with rfl | hq
    · obtain ⟨fuel, x, hx⟩ := h _ List.mem_cons_self
      obtain ⟨n, h1, _, h3⟩ := DataW.trod_int ht hx
      exact ⟨_, cut_one h1, n, rfl, h3⟩
    · exact ih (fun p hp => h p (List.mem_cons_of_mem _ hp)) q hq
  | str ht _ ih =>
    intro q hq
    rcases List.mem_cons.1 hq with rfl | hq
    · obtain ⟨fuel, x, hx⟩ := h _ List.mem_cons_self
      obtain ⟨s, h1, _, h3⟩ := DataW.trod_string ht hx
      exact ⟨_, cut_one h1, s, rfl, h3⟩
    · exact ih (fun p hp => h p (List.mem_cons_of_mem _ hp)) q hq
  | boo ht _ ih =>
    intro q hq
    rcases List.mem_cons.1 hq with rfl | hq
    · obtain ⟨fuel, x, hx⟩ := h _ List.mem_cons_self
      obtain ⟨b, h1, _⟩ := DataW.trod_bool ht hx
      exact ⟨_, cut_one h1, b, rfl⟩
    · exact ih (fun p hp => h p (List.mem_cons_of_mem _ hp)) q hq
  | @st t o fs rest ls ht hf _ ih =>
    refine ih fun p hp => ?_
    rcases List.mem_append.1 hp with hp | hp
    · obtain ⟨fuel, x, hx⟩ := h _ List.mem_cons_self
      obtain ⟨xs, n, _, _, _, hlen, hall⟩ := DataW.trod_struct ht hx
      obtain ⟨f, hfm, rfl⟩ := List.mem_map.1 hp
      obtain ⟨i, hi⟩ := List.getElem?_of_mem hfm
      have hle : f.offset + P.cellsOf f.type ≤ P.cellsOf t := Nat.le_of_ble_eq_true (List.all_eq_true.1 hf f hfm)
      have h1 := hall i f (by simpa using hi)
      have hil : i < xs.length := by rw [hlen]; simpa using (List.getElem?_eq_some_iff.1 hi).1
      rw [List.getElem?_eq_getElem hil] at h1
      refine ⟨n, xs[i], ?_⟩
      rw [← h1]
      congr 1
      simp only []
      rw [List.drop_take, List.take_take, List.drop_drop, Nat.min_eq_left (by omega)]
    · exact h p (List.mem_cons_of_mem _ hp)
/-- an argument that is a struct -/
theorem open_st {r : Reach} {b0 t : Nat} {fs : Array Field} {v : Value} {d : DataW H} {p : List MemPlace} {ls : List (Nat × Lf)} (ht : P.underlying t = some (.struct fs)) (hL : Lvs P [(t, 0)] ls) (hv : Value.okWide P w r b0 t v) (h : DataW.Trod enc P w base spare held t v d p) :
    ∃ cs : List Value, v = .agg cs.toArray ∧ cs.length = P.cellsOf t ∧ ∀ q ∈ ls, ∃ u, cs[q.1]? = some u ∧ LfOk q.2 u := by
  obtain ⟨cs, rfl, hsz⟩ := okWide_struct ht hv
  obtain ⟨fuel, hf⟩ := h
  have hf' : DataW.trod enc P w base spare held fuel t cs.toList = some (d, p) := hf
  refine ⟨cs.toList, by simp, by simpa using hsz, hL.of (enc := enc) (w := w) (base := base) (spare := spare) (held := held) ?_⟩
  intro q hq
  simp only [List.mem_singleton] at hq
  subst hq
  refine ⟨fuel, (d, p), ?_⟩
  simp only [List.drop_zero]
  rw [List.take_of_length_le (by simpa using Nat.le_of_eq hsz)]
  exact hf'
theorem spot_none {a : Addr} {v : Value} (h : w.cell? a = some v) : a = ⟨a.block, a.off, none⟩ ∧ ∃ cs e fz, w.heap[a.block]? = some (.cells cs e fz) ∧ cs[a.off]? = some v := by
  unfold World.cell? at h
  split at h
  · rename_i cs e fz hh
    split at h
    · cases h
    · rename_i hs
      refine ⟨?_, cs, e, fz, hh, h⟩
      cases a; simp at hs; simp [hs]
  · cases h
theorem Enc.flat_inv {α : Type} {A : Enc α} : ∀ {xs : List α} {j : Nat} {v : Value}, (xs.flatMap A.f)[j]? = some v → ∃ i x r, xs[i]? = some x ∧ (A.f x)[r]? = some v ∧ j = i * A.k + r
  | [], j, v, h => by simp at h
  | x :: xs, j, v, h => by
    simp only [List.flatMap_cons] at h
    by_cases hj : j < (A.f x).length
    · rw [List.getElem?_append_left hj] at h
      exact ⟨0, x, j, rfl, h, by simp⟩
    · rw [List.getElem?_append_right (by omega)] at h
      obtain ⟨i, y, r, h1, h2, h3⟩ := Enc.flat_inv h
      refine ⟨i + 1, y, r, by simpa using h1, h2, ?_⟩
      rw [A.len] at h3 hj
      rw [Nat.add_mul, Nat.one_mul]
      omega
/-- a slice of structs -/
theorem open_sl' {α : Type} (A : Enc α) {t e fuel : Nat} {v : Value} {x : DataW H × List MemPlace} {ls : List (Nat × Lf)} (ht : P.underlying t = some (.slice e)) (hk : P.cellsOf e = A.k) (hk0 : 0 < A.k) (hL : Lvs P [(e, 0)] ls)
    (hA : ∀ cs : List Value, cs.length = A.k → (∀ q ∈ ls, ∃ u, cs[q.1]? = some u ∧ LfOk q.2 u) → ∃ x, A.f x = cs)
    (h : DataW.trod enc P w base (fun _ => true) held fuel t [v] = some x) :
    ∃ xs : List α, Rd (mem0 w) A v xs ∧ xs.length ≤ maxLen := by
  obtain ⟨a, len, cap, hvs⟩ := Joins.slice_form ht h
  simp only [List.cons.injEq, and_true] at hvs
  subst hvs
  have hf' := h
  rcases Deep.open_slice ht hf' with ⟨hcs, _⟩ | ⟨a', len', cap', m, n, D, Pl, hcs, hb, hlc, hcm, hm, _, hel⟩
  · simp only [List.cons.injEq, Value.slice.injEq, and_true] at hcs
    obtain ⟨rfl, rfl, rfl⟩ := hcs
    exact ⟨[], ⟨_, _, rfl, .inl rfl⟩, Nat.zero_le _⟩
  · simp only [List.cons.injEq, Value.slice.injEq, and_true] at hcs
    obtain ⟨rfl, rfl, rfl⟩ := hcs
    simp only [if_true] at hm
    subst hm
    have one : ∀ i, i < len → ∃ x, w.cells? base (a'.add (i * A.k)) A.k = some (A.f x) := by
      intro i hi
      obtain ⟨cs', h1, h2⟩ := hel i (by omega)
      rw [hk] at h1
      obtain ⟨_, hlen, _⟩ := World.cells?_some h1
      obtain ⟨x, rfl⟩ := hA cs' hlen (hL.of (enc := enc) (w := w) (base := base) (spare := fun _ => true) (held := held) fun q hq => by
        simp only [List.mem_singleton] at hq
        subst hq
        refine ⟨n, (D i, Pl i), ?_⟩
        simp only [List.drop_zero]
        rw [List.take_of_length_le (by rw [hk]; exact Nat.le_of_eq hlen)]
        exact h2)
      exact ⟨x, h1⟩
    have build : ∀ n, n ≤ len → ∃ xs : List α, xs.length = n ∧ ∀ i x, xs[i]? = some x → w.cells? base (a'.add (i * A.k)) A.k = some (A.f x) := by
      intro n
      induction n with
      | zero => exact fun _ => ⟨[], rfl, fun i x hx => by simp at hx⟩
      | succ n ih =>
        intro hn
        obtain ⟨xs, h1, h2⟩ := ih (by omega)
        obtain ⟨x, hx⟩ := one n (by omega)
        refine ⟨xs ++ [x], by simp [h1], fun i y hy => ?_⟩
        rcases Nat.lt_or_ge i n with hi | hi
        · rw [List.getElem?_append_left (by omega)] at hy; exact h2 i y hy
        · rw [List.getElem?_append_right (by omega)] at hy
          have : i - xs.length = 0 := by
            rcases Nat.eq_zero_or_pos (i - xs.length) with h | h
            · exact h
            · rw [List.getElem?_eq_none (by simp; omega)] at hy; cases hy
          rw [this] at hy
          simp only [List.getElem?_cons_zero, Option.some.injEq] at hy
          subst hy
          rw [show i = n by omega]; exact hx
    obtain ⟨xs, hxl, hx⟩ := build len (Nat.le_refl _)
    refine ⟨xs, ⟨some a', _, by rw [hxl], ?_⟩, by omega⟩
    cases xs with
    | nil => exact .inl rfl
    | cons x0 xs0 =>
      right
      have h0 := hx 0 x0 rfl
      rw [Nat.zero_mul] at h0
      obtain ⟨_, _, hc0⟩ := World.cells?_some h0
      have hv0 : ∃ v0, (A.f x0)[0]? = some v0 := ⟨_, List.getElem?_eq_getElem (by rw [A.len]; exact hk0)⟩
      obtain ⟨v0, hv0⟩ := hv0
      have hcell := (hc0 0 hk0).trans hv0
      have hadd0 : (a'.add 0).add 0 = a' := by simp [Addr.add]
      rw [hadd0] at hcell
      obtain ⟨hsp, cs, e', fz, hh, _⟩ := spot_none hcell
      refine ⟨a'.block, a'.off, cs, e', fz, by rw [← hsp], hh, fun j v hj => ?_⟩
      obtain ⟨i, x, r, h1, h2, rfl⟩ := Enc.flat_inv hj
      have hi := hx i x h1
      obtain ⟨_, _, hci⟩ := World.cells?_some hi
      have hr : r < A.k := by rw [← A.len x]; exact (List.getElem?_eq_some_iff.1 h2).1
      have hc := (hci r hr).trans h2
      rw [hsp, Addr.add_mk, Addr.add_mk] at hc
      unfold World.cell? at hc
      rw [hh] at hc
      simp only [Option.isSome_none, Bool.false_eq_true, if_false] at hc
      rw [← hc]
      congr 1
      omega
/-- an argument that is a slice of structs -/
theorem open_sl {α : Type} (A : Enc α) {r : Reach} {b0 t e : Nat} {v : Value} {d : DataW H} {p : List MemPlace} {ls : List (Nat × Lf)} (ht : P.underlying t = some (.slice e)) (hk : P.cellsOf e = A.k) (hk0 : 0 < A.k) (hL : Lvs P [(e, 0)] ls)
    (hA : ∀ cs : List Value, cs.length = A.k → (∀ q ∈ ls, ∃ u, cs[q.1]? = some u ∧ LfOk q.2 u) → ∃ x, A.f x = cs)
    (hv : Value.okWide P w r b0 t v) (h : DataW.Trod enc P w base (fun _ => true) held t v d p) :
    ∃ xs : List α, Rd (mem0 w) A v xs ∧ xs.length ≤ maxLen := by
  obtain ⟨a, len, cap, rfl⟩ := okWide_slice ht hv
  obtain ⟨fuel, hf⟩ := h
  exact open_sl' A ht hk hk0 hL hA (show DataW.trod enc P w base (fun _ => true) held fuel t [.slice a len cap] = some (d, p) from hf)
end
end Go.Proofs.YtndahppmjdbifaaGreatDoor.Eng

set_option linter.unusedVariables false
set_option linter.unusedSimpArgs false
set_option maxRecDepth 100000
namespace Go.Proofs.YtndahppmjdbifaaGreatDoor.Nod
open Go Go.Proofs Go.RowKit Go.Proofs.YtndahppmjdbifaaGreatDoor.Eng Go.Proofs.YtndahppmjdbifaaGreatDoor.Pre Go.Proofs.YtndahppmjdbifaaGreatDoor.Val
/-- the lengths of a number's spelling, as the program's text lays them -/
def laidBits : List (String × DataW Unit) := [("chapbook/prefix.bits", Rows.laid_chapbook_prefix_bits)]
theorem gBits : Tryz.prog.globalNamed "chapbook/prefix.bits" = some 0 := by kernel_rfl
theorem tBits : (Tryz.prog.globals[0]?).map (·.type) = some 263 := by kernel_rfl
theorem cellsBits : Tryz.prog.cellsOf 263 = 4 := by kernel_rfl
theorem cellsU64 : Tryz.prog.cellsOf 252 = 1 := by kernel_rfl
theorem bits_of {W : World} (h : laidMetH Tryz.prog laidBits W) : Bits (mem0 W) := by
  rw [MakeChecks.laidMetH_plain _ _ _ (by kernel_rfl)] at h
  obtain ⟨ps, ⟨g0, t0, cs0, f0, p0, q0, hg0, ht0, hv0, hd0, _, _⟩, _, _⟩ := h
  obtain rfl := Option.some.inj (gBits.symm.trans hg0)
  obtain rfl := Option.some.inj (tBits.symm.trans ht0)
  obtain ⟨xs, m1, rfl, hx1, hlen, hn, hel⟩ := DataW.trod_array Tryz.underlying263 hd0
  rw [cellsBits] at hlen
  have hcells : ∃ T fz, W.heap[0]? = some (.cells cs0 T fz) := by
    simp only [World.var?, hg0, Option.bind_some] at hv0
    split at hv0
    · rename_i c e fz hh; cases hv0; exact ⟨e, fz, hh⟩
    · cases hv0
  obtain ⟨T, fz, hh⟩ := hcells
  refine ⟨T, fz, ?_⟩
  have hone : ∀ i, i < 4 → ∃ n x, cs0.toList[i]? = some (.int .u64 n) ∧ xs[i]? = some x ∧ x.1 = .lit (.int .u64 n) := by
    intro i hi
    have h1 := hel i hi
    rw [List.getElem?_eq_getElem (by omega)] at h1
    obtain ⟨n, e1, e2, _⟩ := DataW.trod_int Tryz.underlying252 h1
    rw [cellsU64, Nat.mul_one] at e1
    exact ⟨n, _, cut_one e1, List.getElem?_eq_getElem (by omega), by rw [e2]⟩
  simp only [Prod.mk.injEq, Rows.laid_chapbook_prefix_bits, DataW.agg.injEq] at hx1
  obtain ⟨n0, x0, a0, b0, c0⟩ := hone 0 (by decide)
  obtain ⟨n1, x1, a1, b1, c1⟩ := hone 1 (by decide)
  obtain ⟨n2, x2, a2, b2, c2⟩ := hone 2 (by decide)
  obtain ⟨n3, x3, a3, b3, c3⟩ := hone 3 (by decide)
  have hm := hx1.1
  have k0 := congrArg (fun l => l[0]?) hm
  have k1 := congrArg (fun l => l[1]?) hm
  have k2 := congrArg (fun l => l[2]?) hm
  have k3 := congrArg (fun l => l[3]?) hm
  simp only [List.getElem?_map, b0, b1, b2, b3, Option.map_some, c0, c1, c2, c3, List.getElem?_cons_zero, List.getElem?_cons_succ, Option.some.injEq, DataW.lit.injEq, Lit.int.injEq, true_and] at k0 k1 k2 k3
  subst k0 k1 k2 k3
  show W.heap[0]? = _
  rw [hh]
  congr 2
  obtain ⟨l⟩ := cs0
  simp only at hlen a0 a1 a2 a3
  match l, hlen with
  | [y0, y1, y2, y3], _ =>
    simp only [List.getElem?_cons_zero, List.getElem?_cons_succ, Option.some.injEq] at a0 a1 a2 a3
    subst a0 a1 a2 a3
    rfl
theorem bits_met (os : Os) (args : Array Value) : laidMetH Tryz.prog laidBits ((World.doorLaid Tryz.prog 400 os).forCall (fun _ _ => 0) ⟨#[], args, []⟩).memory :=
  laidMetH_of_parts3 (fuel := 8) (laidMet_of_run' 8 (by kernel_rfl) (by kernel_rfl)) (by kernel_rfl) (by kernel_rfl)
section
variable {H : Type} {enc : TypeId × Value → H} {w : World} {base : Nat} {held : Bool}
theorem lvs_cfg : Lvs Tryz.prog [(23, 0)] [(0, .int .i64), (1, .int .i64), (2, .int .i64), (3, .int .i64), (4, .int .i64), (5, .int .i64)] :=
  .st Tryz.underlying23 (by kernel_rfl) (.int Tryz.underlying3 (.int Tryz.underlying3 (.int Tryz.underlying3 (.int Tryz.underlying3 (.int Tryz.underlying3 (.int Tryz.underlying3 .nil))))))
theorem open_cfg {r : Reach} {b0 : Nat} {v : Value} {d : DataW H} {p : List MemPlace} {spare : Nat → Bool} (hv : Value.okWide Tryz.prog w r b0 23 v) (h : DataW.Trod enc Tryz.prog w base spare held 23 v d p) : ∃ c, v = cfgV c := by
  obtain ⟨cs, rfl, hl, hq⟩ := open_st Tryz.underlying23 lvs_cfg hv h
  rw [show Tryz.prog.cellsOf 23 = 6 by kernel_rfl] at hl
  match cs, hl with
  | [y0, y1, y2, y3, y4, y5], _ =>
    simp only [List.mem_cons, List.not_mem_nil, or_false, forall_eq_or_imp, forall_eq, List.getElem?_cons_zero, List.getElem?_cons_succ, Option.some.injEq, exists_eq_left', LfOk] at hq
    obtain ⟨⟨n0, rfl, _⟩, ⟨n1, rfl, _⟩, ⟨n2, rfl, _⟩, ⟨n3, rfl, _⟩, ⟨n4, rfl, _⟩, ⟨n5, rfl, _⟩⟩ := hq
    exact ⟨⟨n0, n1, n2, n3, n4, n5⟩, rfl⟩
theorem lvs_act : Lvs Tryz.prog [(61, 0)] [(0, .int .i64), (1, .str), (2, .int .i64), (3, .int .i64), (4, .str), (5, .str)] :=
  .st Tryz.underlying61 (by kernel_rfl) (.int Tryz.underlying3 (.st Tryz.underlying59 (by kernel_rfl) (.str Tryz.underlying9 (.int Tryz.underlying3 (.int Tryz.underlying2 (.str Tryz.underlying9 (.str Tryz.underlying9 .nil)))))))
theorem act_of (cs : List Value) (hl : cs.length = encA.k) (hq : ∀ q ∈ [(0, Lf.int .i64), (1, .str), (2, .int .i64), (3, .int .i64), (4, .str), (5, .str)], ∃ u, cs[q.1]? = some u ∧ LfOk q.2 u) : ∃ x, encA.f x = cs := by
  replace hl : cs.length = 6 := hl
  match cs, hl with
  | [y0, y1, y2, y3, y4, y5], _ =>
    simp only [List.mem_cons, List.not_mem_nil, or_false, forall_eq_or_imp, forall_eq, List.getElem?_cons_zero, List.getElem?_cons_succ, Option.some.injEq, exists_eq_left', LfOk] at hq
    obtain ⟨⟨n0, rfl, _⟩, ⟨n1, rfl, _⟩, ⟨n2, rfl, _⟩, ⟨n3, rfl, _⟩, ⟨n4, rfl, _⟩, ⟨n5, rfl, _⟩⟩ := hq
    exact ⟨⟨n0, ⟨n1, n2, n3, n4⟩, n5⟩, rfl⟩
theorem cellsAct : Tryz.prog.cellsOf 61 = 6 := by kernel_rfl
theorem open_acts {r : Reach} {b0 : Nat} {v : Value} {d : DataW H} {p : List MemPlace} (hv : Value.okWide Tryz.prog w r b0 24 v) (h : DataW.Trod enc Tryz.prog w base (fun _ => true) held 24 v d p) : ∃ l, Rd (mem0 w) encA v l := by
  obtain ⟨xs, hx, _⟩ := open_sl encA Tryz.underlying24 cellsAct (by decide) lvs_act act_of hv h
  exact ⟨xs, hx⟩
theorem open_strange {r : Reach} {b0 : Nat} {v : Value} {d : DataW H} {p : List MemPlace} (hv : Value.okWide Tryz.prog w r b0 51 v) (h : DataW.Trod enc Tryz.prog w base (fun _ => true) held 51 v d p) : ∃ l s u, v = .agg [u, .string s].toArray ∧ Rd (mem0 w) encA u l := by
  obtain ⟨v0, v1, y0, y1, n, rfl, _, _, h0, h1⟩ := Joins.open_agg2 Tryz.underlying51 (by kernel_rfl) (by kernel_rfl) hv h
  obtain ⟨s, hs, _⟩ := DataW.trod_string Tryz.underlying9 h1
  simp only [List.cons.injEq, and_true] at hs
  subst hs
  obtain ⟨xs, hx, _⟩ := open_sl' encA Tryz.underlying24 cellsAct (by decide) lvs_act act_of h0
  exact ⟨xs, s, v0, rfl, hx⟩
end
end Go.Proofs.YtndahppmjdbifaaGreatDoor.Nod

/-
  NodeResets holds: a reset keeps the epoch, which is one more, and the journal; nothing is known, open, or has come, and all pushed rounds are pending, and sent again. No condition beyond the row's own: prefix.bits holds what the program's text lays.
-/
namespace Go.Proofs.YtndahppmjdbifaaGreatDoor.nodeResets
open Go Go.Proofs Go.ChangeShapes Go.WideShapes Go.ChangeAt Go.RowKit Go.Proofs.YtndahppmjdbifaaGreatDoor.Eng Go.Proofs.YtndahppmjdbifaaGreatDoor.Pre Go.Proofs.YtndahppmjdbifaaGreatDoor.Nod
open Go.ChangeMaps (open_string shut_string)
set_option linter.unusedVariables false
theorem own : ownKnob Tryz.prog.godebug = none := by kernel_rfl
theorem laid_ : laidOutB Tryz.prog = true := by kernel_rfl
theorem walk (w : World) (hG : Bits (mem0 w)) (a0 : Cfg) (a1 : Int) (w1 : (Lit.int .i64 a1).wf = true) (a2 : List Nod.Act) (v2 : Value) (g2 : Rd (mem0 w) encA v2 a2) :
    Calls Tryz.prog 3 #[cfgV a0, .int .i64 a1, v2] w fun e w' => e = .returned (.bool true) ∧ Below w.heap.size w w' := by
  obtain ⟨b2, c2, rfl⟩ := (g2.holds (st0 w)).slice
  exact (NodeResets_c hG a0 a1 a2 _ g2 (st0 w)).2.mono fun e w' ⟨v, he, M, hM, hv, hS⟩ => ⟨by rw [he, hv], below_of hS hM⟩
set_option maxRecDepth 100000 in
theorem lifted (os : Os) (started : os.Started) (H : Type) (enc : TypeId × Value → H) :
    ReturnsInHanded {} Tryz.checked os 3 .any (fun w args => (Rows.nodeResetsSpec.pre enc Tryz.prog Tryz.f3 [] false w args ∧ laidMetH Tryz.prog laidBits w) ∧ sizedMet enc Tryz.prog Tryz.f3 (OpenSpec.ofChange Rows.nodeResetsSpec) false w args)
      (Rows.nodeResetsSpec.post enc Tryz.prog Tryz.f3 false true false false) := by
  refine returnsInHanded_of_change_and (C := Tryz.checked) (X := fun w _ => laidMetH Tryz.prog laidBits w) (fun _ _ _ hh h => h.of_heap hh) own started (by kernel_rfl) Tryz.func3
    (ChangeSpec.witness_shaped (enc := enc) (C := Tryz.checked) (os := os) (X := fun w _ => laidMetH Tryz.prog laidBits w) false (World.doorLaid Tryz.prog 400 os) #[.agg #[.int .i64 0, .int .i64 0, .int .i64 0, .int .i64 0, .int .i64 0, .int .i64 0], .int .i64 0, .slice none 0 0] 8 rfl (World.shaped_of_RefB (by kernel_rfl) (by kernel_rfl)) (by kernel_rfl) (by kernel_rfl) (by kernel_rfl) (bits_met os _)) ?_
  intro W base args ds gs before hval0 hW _ _ hL _
  have hval : ∀ (j : Nat) t v, Tryz.f3.params[j]? = some t → args[j]? = some v → Value.okWide Tryz.prog W .any base t v := hval0
  have hW' := hW
  obtain ⟨p, q, hA0, hV, rfl, hfz, hnd⟩ := hW
  have hA : DataW.TrodAll enc Tryz.prog W 0 (fun _ => true) true Tryz.f3.params.toList args.toList ds p := hA0
  rw [Tryz.params3] at hA hval
  obtain ⟨v0, vs0, d0, ds0, p0, q0, hargs, rfl, rfl, h0, r0⟩ := trodAll_cons hA
  obtain ⟨v1, vs1, d1, ds1, p1, q1, rfl, rfl, rfl, h1, r1⟩ := trodAll_cons r0
  obtain ⟨v2, vs2, d2, ds2, p2, q2, rfl, rfl, rfl, h2, r2⟩ := trodAll_cons r1
  obtain ⟨rfl, rfl, rfl⟩ := trodAll_nil r2
  obtain rfl : args = #[v0, v1, v2] := by cases args; simp_all
  obtain ⟨rfl, rfl⟩ := trodVars_none hV
  obtain ⟨a0, rfl⟩ := open_cfg (hval 0 23 v0 rfl rfl) h0
  obtain ⟨a1, rfl, rfl, rfl, w1⟩ := open_int Tryz.underlying3 (hval 1 3 v1 rfl rfl) h1
  obtain ⟨a2, g2⟩ := open_acts (hval 2 24 v2 rfl rfl) h2
  refine (walk W (bits_of hL) a0 a1 w1 a2 v2 g2).mono fun e W' ⟨he, hg⟩ => ?_
  subst he
  exact ⟨_, rfl, law_post laid_ (by kernel_rfl) (by kernel_rfl) rfl Tryz.underlying4 hW' rfl hg⟩

theorem over : Rows.nodeResetsRow.holds Tryz.pinned (OpenSpec.ofChange Rows.nodeResetsSpec) :=
  OpenClaim.holds_of_wide 3 Tryz.f3 rfl rfl rfl rfl rfl rfl rfl ⟨rfl, rfl, rfl, rfl, rfl⟩ rfl rfl rfl rfl rfl (by kernel_rfl) Tryz.func3 (by kernel_rfl)
    (of_decide_eq_true (by kernel_rfl)) (by unfold Func.isWrapper; first | (rw [if_pos (by decide +kernel)]; kernel_rfl) | (rw [if_neg (by decide +kernel)]; exact ⟨rfl, rfl⟩))
    (fun os started H enc _ => lifted os started H enc)

set_option maxRecDepth 100000 in
theorem proved : Rows.NodeResetsCardSaid :=
  Claim7.holds_tied_plain_at .later [] [.data] true (true, "67b0996c903ca52b6a14ede8c9960722141bb73d263f4f25cb690ebd8fa2589f") false
    over (fun _ h => by cases h) (by kernel_rfl) (fun _ h => by cases h) nodeResets_row_tie rfl ⟨rfl, rfl⟩ (by kernel_rfl) rfl
    (fun f fn hf hfn => by
      obtain rfl : f = 3 := Option.some.inj ((show Tryz.prog.funcNamed "chapbook/chapbooklaw18.NodeResets" = some 3 by kernel_rfl).symm.trans hf) |>.symm
      obtain rfl : fn = Tryz.f3 := (Option.some.inj (Tryz.func3.symm.trans hfn)).symm
      exact ⟨by kernel_rfl, fun j t ht => by
        rw [Tryz.params3] at ht
        have hm : t ∈ [23, 3, 24] := by
          have hm0 := Array.mem_of_getElem? ht
          simp only [List.mem_toArray, List.mem_cons, List.not_mem_nil, or_false] at hm0 ⊢
          omega
        have hall : ([23, 3, 24].all fun u => !Tryz.prog.wantsStandIn u) = true := by kernel_rfl
        have hx : Tryz.prog.wantsStandIn t = false := by simpa using List.all_eq_true.1 hall t hm
        exact hx⟩)
    (by kernel_rfl)
#print axioms proved
end Go.Proofs.YtndahppmjdbifaaGreatDoor.nodeResets

