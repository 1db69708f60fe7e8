/-
  Part 5 of the proof: NplC, NtkC, StoC, RepC, NinM, LhpC, SamC, LawC, AwaM, AwaC, NsaC, Fin, ArgL, ArgC, SameProof.
-/
import Derived.Test.YtndahppmjdbifaaGreatDoorPd
import Derived.KernelRfl
import Derived.ProofKit
import Derived.Carry
import Derived.OpenVars
import Derived.OpenShut
import Derived.Deep.Slices
import Derived.LaidMore
import Derived.Lib.SmallJoins
import Derived.Test.YtndahppmjdbifaaGreatDoorRows
import Derived.MakeChecks
import Derived.Test.YtndahppmjdbifaaGreatDoorCards
import Derived.Test.YtndahppmjdbifaaGreatDoorTie
import Derived.ShutString
import Derived.Stop.Joined
import Derived.SevenTiedAt
set_option linter.unusedVariables false
set_option linter.unusedSimpArgs false
namespace Go.Proofs.YtndahppmjdbifaaGreatDoor.Nod
open Go Go.Proofs Go.Proofs.YtndahppmjdbifaaGreatDoor.Eng Go.Proofs.YtndahppmjdbifaaGreatDoor.Pre Go.Proofs.YtndahppmjdbifaaGreatDoor.Val Go.Proofs.YtndahppmjdbifaaGreatDoor.Rou Go.Proofs.YtndahppmjdbifaaGreatDoor.Fra Go.Proofs.YtndahppmjdbifaaGreatDoor.Snd Go.Proofs.YtndahppmjdbifaaGreatDoor.Lnk Go.Proofs.YtndahppmjdbifaaGreatDoor.Jnl Go.Proofs.YtndahppmjdbifaaGreatDoor.Cli
/-! ### what came is known -/
def _root_.Go.Proofs.YtndahppmjdbifaaGreatDoor.Cli.Cli.take1 (m : Cli) (d : ByteArray) : Cli := if gre d = 0 then m.take (grr d) else m
def _root_.Go.Proofs.YtndahppmjdbifaaGreatDoor.Cli.Cli.took1 (m : Cli) (d : ByteArray) : Nat := if gre d = 0 ∧ m.takE (grr d) = 0 then 1 else 0
def _root_.Go.Proofs.YtndahppmjdbifaaGreatDoor.Cli.Cli.takeL (m : Cli) : List ByteArray → Cli
  | [] => m
  | d :: l => (m.take1 d).takeL l
def _root_.Go.Proofs.YtndahppmjdbifaaGreatDoor.Cli.Cli.tookL (m : Cli) : List ByteArray → Nat
  | [] => 0
  | d :: l => m.took1 d + (m.take1 d).tookL l
def _root_.Go.Proofs.YtndahppmjdbifaaGreatDoor.Snd.Rcv.came (m : Rcv) : List ByteArray := m.all.drop m.popped
def _root_.Go.Proofs.YtndahppmjdbifaaGreatDoor.Lnk.Lnk.pops (m : Lnk) (i : Nat) : Lnk := ⟨m.ep, m.s, ⟨m.r.room, m.r.all, m.r.popped + min i m.r.wait⟩, m.win, m.room, m.pas⟩
def Nod.pull (m : Nod) : Nod := { m with own := m.own.takeL m.k.r.came, k := m.k.pops m.k.r.wait }
def Nod.pullN (m : Nod) : Nat := m.own.tookL m.k.r.came
theorem Cli.takeL_app (m : Cli) (l k : List ByteArray) : m.takeL (l ++ k) = (m.takeL l).takeL k := by
  induction l generalizing m with
  | nil => rfl
  | cons d l ih => exact ih _
theorem Cli.tookL_app (m : Cli) (l k : List ByteArray) : m.tookL (l ++ k) = m.tookL l + (m.takeL l).tookL k := by
  induction l generalizing m with
  | nil => simp [Cli.tookL, Cli.takeL]
  | cons d l ih => simp only [List.cons_append, Cli.tookL, Cli.takeL, ih, Nat.add_assoc]
theorem Cli.take_known (m : Cli) (r : Rnd) : (m.take r).known.length ≤ m.known.length + 1 := by
  unfold Cli.take; split <;> simp
theorem Cli.take1_known (m : Cli) (d : ByteArray) : (m.take1 d).known.length ≤ m.known.length + 1 := by
  unfold Cli.take1; split
  · exact Cli.take_known _ _
  · omega
theorem Cli.takeL_known (m : Cli) (l : List ByteArray) : (m.takeL l).known.length ≤ m.known.length + l.length := by
  induction l generalizing m with
  | nil => simp [Cli.takeL]
  | cons d l ih => simp only [Cli.takeL, List.length_cons]; have := ih (m.take1 d); have := Cli.take1_known m d; omega
theorem Cli.tookL_le (m : Cli) (l : List ByteArray) : m.tookL l ≤ l.length := by
  induction l generalizing m with
  | nil => simp [Cli.tookL]
  | cons d l ih =>
    simp only [Cli.tookL, List.length_cons]
    have := ih (m.take1 d)
    have : m.took1 d ≤ 1 := by unfold Cli.took1; split <;> omega
    omega
theorem Rcv.came_length (m : Rcv) : m.came.length = m.wait := by unfold Rcv.came Rcv.wait; rw [List.length_drop]
theorem Lnk.pops_0 (m : Lnk) : m.pops 0 = m := by unfold Lnk.pops; simp
theorem Lnk.pops_pop (m : Lnk) (i : Nat) : (m.pops i).pop = m.pops (i + 1) := by
  unfold Lnk.pops Lnk.pop Rcv.pop Rcv.wait
  simp only
  by_cases h : m.r.popped + min i (m.r.all.length - m.r.popped) < m.r.all.length
  · rw [if_pos h]; congr 2; omega
  · rw [if_neg h]; congr 2; omega
theorem Lnk.pops_ok (m : Lnk) (i : Nat) (h : m.ok) : (m.pops i).ok := by
  obtain ⟨h1, h2, h3⟩ := h
  refine ⟨h1, h2, ?_⟩
  unfold Rcv.ok Rcv.wait Lnk.pops at *
  simp only
  unfold Rcv.wait
  omega
def Rcv.pd (m : Rcv) (i : Nat) : ByteArray := (m.came[i]?).getD ⟨#[]⟩
theorem Lnk.pops_popV (m : Lnk) (i : Nat) (h : m.ok) : (m.pops i).r.popV = .tuple [.string (Rcv.pd m.r i), .bool (decide (i < m.r.wait))].toArray := by
  obtain ⟨_, _, _, _, h3, _, _⟩ := h
  unfold Rcv.popV Lnk.pops Rcv.pd Rcv.came
  simp only [List.getElem?_drop]
  by_cases hi : i < m.r.wait
  · rw [Nat.min_eq_left (by omega), decide_eq_true hi]
    unfold Rcv.wait at hi
    rw [List.getElem?_eq_getElem (by omega)]
    rfl
  · rw [Nat.min_eq_right (by omega), decide_eq_false hi]
    unfold Rcv.wait at hi ⊢
    rw [List.getElem?_eq_none (by omega), List.getElem?_eq_none (by omega)]
    rfl
theorem grr_ups (b : ByteArray) (hb : b.size ≤ 140737488351232) : (grr b).ups.length ≤ 8 := by
  obtain ⟨_, _, h3, h4, _⟩ := gr_ok b hb
  unfold grr
  split
  · unfold gr4; simp only; rw [(rups_ok h3 _).2]; exact h4
  · simp
section
variable {M : Mem} {w : World} {Ls : List Chunk}
theorem npull_c (hG : Bits M) {p : Nat} {m : Nod} {H : Chunk} (hk : m.k.ok) (hs : m.small) (hd : ∀ d ∈ m.k.r.all, d.size ≤ 1400) (hb : IsN M p m H) (hS : St M w (H :: Ls)) :
    CallsR Tryz.prog 26 [.pointer (some ⟨p, 0, none⟩)].toArray w fun v w' => ∃ M' H', Mle M M' ∧ v = .int .i64 m.pullN ∧ IsN M' p m.pull H' ∧ St M' w' (H' :: Ls) := by
  obtain ⟨s1, s2, s3, s4⟩ := hs
  obtain ⟨jp, kp, cp, Hj, Hk, Hc, h1, h2, h3, rfl⟩ := hb
  have hcl := Rcv.came_length m.k.r
  have hw16 : m.k.r.wait ≤ 16 := by have := hk.2.2; unfold Rcv.ok at this; omega
  have hda : ∀ d ∈ m.k.r.came, d.size ≤ 1400 := fun d hd' => hd d (List.mem_of_mem_drop hd')
  have hpv := fun i => Lnk.pops_popV m.k i hk
  replace hS := hS.un3
  refine calls_of (c := _) (rs := _) (n := 44) Tryz.func26 rfl rfl rfl rfl rfl ?_
  refine wc_seq ?_
  refine wc_region ?_
  refine wl (y_assign rfl) rfl ?_
  refine wl_nil ?_
  refine wc_seq ?_
  refine wc_region ?_
  refine wl (y_assign rfl) rfl ?_
  refine wl_nil ?_
  refine wc_seq ?_
  refine wc_seq ?_
  refine wc_region ?_
  refine wl (y_move rfl) rfl ?_
  refine wl (y_nil rfl) rfl ?_
  refine wl (y_fld fl_97_3 rfl) rfl ?_
  refine wl (y_load pl_94 rfl (hS.cell (v := .pointer (some ⟨kp, 0, none⟩)) rfl)) rfl ?_
  refine wl_call (.cons rfl .nil) (lpop_c hk h2 (hS.pull Hk)) rfl ?_
  rintro _ w ⟨Hk1, rfl, hk1, hS⟩
  rw [← Lnk.pops_0 m.k, Lnk.pops_pop] at hk1
  rw [show m.k.r.popV = (m.k.pops 0).r.popV by rw [Lnk.pops_0], hpv 0]
  refine wl (y_move rfl) rfl ?_
  refine wl (y_extract (vs := [_, _]) rfl rfl) rfl ?_
  refine wl (y_extract (vs := [_, _]) rfl rfl) rfl ?_
  refine wl (y_assign rfl) rfl ?_
  refine wl (y_assign rfl) rfl ?_
  refine wl_nil ?_
  refine wc_block ?_
  refine wc_loop (α := Nat × Mem × Chunk × Chunk) (fun ⟨i, _, _, _⟩ => [(0, .pointer (some ⟨p, 0, none⟩)), (3, .int .i64 (m.own.tookL (m.k.r.came.take i))), (4, .string (Rcv.pd m.k.r i)), (5, .bool (decide (i < m.k.r.wait)))]) (fun ⟨i, M1, H1, H2⟩ w => i ≤ m.k.r.wait ∧ Mle M M1 ∧ IsJ M1 jp m.j Hj ∧ IsL kp (m.k.pops (i + 1)) H1 ∧ IsC M1 cp jp (m.own.takeL (m.k.r.came.take i)) H2 ∧ St M1 w ([(p, nodO jp kp cp m)] :: Hj :: H1 :: H2 :: Ls)) (fun ⟨i, _, _, _⟩ => m.k.r.wait - i) (0, M, Hk1, Hc) (sub_cons rfl (sub_cons rfl (sub_cons rfl (sub_cons rfl sub_nil)))) ⟨by omega, Mle.refl _, h1, hk1, h3, hS.keep⟩ ?_
  clear hS h3 hk1 h1
  rintro ⟨i, M1, H1, H2⟩ w ⟨hi, hM, h1, hk1, h3, hS⟩
  refine wc_seq ?_
  refine wc_seq ?_
  refine wc_region ?_
  refine wl (y_move rfl) rfl ?_
  refine wl_nil ?_
  refine wc_if rfl (fun hc16 => ?_) (fun hc16 => ?_)
  · try simp only [zq1, zq2, zq3, zq4, zq5, zq6, zq7] at hc16
    obtain ⟨d, hdi⟩ : ∃ d, m.k.r.came[i]? = some d := ⟨_, List.getElem?_eq_getElem (by omega)⟩
    have hpd : Rcv.pd m.k.r i = d := by unfold Rcv.pd; rw [hdi]; rfl
    have hdz := hda d (List.mem_of_getElem? hdi)
    have htk : m.k.r.came.take (i + 1) = m.k.r.came.take i ++ [d] := by rw [List.take_add_one, hdi]; rfl
    have hT : m.own.takeL (m.k.r.came.take (i + 1)) = (m.own.takeL (m.k.r.came.take i)).take1 d := by rw [htk, Cli.takeL_app]; rfl
    have hN : m.own.tookL (m.k.r.came.take (i + 1)) = m.own.tookL (m.k.r.came.take i) + (m.own.takeL (m.k.r.came.take i)).took1 d := by rw [htk, Cli.tookL_app]; simp [Cli.tookL]
    have hNl := Cli.tookL_le m.own (m.k.r.came.take i)
    have hKl := Cli.takeL_known m.own (m.k.r.came.take i)
    have hul := grr_ups d (by omega)
    simp only [List.length_take] at hNl hKl
    refine wc_skip ?_
    refine wc_seq ?_
    refine wc_block ?_
    refine wc_seq ?_
    refine wc_region ?_
    refine wl ((y_move rfl).val (congrArg Value.string hpd)) rfl ?_
    refine wl_call (.cons rfl .nil) (rget_c (hG.mono hM) d (by omega) hS) rfl ?_
    rintro _ w ⟨M2, s2, rfl, hM2, hs2, hS⟩
    obtain ⟨sa2, sc2, rfl⟩ := (hs2.holds hS).slice
    refine wl (y_move rfl) rfl ?_
    refine wl (y_extract (vs := [_, _]) rfl rfl) rfl ?_
    refine wl (y_extract (vs := [_, _]) rfl rfl) rfl ?_
    refine a_alloc z_48 hS rfl fun b6 w hS => ?_
    refine a_storeS (vs := [_, _, _]) sz_48 rfl rfl rfl rfl hS (Nat.le_of_ble_eq_true rfl) fun w hS => ?_
    refine wl (y_assign rfl) rfl ?_
    refine wl_nil ?_
    refine wc_seq ?_
    refine wc_draw (l0 := (lb 11 0)) (fun w => w.cell? ⟨p, 9, none⟩ = some (.pointer (some ⟨cp, 0, none⟩)) ∧ CellsAt w b6 0 [.int .i64 (grr d).o, .int .i64 (grr d).n, .slice sa2 (grr d).ups.length sc2]) [] wide_ rfl rfl fun w hw => ?_
    replace hS := hS.same hw; clear hw
    refine dr_pure (i := 0) (lb 11 1) rfl rfl (by kernel_rfl) (fun w => y_move rfl) ?_
    refine dr_pure (i := 1) (lb 11 3) rfl rfl (by kernel_rfl) (fun w => y_eql rfl rfl) ?_
    refine dr_pure (i := 2) (lb 11 7) rfl rfl (by kernel_rfl) (fun w => y_move rfl) ?_
    refine dr_cases (s := 32) rfl (fun hg32 => ?_) (fun hg32 => ?_)
    · try simp only [zq1, zq2, zq3, zq4, zq5, zq6, zq7] at hg32
      have hT1 : (m.own.takeL (m.k.r.came.take i)).take1 d = (m.own.takeL (m.k.r.came.take i)).take (grr d) := by unfold Cli.take1; rw [if_pos (by omega)]
      rw [hT1] at hT
      refine dr_pureG (i := 3) (lb 11 15) rfl rfl (by kernel_rfl) rfl rfl (fun w => y_move rfl) ?_
      refine dr_pureG (i := 4) (lb 11 31) rfl rfl (by kernel_rfl) rfl rfl (fun w => y_nil rfl) ?_
      refine dr_pureG (i := 5) (lb 11 63) rfl rfl (by kernel_rfl) rfl rfl (fun w => y_fld fl_97_4 rfl) ?_
      refine dr_readG (i := 6) (lb 11 127) rfl rfl (by kernel_rfl) rfl rfl ⟨hS.cell rfl, hS.cells rfl⟩ (fun w hS => y_load pl_95 rfl hS.1) ?_
      refine dr_readG (i := 7) (lb 11 255) rfl rfl (by kernel_rfl) rfl rfl ⟨hS.cell rfl, hS.cells rfl⟩ (fun w hS => y_loadS st_48 sz_48 rfl hS.2 rfl) ?_
      refine dr_do (i := 8) (lb 11 511) rfl (by kernel_rfl) ?_
      refine wl_on rfl rfl ?_
      refine wl_call (.cons rfl (.cons rfl .nil)) (ctake_c (grr d) (.slice sa2 (grr d).ups.length sc2) (by omega) hs2 (by omega) (h3.mono hM2) (hS.pull H2)) rfl ?_
      rintro _ w ⟨M3, H3, hM3, rfl, h3', hS⟩
      refine wl_nil ⟨fun _ _ => ⟨hS.cell rfl, hS.cells rfl⟩, ?_⟩
      refine dr_pureG (i := 9) (lb 11 1023) rfl rfl (by kernel_rfl) rfl rfl (fun w => y_eql rfl rfl) ?_
      refine dr_pure (i := 10) (lb 11 2047) rfl rfl (by kernel_rfl) (fun w => y_pickT rfl rfl) ?_
      refine dr_done (by kernel_rfl) ?_
      refine wc_if rfl (fun hc40 => ?_) (fun hc40 => ?_)
      · try simp only [zq1, zq2, zq3, zq4, zq5, zq6, zq7] at hc40
        have ht : (m.own.takeL (m.k.r.came.take i)).took1 d = 1 := by unfold Cli.took1; rw [if_pos (by omega)]
        rw [ht] at hN
        refine wc_region ?_
        refine wl (y_move rfl) rfl ?_
        refine wl ((y_add rfl rfl (w64 (by omega) (by omega))).val (u := .int .i64 (m.own.tookL (m.k.r.came.take (i + 1)))) (congrArg (Value.int .i64) (by omega))) rfl ?_
        refine wl (y_assign rfl) rfl ?_
        refine wl_nil ?_
        refine wc_region ?_
        refine wl (y_move rfl) rfl ?_
        refine wl (y_nil rfl) rfl ?_
        refine wl (y_fld fl_97_3 rfl) rfl ?_
        refine wl (y_load pl_94 rfl (hS.cell (v := .pointer (some ⟨kp, 0, none⟩)) rfl)) rfl ?_
        refine wl_call (.cons rfl .nil) (lpop_c (Lnk.pops_ok _ _ hk) hk1 (hS.pull H1)) rfl ?_
        rintro _ w ⟨Hk2, rfl, hk2, hS⟩
        rw [Lnk.pops_pop] at hk2
        rw [hpv (i + 1)]
        refine wl (y_move rfl) rfl ?_
        refine wl (y_extract (vs := [_, _]) rfl rfl) rfl ?_
        refine wl (y_extract (vs := [_, _]) rfl rfl) rfl ?_
        refine wl (y_assign rfl) rfl ?_
        refine wl (y_assign rfl) rfl ?_
        refine wl_nil ?_
        first
        | exact ⟨(i + 1, M3, Hk2, H3), by simp only; omega, sub_cons rfl (sub_cons rfl (sub_cons rfl (sub_cons rfl sub_nil))), by omega, hM.trans (hM2.trans hM3), h1.mono (hM2.trans hM3), hk2, by rw [hT]; exact h3', hS.keep⟩
        | exact ⟨(i + 1, M3, Hk2, H3), by simp only; omega, sub_cons rfl (sub_cons (congrArg (fun n : Nat => some (Value.int .i64 (n : Int))) hN.symm) (sub_cons rfl (sub_cons rfl sub_nil))), by omega, hM.trans (hM2.trans hM3), h1.mono (hM2.trans hM3), hk2, by rw [hT]; exact h3', hS.keep⟩
        | exact ⟨(i + 1, M2, Hk2, H2), by simp only; omega, sub_cons rfl (sub_cons (congrArg (fun n : Nat => some (Value.int .i64 (n : Int))) hN.symm) (sub_cons rfl (sub_cons rfl sub_nil))), by omega, hM.trans hM2, h1.mono hM2, hk2, by rw [hT]; exact h3.mono hM2, hS.keep⟩
      · try simp only [zq1, zq2, zq3, zq4, zq5, zq6, zq7] at hc40
        have ht : (m.own.takeL (m.k.r.came.take i)).took1 d = 0 := by unfold Cli.took1; rw [if_neg (by omega)]
        rw [ht, Nat.add_zero] at hN
        refine wc_skip ?_
        refine wc_region ?_
        refine wl (y_move rfl) rfl ?_
        refine wl (y_nil rfl) rfl ?_
        refine wl (y_fld fl_97_3 rfl) rfl ?_
        refine wl (y_load pl_94 rfl (hS.cell (v := .pointer (some ⟨kp, 0, none⟩)) rfl)) rfl ?_
        refine wl_call (.cons rfl .nil) (lpop_c (Lnk.pops_ok _ _ hk) hk1 (hS.pull H1)) rfl ?_
        rintro _ w ⟨Hk2, rfl, hk2, hS⟩
        rw [Lnk.pops_pop] at hk2
        rw [hpv (i + 1)]
        refine wl (y_move rfl) rfl ?_
        refine wl (y_extract (vs := [_, _]) rfl rfl) rfl ?_
        refine wl (y_extract (vs := [_, _]) rfl rfl) rfl ?_
        refine wl (y_assign rfl) rfl ?_
        refine wl (y_assign rfl) rfl ?_
        refine wl_nil ?_
        first
        | exact ⟨(i + 1, M3, Hk2, H3), by simp only; omega, sub_cons rfl (sub_cons rfl (sub_cons rfl (sub_cons rfl sub_nil))), by omega, hM.trans (hM2.trans hM3), h1.mono (hM2.trans hM3), hk2, by rw [hT]; exact h3', hS.keep⟩
        | exact ⟨(i + 1, M3, Hk2, H3), by simp only; omega, sub_cons rfl (sub_cons (congrArg (fun n : Nat => some (Value.int .i64 (n : Int))) hN.symm) (sub_cons rfl (sub_cons rfl sub_nil))), by omega, hM.trans (hM2.trans hM3), h1.mono (hM2.trans hM3), hk2, by rw [hT]; exact h3', hS.keep⟩
        | exact ⟨(i + 1, M2, Hk2, H2), by simp only; omega, sub_cons rfl (sub_cons (congrArg (fun n : Nat => some (Value.int .i64 (n : Int))) hN.symm) (sub_cons rfl (sub_cons rfl sub_nil))), by omega, hM.trans hM2, h1.mono hM2, hk2, by rw [hT]; exact h3.mono hM2, hS.keep⟩
    · try simp only [zq1, zq2, zq3, zq4, zq5, zq6, zq7] at hg32
      have hT1 : (m.own.takeL (m.k.r.came.take i)).take1 d = (m.own.takeL (m.k.r.came.take i)) := by unfold Cli.take1; rw [if_neg (by omega)]
      have ht : (m.own.takeL (m.k.r.came.take i)).took1 d = 0 := by unfold Cli.took1; rw [if_neg (by omega)]
      rw [hT1] at hT
      rw [ht, Nat.add_zero] at hN
      refine dr_off (i := 3) (lb 11 15) rfl rfl (by kernel_rfl) rfl rfl rfl ?_
      refine dr_off (i := 4) (lb 11 31) rfl rfl (by kernel_rfl) rfl rfl rfl ?_
      refine dr_off (i := 5) (lb 11 63) rfl rfl (by kernel_rfl) rfl rfl rfl ?_
      refine dr_off (i := 6) (lb 11 127) rfl rfl (by kernel_rfl) rfl rfl rfl ?_
      refine dr_off (i := 7) (lb 11 255) rfl rfl (by kernel_rfl) rfl rfl rfl ?_
      refine dr_off (i := 8) (lb 11 511) rfl rfl (by kernel_rfl) rfl rfl rfl ?_
      refine dr_off (i := 9) (lb 11 1023) rfl rfl (by kernel_rfl) rfl rfl rfl ?_
      refine dr_pure (i := 10) (lb 11 2047) rfl rfl (by kernel_rfl) (fun w => y_pickF rfl rfl) ?_
      refine dr_done (by kernel_rfl) ?_
      refine wc_ifF rfl rfl ?_
      refine wc_skip ?_
      refine wc_region ?_
      refine wl (y_move rfl) rfl ?_
      refine wl (y_nil rfl) rfl ?_
      refine wl (y_fld fl_97_3 rfl) rfl ?_
      refine wl (y_load pl_94 rfl (hS.cell (v := .pointer (some ⟨kp, 0, none⟩)) rfl)) rfl ?_
      refine wl_call (.cons rfl .nil) (lpop_c (Lnk.pops_ok _ _ hk) hk1 (hS.pull H1)) rfl ?_
      rintro _ w ⟨Hk2, rfl, hk2, hS⟩
      rw [Lnk.pops_pop] at hk2
      rw [hpv (i + 1)]
      refine wl (y_move rfl) rfl ?_
      refine wl (y_extract (vs := [_, _]) rfl rfl) rfl ?_
      refine wl (y_extract (vs := [_, _]) rfl rfl) rfl ?_
      refine wl (y_assign rfl) rfl ?_
      refine wl (y_assign rfl) rfl ?_
      refine wl_nil ?_
      first
      | exact ⟨(i + 1, M3, Hk2, H3), by simp only; omega, sub_cons rfl (sub_cons rfl (sub_cons rfl (sub_cons rfl sub_nil))), by omega, hM.trans (hM2.trans hM3), h1.mono (hM2.trans hM3), hk2, by rw [hT]; exact h3', hS.keep⟩
      | exact ⟨(i + 1, M3, Hk2, H3), by simp only; omega, sub_cons rfl (sub_cons (congrArg (fun n : Nat => some (Value.int .i64 (n : Int))) hN.symm) (sub_cons rfl (sub_cons rfl sub_nil))), by omega, hM.trans (hM2.trans hM3), h1.mono (hM2.trans hM3), hk2, by rw [hT]; exact h3', hS.keep⟩
      | exact ⟨(i + 1, M2, Hk2, H2), by simp only; omega, sub_cons rfl (sub_cons (congrArg (fun n : Nat => some (Value.int .i64 (n : Int))) hN.symm) (sub_cons rfl (sub_cons rfl sub_nil))), by omega, hM.trans hM2, h1.mono hM2, hk2, by rw [hT]; exact h3.mono hM2, hS.keep⟩
  · try simp only [zq1, zq2, zq3, zq4, zq5, zq6, zq7] at hc16
    obtain rfl : i = m.k.r.wait := by omega
    rw [List.take_of_length_le (by omega)] at h3
    have hp : m.k.pops (m.k.r.wait + 1) = m.k.pops m.k.r.wait := by unfold Lnk.pops; congr 2; omega
    rw [hp] at hk1
    refine wc_exit ?_
    refine wc_seq ?_
    refine wc_region ?_
    refine wl (y_move rfl) rfl ?_
    refine wl (y_assign rfl) rfl ?_
    refine wl_nil ?_
    refine wc_ret ?_
    refine wret (vs := [_]) (.tmp rfl .nil) ?_
    exact ⟨M1, _, hM, congrArg (Value.int .i64) (by unfold Nod.pullN; rw [List.take_of_length_le (by omega)]), ⟨jp, kp, cp, Hj, H1, H2, h1, hk1, h3, rfl⟩, (by have h := hS.keep (T := ((p, nodO jp kp cp m) :: (Hj ++ (H1 ++ H2))) :: Ls); exact h)⟩
end
end Go.Proofs.YtndahppmjdbifaaGreatDoor.Nod

set_option linter.unusedVariables false
set_option linter.unusedSimpArgs false
namespace Go.Proofs.YtndahppmjdbifaaGreatDoor.Nod
open Go Go.Proofs Go.Proofs.YtndahppmjdbifaaGreatDoor.Eng Go.Proofs.YtndahppmjdbifaaGreatDoor.Pre Go.Proofs.YtndahppmjdbifaaGreatDoor.Val Go.Proofs.YtndahppmjdbifaaGreatDoor.Rou Go.Proofs.YtndahppmjdbifaaGreatDoor.Fra Go.Proofs.YtndahppmjdbifaaGreatDoor.Snd Go.Proofs.YtndahppmjdbifaaGreatDoor.Lnk Go.Proofs.YtndahppmjdbifaaGreatDoor.Jnl Go.Proofs.YtndahppmjdbifaaGreatDoor.Cli
/-! ### what is to be sent now -/
structure Pkt where
  frm : Int
  to_ : Int
  bytes : ByteArray
deriving DecidableEq
def encP : Enc Pkt := ⟨3, fun x => [.int .i64 x.frm, .int .i64 x.to_, .string x.bytes], fun _ => rfl, by simp [oneC]⟩
def putB (r : Rnd) : ByteArray := if mayR r = 0 then str (rbytes r) else ⟨#[]⟩
def offl : List Rnd → Lnk → Nat → Lnk × Nat
  | [], k, n => (k, n)
  | r :: l, k, n => if k.s.offerE = 0 then offl l (k.offer (putB r)) (n + 1) else (k, n)
def pkts (origin to_ mtu : Int) (l : List Frm) : List Pkt := l.filterMap fun f => if fputE f mtu = 0 then some ⟨origin, to_, fput f mtu⟩ else none
def Nod.tick (m : Nod) : Nod := { m with k := (offl (m.j.l.drop m.offered) m.k m.offered).1, offered := (offl (m.j.l.drop m.offered) m.k m.offered).2 }
def Nod.tickP (m : Nod) : List Pkt := pkts m.origin 0 m.c.mtu m.tick.k.frames
theorem Lnk.offer_ok {m : Lnk} (h : m.ok) (d : ByteArray) : (m.offer d).ok := ⟨h.1, Snd.offer_ok h.2.1 d, h.2.2⟩
theorem offl_ok {l : List Rnd} {k : Lnk} {n : Nat} (h : k.ok) : (offl l k n).1.ok := by
  induction l generalizing k n with
  | nil => exact h
  | cons r l ih =>
    simp only [offl]
    split
    · exact ih (Lnk.offer_ok h _)
    · exact h
abbrev rn (l : List Rnd) (i : Nat) : Rnd := (l[i]?).getD ⟨0, 0, []⟩
abbrev rndO (r : Rnd) (s : Value) : Obj := .cells #[.int .i64 r.o, .int .i64 r.n, s] 48
theorem offl_step {l : List Rnd} {k : Lnk} {n : Nat} {r : Rnd} (hr : l[n]? = some r) (he : k.s.offerE = 0) : offl (l.drop n) k n = offl (l.drop (n + 1)) (k.offer (putB r)) (n + 1) := by
  obtain ⟨hlt, hx⟩ := List.getElem?_eq_some_iff.1 hr
  rw [List.drop_eq_getElem_cons hlt, hx]
  simp only [offl, if_pos he]
theorem offl_stop {l : List Rnd} {k : Lnk} {n : Nat} (h : l.length ≤ n ∨ k.s.offerE ≠ 0) : offl (l.drop n) k n = (k, n) := by
  by_cases hl : l.length ≤ n
  · rw [List.drop_eq_nil_of_le hl]; rfl
  · rw [List.drop_eq_getElem_cons (by omega)]
    simp only [offl]
    rw [if_neg (by omega)]
theorem rputV_eq (r : Rnd) : rputV r = .tuple [.string (putB r), .int .i64 (mayR r)].toArray := by
  unfold rputV putB
  split
  · rename_i h; rw [h]; rfl
  · rfl
theorem frames_length (m : Lnk) (h : m.ok) : m.frames.length ≤ 16 := by
  obtain ⟨_, h2, _⟩ := h
  unfold Snd.ok at h2
  unfold Lnk.frames
  split
  · simp
  · split
    · simp
    · rw [List.length_map, pieces_length]; omega
theorem pkts_take {origin to_ mtu : Int} {l : List Frm} {i : Nat} {f : Frm} (h : l[i]? = some f) : pkts origin to_ mtu (l.take (i + 1)) = pkts origin to_ mtu (l.take i) ++ (if fputE f mtu = 0 then [⟨origin, to_, fput f mtu⟩] else []) := by
  unfold pkts
  rw [List.take_add_one, h, List.filterMap_append]
  congr 1
  by_cases hc : fputE f mtu = 0 <;> simp [hc]
theorem pkts_length {origin to_ mtu : Int} {l : List Frm} : (pkts origin to_ mtu l).length ≤ l.length := List.length_filterMap_le _ _
section
variable {M : Mem} {w : World} {Ls : List Chunk}
theorem ntick_c (hG : Bits M) {p : Nat} {m : Nod} {H : Chunk} (hk : m.k.ok) (hs : m.small) (hfs : ∀ f ∈ m.tick.k.frames, f.data.size ≤ 34359738368) (hb : IsN M p m H) (hS : St M w (H :: Ls)) :
    CallsR Tryz.prog 17 [.pointer (some ⟨p, 0, none⟩)].toArray w fun v w' => ∃ M' H' Hp, Mle M M' ∧ Own 40 encP v m.tickP Hp ∧ IsN M' p m.tick H' ∧ St M' w' (Hp :: H' :: Ls) := by
  obtain ⟨s1, s2, s3, s4⟩ := hs
  obtain ⟨jp, kp, cp, Hj, Hk, Hc, h1, h2, h3, rfl⟩ := hb
  replace hS := hS.un3
  refine calls_of (c := _) (rs := _) (n := 90) Tryz.func17 rfl rfl rfl rfl rfl ?_
  refine wc_seq ?_
  refine wc_region ?_
  refine wl (y_assign rfl) rfl ?_
  refine wl_nil ?_
  refine wc_cut (α := Mem × Chunk) (fun _ => [(0, .pointer (some ⟨p, 0, none⟩))]) (fun ⟨M1, H1⟩ w => Mle M M1 ∧ IsJ M1 jp m.j Hj ∧ IsL kp m.tick.k H1 ∧ St M1 w ([(p, nodQ m.c m.origin jp kp cp m.tick.offered)] :: Hj :: H1 :: Hc :: Ls)) ?_ ?_
  ·  -- up to the cut
    refine wc_cut (α := Mem × Value × Nat) (fun ⟨_, _, b3⟩ => [(0, .pointer (some ⟨p, 0, none⟩)), (3, .pointer (some ⟨b3, 0, none⟩)), (4, .bool (decide (m.offered < m.j.l.length)))]) (fun ⟨M1, s, b3⟩ w => Mle M M1 ∧ IsJ M1 jp m.j Hj ∧ Rd M1 encU s (rn m.j.l m.offered).ups ∧ St M1 w ([(b3, rndO (rn m.j.l m.offered) s)] :: [(p, nodO jp kp cp m)] :: Hj :: Hk :: Hc :: Ls)) ?_ ?_
    ·  -- up to the cut
      refine wc_draw (l0 := (lb 15 0)) (fun w => w.cell? ⟨p, 7, none⟩ = some (.pointer (some ⟨jp, 0, none⟩)) ∧ w.cell? ⟨p, 10, none⟩ = some (.int .i64 m.offered)) [13, 14] wide_ rfl rfl fun w hw => ?_
      replace hS := hS.same hw; clear hw
      refine dr_pure (i := 0) (lb 15 1) rfl rfl (by kernel_rfl) (fun w => y_move rfl) ?_
      refine dr_pure (i := 1) (lb 15 3) rfl rfl (by kernel_rfl) (fun w => y_nil rfl) ?_
      refine dr_pure (i := 2) (lb 15 7) rfl rfl (by kernel_rfl) (fun w => y_fld fl_97_2 rfl) ?_
      refine dr_pure (i := 4) (lb 15 23) rfl rfl (by kernel_rfl) (fun w => y_move rfl) ?_
      refine dr_pure (i := 5) (lb 15 55) rfl rfl (by kernel_rfl) (fun w => y_nil rfl) ?_
      refine dr_pure (i := 6) (lb 15 119) rfl rfl (by kernel_rfl) (fun w => y_fld fl_97_5 rfl) ?_
      refine dr_read (i := 3) (lb 15 127) rfl rfl (by kernel_rfl) ⟨hS.cell rfl, hS.cell rfl⟩ (fun w hS => y_load pl_93 rfl hS.1) ?_
      refine dr_read (i := 7) (lb 15 255) rfl rfl (by kernel_rfl) ⟨hS.cell rfl, hS.cell rfl⟩ (fun w hS => y_load pl_3 rfl hS.2) ?_
      refine dr_do2 (i := 8) (j := 12) (lb 15 511) (lb 15 4351) rfl rfl (by kernel_rfl) ?_ ?_
      ·  -- 8 first
        refine wl_call (.cons rfl (.cons rfl .nil)) (jat_c m.offered h1 (hS.pull Hj)) rfl ?_
        rintro _ w ⟨M1, s1', hM1, hs1, rfl, h1', hS⟩
        obtain ⟨sa1, sc1, rfl⟩ := (hs1.holds hS).slice
        refine wl_nil ⟨fun _ _ => ⟨hS.cell rfl, hS.cell rfl⟩, ?_⟩
        refine dr_pure (i := 9) (lb 15 1023) rfl rfl (by kernel_rfl) (fun w => y_move rfl) ?_
        refine dr_pure (i := 10) (lb 15 2047) rfl rfl (by kernel_rfl) (fun w => y_extract (vs := [_, _]) rfl rfl) ?_
        refine dr_pure (i := 11) (lb 15 4095) rfl rfl (by kernel_rfl) (fun w => y_extract (vs := [_, _]) rfl rfl) ?_
        refine dr_do (i := 12) (lb 15 8191) rfl (by kernel_rfl) ?_
        refine a_alloc z_48 hS rfl fun b3 w hS => ?_
        refine wl_nil ⟨fun _ _ => ⟨hS.cell rfl, hS.cell rfl⟩, ?_⟩
        refine dr_do (i := 13) (lb 15 16383) rfl (by kernel_rfl) ?_
        refine a_storeS (vs := [_, _, _]) sz_48 rfl rfl rfl rfl hS (Nat.le_of_ble_eq_true rfl) fun w hS => ?_
        refine wl_nil ⟨fun _ _ => ⟨hS.cell rfl, hS.cell rfl⟩, ?_⟩
        refine dr_pure (i := 14) (lb 15 32767) rfl rfl (by kernel_rfl) (fun w => y_assign rfl) ?_
        refine dr_done (by kernel_rfl) ?_
        simp only [List.setIfInBounds_toArray, List.set_cons_zero, List.set_cons_succ, Nat.zero_add, Nat.add_zero, cells_agg, setCells] at hS
        exact ⟨(M1, .slice sa1 _ sc1, b3), sub_cons rfl (sub_cons rfl (sub_cons rfl sub_nil)), hM1, h1', hs1, hS.keep⟩
      ·  -- 12 first
        refine a_alloc z_48 hS rfl fun b3 w hS => ?_
        refine wl_nil ⟨fun _ _ => ⟨hS.cell rfl, hS.cell rfl⟩, ?_⟩
        refine dr_do (i := 8) (lb 15 4607) rfl (by kernel_rfl) ?_
        refine wl_call (.cons rfl (.cons rfl .nil)) (jat_c m.offered h1 (hS.pull Hj)) rfl ?_
        rintro _ w ⟨M1, s1', hM1, hs1, rfl, h1', hS⟩
        obtain ⟨sa1, sc1, rfl⟩ := (hs1.holds hS).slice
        refine wl_nil ⟨fun _ _ => ⟨hS.cell rfl, hS.cell rfl⟩, ?_⟩
        refine dr_pure (i := 9) (lb 15 5119) rfl rfl (by kernel_rfl) (fun w => y_move rfl) ?_
        refine dr_pure (i := 10) (lb 15 6143) rfl rfl (by kernel_rfl) (fun w => y_extract (vs := [_, _]) rfl rfl) ?_
        refine dr_pure (i := 11) (lb 15 8191) rfl rfl (by kernel_rfl) (fun w => y_extract (vs := [_, _]) rfl rfl) ?_
        refine dr_do (i := 13) (lb 15 16383) rfl (by kernel_rfl) ?_
        refine a_storeS (vs := [_, _, _]) sz_48 rfl rfl rfl rfl hS (Nat.le_of_ble_eq_true rfl) fun w hS => ?_
        refine wl_nil ⟨fun _ _ => ⟨hS.cell rfl, hS.cell rfl⟩, ?_⟩
        refine dr_pure (i := 14) (lb 15 32767) rfl rfl (by kernel_rfl) (fun w => y_assign rfl) ?_
        refine dr_done (by kernel_rfl) ?_
        simp only [List.setIfInBounds_toArray, List.set_cons_zero, List.set_cons_succ, Nat.zero_add, Nat.add_zero, cells_agg, setCells] at hS
        exact ⟨(M1, .slice sa1 _ sc1, b3), sub_cons rfl (sub_cons rfl (sub_cons rfl sub_nil)), hM1, h1', hs1, hS.keep⟩
    ·  -- behind the cut
      clear hS
      rintro ⟨M1, s, b3⟩ w ⟨hM1, h1', hs1, hS⟩
      refine wc_block ?_
      refine wc_loop (α := Nat × Lnk × Mem × Value × Nat × Chunk) (fun ⟨n, _, _, _, b3, _⟩ => [(0, .pointer (some ⟨p, 0, none⟩)), (3, .pointer (some ⟨b3, 0, none⟩)), (4, .bool (decide (n < m.j.l.length)))]) (fun ⟨n, k, M1, s, b3, H1⟩ w => offl (m.j.l.drop m.offered) m.k m.offered = offl (m.j.l.drop n) k n ∧ k.ok ∧ Mle M M1 ∧ IsJ M1 jp m.j Hj ∧ IsL kp k H1 ∧ Rd M1 encU s (rn m.j.l n).ups ∧ St M1 w ([(b3, rndO (rn m.j.l n) s)] :: [(p, nodQ m.c m.origin jp kp cp n)] :: Hj :: H1 :: Hc :: Ls)) (fun ⟨n, _⟩ => m.j.l.length - n) (m.offered, m.k, M1, s, b3, Hk) (sub_cons rfl (sub_cons rfl (sub_cons rfl sub_nil))) ⟨rfl, hk, hM1, h1', h2, hs1, hS⟩ ?_
      clear hS h1' hs1 hM1 b3 s M1
      rintro ⟨n, k, M1, s, b3, H1⟩ w ⟨hq, hk1, hM1, h1', h2', hs1, hS⟩
      refine wc_seq ?_
      refine wc_seq ?_
      refine wc_region ?_
      refine wl (y_move rfl) rfl ?_
      refine wl_nil ?_
      refine wc_if rfl (fun hc24 => ?_) (fun hc24 => ?_)
      · try simp only [zq1, zq2, zq3, zq4, zq5, zq6, zq7] at hc24
        obtain ⟨r, hr⟩ : ∃ r, m.j.l[n]? = some r := ⟨_, List.getElem?_eq_getElem (by omega)⟩
        have hrn : rn m.j.l n = r := by unfold rn; rw [hr]; rfl
        rw [hrn] at hs1 hS
        obtain ⟨sa, sc, rfl⟩ := (hs1.holds hS).slice
        refine wc_skip ?_
        refine wc_seq ?_
        refine wc_block ?_
        refine wc_seq ?_
        refine wc_region ?_
        refine wl ((y_loadS st_48 sz_48 rfl (vs := [.int .i64 r.o, .int .i64 r.n, .slice sa r.ups.length sc]) (hS.cells rfl) rfl).val (show _ = rvS r (.slice sa r.ups.length sc) from rfl)) rfl ?_
        refine wl_call (.cons rfl .nil) (rput_c (hG.mono hM1) r _ hs1 hS) rfl ?_
        rintro _ w ⟨rfl, hS⟩
        rw [rputV_eq]
        refine wl (y_move rfl) rfl ?_
        refine wl (y_extract (vs := [_, _]) rfl rfl) rfl ?_
        refine wl (y_extract (vs := [_, _]) rfl rfl) rfl ?_
        refine wl (y_assign rfl) rfl ?_
        refine wl (y_assign rfl) rfl ?_
        refine wl_nil ?_
        refine wc_seq ?_
        refine wc_seq ?_
        refine wc_region ?_
        refine wl (y_move rfl) rfl ?_
        refine wl (y_nil rfl) rfl ?_
        refine wl (y_fld fl_97_3 rfl) rfl ?_
        refine wl (y_load pl_94 rfl (hS.cell (v := .pointer (some ⟨kp, 0, none⟩)) rfl)) rfl ?_
        refine wl (y_move rfl) rfl ?_
        refine wl_call (.cons rfl (.cons rfl .nil)) (loffer_c (putB r) hk1 h2' (hS.pull H1)) rfl ?_
        rintro _ w ⟨H2, rfl, h3', hS⟩
        refine wl (y_neq rfl rfl) rfl ?_
        refine wl_nil ?_
        refine wc_if rfl (fun hc48 => ?_) (fun hc48 => ?_)
        · try simp only [zq1, zq2, zq3, zq4, zq5, zq6, zq7] at hc48
          replace hq := hq.trans (offl_stop (.inr (by omega)))
          have hk' : m.tick.k = k := by unfold Nod.tick; rw [hq]
          have ho' : m.tick.offered = n := by unfold Nod.tick; rw [hq]
          have hkk : k.offer (putB r) = k := by unfold Lnk.offer Snd.offer; rw [if_neg (by omega)]
          rw [hkk] at h3'
          refine wc_exit ?_
          first
          | exact ⟨(M1, H2), sub_cons rfl sub_nil, hM1, h1', by rw [hk']; exact h3', by rw [ho']; exact hS.keep⟩
          | exact ⟨(M1, H1), sub_cons rfl sub_nil, hM1, h1', by rw [hk']; exact h2', by rw [ho']; exact hS.keep⟩
        · try simp only [zq1, zq2, zq3, zq4, zq5, zq6, zq7] at hc48
          replace hq := hq.trans (offl_step hr (by omega))
          refine wc_skip ?_
          refine wc_region ?_
          refine wl (y_move rfl) rfl ?_
          refine wl (y_nil rfl) rfl ?_
          refine wl (y_fld fl_97_5 rfl) rfl ?_
          refine wl (y_load pl_3 rfl (hS.cell (v := .int .i64 n) rfl)) rfl ?_
          refine wl ((y_add rfl rfl (w64 (by omega) (by omega))).val (u := .int .i64 ((n + 1 : Nat) : Int)) (congrArg (Value.int .i64) (by omega))) rfl ?_
          refine wl (y_nil rfl) rfl ?_
          refine wl (y_fld fl_97_5 rfl) rfl ?_
          refine a_store sz_3 rfl rfl rfl hS (Nat.le_of_ble_eq_true rfl) fun w hS => ?_
          refine wl_nil ?_
          refine wc_seq ?_
          refine wc_seq ?_
          refine wc_region ?_
          refine wl ((y_loadS st_48 sz_48 rfl (vs := [.int .i64 r.o, .int .i64 r.n, .slice sa r.ups.length sc]) (hS.cells rfl) rfl).val (show _ = rvS r (.slice sa r.ups.length sc) from rfl)) rfl ?_
          refine wl_nil ?_
          refine wc_region ?_
          refine a_alloc z_48 hS rfl fun b3 w hS => ?_
          refine a_storeS (vs := [_, _, _]) sz_48 rfl rfl rfl rfl hS (Nat.le_of_ble_eq_true rfl) fun w hS => ?_
          refine wl_nil ?_
          refine wc_draw (l0 := (lb 14 0)) (fun w => w.cell? ⟨p, 7, none⟩ = some (.pointer (some ⟨jp, 0, none⟩)) ∧ w.cell? ⟨p, 10, none⟩ = some (.int .i64 ((n + 1 : Nat) : Int))) [12, 13] wide_ rfl rfl fun w hw => ?_
          replace hS := hS.same hw; clear hw
          refine dr_pure (i := 0) (lb 14 1) rfl rfl (by kernel_rfl) (fun w => y_move rfl) ?_
          refine dr_pure (i := 1) (lb 14 3) rfl rfl (by kernel_rfl) (fun w => y_nil rfl) ?_
          refine dr_pure (i := 2) (lb 14 7) rfl rfl (by kernel_rfl) (fun w => y_fld fl_97_2 rfl) ?_
          refine dr_pure (i := 4) (lb 14 23) rfl rfl (by kernel_rfl) (fun w => y_move rfl) ?_
          refine dr_pure (i := 5) (lb 14 55) rfl rfl (by kernel_rfl) (fun w => y_nil rfl) ?_
          refine dr_pure (i := 6) (lb 14 119) rfl rfl (by kernel_rfl) (fun w => y_fld fl_97_5 rfl) ?_
          refine dr_read (i := 3) (lb 14 127) rfl rfl (by kernel_rfl) ⟨hS.cell rfl, hS.cell rfl⟩ (fun w hS => y_load pl_93 rfl hS.1) ?_
          refine dr_read (i := 7) (lb 14 255) rfl rfl (by kernel_rfl) ⟨hS.cell rfl, hS.cell rfl⟩ (fun w hS => y_load pl_3 rfl hS.2) ?_
          refine dr_do (i := 8) (lb 14 511) rfl (by kernel_rfl) ?_
          refine wl_call (.cons rfl (.cons rfl .nil)) (jat_c (n + 1) h1' (hS.pull Hj)) rfl ?_
          rintro _ w ⟨M2, s2', hM2, hs2, rfl, h1'', hS⟩
          obtain ⟨sa2, sc2, rfl⟩ := (hs2.holds hS).slice
          refine wl_nil ⟨fun _ _ => ⟨hS.cell rfl, hS.cell rfl⟩, ?_⟩
          refine dr_pure (i := 9) (lb 14 1023) rfl rfl (by kernel_rfl) (fun w => y_move rfl) ?_
          refine dr_pure (i := 10) (lb 14 2047) rfl rfl (by kernel_rfl) (fun w => y_extract (vs := [_, _]) rfl rfl) ?_
          refine dr_pure (i := 11) (lb 14 4095) rfl rfl (by kernel_rfl) (fun w => y_extract (vs := [_, _]) rfl rfl) ?_
          refine dr_do (i := 12) (lb 14 8191) rfl (by kernel_rfl) ?_
          refine a_storeS (vs := [_, _, _]) sz_48 rfl rfl rfl rfl hS (Nat.le_of_ble_eq_true rfl) fun w hS => ?_
          refine wl_nil ⟨fun _ _ => ⟨hS.cell rfl, hS.cell rfl⟩, ?_⟩
          refine dr_pure (i := 13) (lb 14 16383) rfl rfl (by kernel_rfl) (fun w => y_assign rfl) ?_
          refine dr_done (by kernel_rfl) ?_
          simp only [List.setIfInBounds_toArray, List.set_cons_zero, List.set_cons_succ, Nat.zero_add, Nat.add_zero, cells_agg, setCells] at hS
          exact ⟨(n + 1, k.offer (putB r), M2, .slice sa2 _ sc2, b3, H2), by simp only; omega, sub_cons rfl (sub_cons rfl (sub_cons rfl sub_nil)), hq, Lnk.offer_ok hk1 _, hM1.trans hM2, h1'', h3', hs2, hS.keep⟩
      · try simp only [zq1, zq2, zq3, zq4, zq5, zq6, zq7] at hc24
        replace hq := hq.trans (offl_stop (.inl (by omega)))
        have hk' : m.tick.k = k := by unfold Nod.tick; rw [hq]
        have ho' : m.tick.offered = n := by unfold Nod.tick; rw [hq]
        refine wc_exit ?_
        first
        | exact ⟨(M1, H2), sub_cons rfl sub_nil, hM1, h1', by rw [hk']; exact h3', by rw [ho']; exact hS.keep⟩
        | exact ⟨(M1, H1), sub_cons rfl sub_nil, hM1, h1', by rw [hk']; exact h2', by rw [ho']; exact hS.keep⟩
  ·  -- behind the cut
    clear hS
    rintro ⟨M1, H1⟩ w ⟨hM1, h1', h2', hS⟩
    have htk : m.tick.k.ok := offl_ok hk
    have hfl := frames_length m.tick.k htk
    refine wc_seq ?_
    refine wc_region ?_
    refine wl (y_assign rfl) rfl ?_
    refine wl_nil ?_
    refine wc_seq ?_
    refine wc_seq ?_
    refine wc_region ?_
    refine wl (y_move rfl) rfl ?_
    refine wl (y_nil rfl) rfl ?_
    refine wl (y_fld fl_97_3 rfl) rfl ?_
    refine wl (y_load pl_94 rfl (hS.cell (v := .pointer (some ⟨kp, 0, none⟩)) rfl)) rfl ?_
    refine wl_call (.cons rfl .nil) (lframes_c htk h2' (hS.pull H1)) rfl ?_
    rintro _ w ⟨Hf, hof, hS⟩
    obtain ⟨fa, fc, rfl⟩ := hof.slice
    refine wl (y_len_sl Tryz.underlying106 rfl) rfl ?_
    refine wl (y_move rfl) rfl ?_
    refine wl_nil ?_
    refine wc_block ?_
    refine wc_loop (α := Nat × Value × Chunk) (fun ⟨i, s, _⟩ => [(0, .pointer (some ⟨p, 0, none⟩)), (7, s), (61, .slice fa m.tick.k.frames.length fc), (62, .int .i64 m.tick.k.frames.length), (63, .int .i64 i)]) (fun ⟨i, s, Ho⟩ w => i ≤ m.tick.k.frames.length ∧ Own 40 encP s (pkts m.origin 0 m.c.mtu (m.tick.k.frames.take i)) Ho ∧ St M1 w (Ho :: Hf :: H1 :: [(p, nodQ m.c m.origin jp kp cp m.tick.offered)] :: Hj :: Hc :: Ls)) (fun ⟨i, _, _⟩ => m.tick.k.frames.length - i) (0, .slice none 0 0, []) (sub_cons rfl (sub_cons rfl (sub_cons rfl (sub_cons rfl (sub_cons rfl sub_nil))))) ⟨by omega, .nil, St.nil hS.keep⟩ ?_
    clear hS
    rintro ⟨i, s, Ho⟩ w ⟨hi, hoo, hS⟩
    refine wc_seq ?_
    refine wc_region ?_
    refine wl (y_lss rfl rfl) rfl ?_
    refine wl_nil ?_
    refine wc_seq ?_
    refine wc_if rfl (fun hc64 => ?_) (fun hc64 => ?_)
    · try simp only [zq1, zq2, zq3, zq4, zq5, zq6, zq7] at hc64
      refine wc_skip ?_
      refine wc_seq ?_
      refine wc_block ?_
      refine wc_seq ?_
      have hi' : i < m.tick.k.frames.length := by omega
      obtain ⟨f, hfi⟩ : ∃ f, m.tick.k.frames[i]? = some f := ⟨_, List.getElem?_eq_getElem hi'⟩
      have hpt := pkts_take (origin := m.origin) (to_ := 0) (mtu := m.c.mtu) hfi
      have hpl := pkts_length (origin := m.origin) (to_ := 0) (mtu := m.c.mtu) (l := m.tick.k.frames.take i)
      rw [List.length_take] at hpl
      have hfz := hfs f (List.mem_of_getElem? hfi)
      obtain ⟨bb, off, c', hse, hce⟩ := (hof.holds (hS.pull Hf)).at hfi
      simp only [Value.slice.injEq] at hse
      have hSk := hS
      obtain ⟨rfl, _, rfl⟩ := hse
      replace hS := hSk
      obtain ⟨oa, oc, rfl⟩ := hoo.slice
      refine wc_region ?_
      refine wl (y_ixa_sl Tryz.underlying106 sz_42 rfl rfl (by omega) (by omega)) rfl ?_
      refine wl ((y_loadS st_42 sz_42 rfl (vs := encF.f f) hce rfl).val (show _ = fv f from rfl)) rfl ?_
      refine a_alloc z_42 hS rfl fun b9 w hS => ?_
      refine a_storeS (vs := [_, _, _, _]) sz_42 rfl rfl rfl rfl hS (Nat.le_of_ble_eq_true rfl) fun w hS => ?_
      refine wl_nil ?_
      refine wc_seq ?_
      refine wc_draw (l0 := (lb 12 0)) (fun w => CellsAt w b9 0 (encF.f f) ∧ w.cell? ⟨p, 4, none⟩ = some (.int .i64 m.c.mtu)) [6] wide_ rfl rfl fun w hw => ?_
      replace hS := hS.same hw; clear hw
      refine dr_pure (i := 1) (lb 12 2) rfl rfl (by kernel_rfl) (fun w => y_move rfl) ?_
      refine dr_pure (i := 2) (lb 12 6) rfl rfl (by kernel_rfl) (fun w => y_nil rfl) ?_
      refine dr_pure (i := 3) (lb 12 14) rfl rfl (by kernel_rfl) (fun w => y_fld fl_97_0 rfl) ?_
      refine dr_pure (i := 4) (lb 12 30) rfl rfl (by kernel_rfl) (fun w => y_fld fl_23_4 rfl) ?_
      refine dr_read (i := 0) (lb 12 31) rfl rfl (by kernel_rfl) ⟨hS.cells rfl, hS.cell rfl⟩ (fun w hS => (y_loadS st_42 sz_42 rfl hS.1 rfl).val (show _ = fv f from rfl)) ?_
      refine dr_read (i := 5) (lb 12 63) rfl rfl (by kernel_rfl) ⟨hS.cells rfl, hS.cell rfl⟩ (fun w hS => y_load pl_3 rfl hS.2) ?_
      refine dr_do (i := 6) (lb 12 127) rfl (by kernel_rfl) ?_
      refine wl_call (.cons rfl (.cons rfl .nil)) (fput_c (hG.mono hM1) f m.c.mtu hfz hS) rfl ?_
      rintro _ w ⟨rfl, hS⟩
      refine wl_nil ⟨fun h => absurd (by decide) h, ?_⟩
      refine dr_pure (i := 7) (lb 12 255) rfl rfl (by kernel_rfl) (fun w => y_move rfl) ?_
      refine dr_pure (i := 8) (lb 12 511) rfl rfl (by kernel_rfl) (fun w => y_extract (vs := [_, _]) rfl rfl) ?_
      refine dr_pure (i := 9) (lb 12 1023) rfl rfl (by kernel_rfl) (fun w => y_extract (vs := [_, _]) rfl rfl) ?_
      refine dr_pure (i := 10) (lb 12 2047) rfl rfl (by kernel_rfl) (fun w => y_assign rfl) ?_
      refine dr_pure (i := 11) (lb 12 4095) rfl rfl (by kernel_rfl) (fun w => y_assign rfl) ?_
      refine dr_done (by kernel_rfl) ?_
      refine wc_seq ?_
      refine wc_region ?_
      refine wl (y_move rfl) rfl ?_
      refine wl (y_eql rfl rfl) rfl ?_
      refine wl_nil ?_
      refine wc_if rfl (fun hc78 => ?_) (fun hc78 => ?_)
      · try simp only [zq1, zq2, zq3, zq4, zq5, zq6, zq7] at hc78
        rw [if_pos (by omega)] at hpt
        refine wc_region ?_
        refine wl (y_move rfl) rfl ?_
        refine wl (y_move rfl) rfl ?_
        refine wl (y_nil rfl) rfl ?_
        refine wl (y_fld fl_97_1 rfl) rfl ?_
        refine wl (y_load pl_3 rfl (hS.cell (v := .int .i64 m.origin) rfl)) rfl ?_
        refine wl (y_move rfl) rfl ?_
        refine wl (y_build (is := [0, 2]) (xs := [_, _]) (out := [_, _, _]) plc_40 z_40 (.cons rfl (.cons rfl .nil)) rfl) rfl ?_
        refine a_bslice encP [⟨m.origin, 0, fput f m.c.mtu⟩] Tryz.underlying37 sz_40 z_40 rfl (.cons rfl .nil) rfl rfl rfl (by decide) hS rfl fun u Hu w hou hS => ?_
        refine a_append Tryz.underlying37 Tryz.underlying37 sz_40 z_40 rfl by_40 (by decide) rfl rfl hoo (hou.holds hS) hS (by simp; omega) rfl fun s2 H2 w ho2 hS => ?_
        rw [← hpt] at ho2
        refine wl (y_assign rfl) rfl ?_
        refine wl_nil ?_
        refine wc_region ?_
        refine wl (y_add rfl rfl (w64 (by omega) (by omega))) rfl ?_
        refine wl (y_move rfl) rfl ?_
        refine wl_nil ?_
        first
        | exact ⟨(i + 1, _, H2), by simp only; omega, sub_cons rfl (sub_cons rfl (sub_cons rfl (sub_cons rfl (sub_cons rfl sub_nil)))), by omega, ho2, hS.keep⟩
        | exact ⟨(i + 1, _, Ho), by simp only; omega, sub_cons rfl (sub_cons rfl (sub_cons rfl (sub_cons rfl (sub_cons rfl sub_nil)))), by omega, by rw [hpt]; exact hoo, hS.keep⟩
      · try simp only [zq1, zq2, zq3, zq4, zq5, zq6, zq7] at hc78
        rw [if_neg (by omega), List.append_nil] at hpt
        refine wc_skip ?_
        refine wc_region ?_
        refine wl (y_add rfl rfl (w64 (by omega) (by omega))) rfl ?_
        refine wl (y_move rfl) rfl ?_
        refine wl_nil ?_
        first
        | exact ⟨(i + 1, _, H2), by simp only; omega, sub_cons rfl (sub_cons rfl (sub_cons rfl (sub_cons rfl (sub_cons rfl sub_nil)))), by omega, ho2, hS.keep⟩
        | exact ⟨(i + 1, _, Ho), by simp only; omega, sub_cons rfl (sub_cons rfl (sub_cons rfl (sub_cons rfl (sub_cons rfl sub_nil)))), by omega, by rw [hpt]; exact hoo, hS.keep⟩
    · try simp only [zq1, zq2, zq3, zq4, zq5, zq6, zq7] at hc64
      obtain rfl : i = m.tick.k.frames.length := by omega
      rw [List.take_length] at hoo
      refine wc_exit ?_
      refine wc_seq ?_
      refine wc_region ?_
      refine wl (y_move rfl) rfl ?_
      refine wl (y_assign rfl) rfl ?_
      refine wl_nil ?_
      refine wc_ret ?_
      refine wret (vs := [_]) (.tmp rfl .nil) ?_
      exact ⟨M1, _, Ho, hM1, hoo, ⟨jp, kp, cp, Hj, H1, Hc, h1', h2', h3.mono hM1, rfl⟩, (by have h := hS.keep (T := Ho :: ((p, nodQ m.c m.origin jp kp cp m.tick.offered) :: (Hj ++ (H1 ++ Hc))) :: Ls); exact h)⟩
end
end Go.Proofs.YtndahppmjdbifaaGreatDoor.Nod

set_option linter.unusedVariables false
set_option linter.unusedSimpArgs false
namespace Go.Proofs.YtndahppmjdbifaaGreatDoor.Sto
open Go Go.Proofs Go.Proofs.YtndahppmjdbifaaGreatDoor.Eng Go.Proofs.YtndahppmjdbifaaGreatDoor.Pre Go.Proofs.YtndahppmjdbifaaGreatDoor.Val Go.Proofs.YtndahppmjdbifaaGreatDoor.Rou Go.Proofs.YtndahppmjdbifaaGreatDoor.Jnl Go.Proofs.YtndahppmjdbifaaGreatDoor.Cli Go.Proofs.YtndahppmjdbifaaGreatDoor.Nod

abbrev KV := List (ByteArray × Valu)
def vGet (k : ByteArray) (kv : KV) : Valu := (kvGet k kv).getD val0
def sdo (kv : KV) (u : Upd) : KV := if mayU u ≠ 0 then kv else if (apply (vGet u.key kv) u).kind = 0 then kvDel u.key kv else kvSet u.key (apply (vGet u.key kv) u) kv
def sdoL (kv : KV) (l : List Upd) : KV := l.foldl sdo kv
def kvOk (kv : KV) : Prop := ∀ p ∈ kv, p.2.s.size ≤ 1024
theorem mem_set {k : ByteArray} {x : Valu} {l : KV} {p : ByteArray × Valu} (h : p ∈ kvSet k x l) : p = (k, x) ∨ p ∈ l := by
  induction l with
  | nil => simpa [kvSet] using h
  | cons q l ih =>
    obtain ⟨a, y⟩ := q
    simp only [kvSet] at h
    split at h
    · rcases List.mem_cons.1 h with h | h
      · exact .inl h
      · exact .inr (List.mem_cons_of_mem _ h)
    · rcases List.mem_cons.1 h with h | h
      · exact .inr (h ▸ List.mem_cons_self)
      · rcases ih h with h | h
        · exact .inl h
        · exact .inr (List.mem_cons_of_mem _ h)
theorem mem_del {k : ByteArray} {l : KV} {p : ByteArray × Valu} (h : p ∈ kvDel k l) : p ∈ l := by
  induction l with
  | nil => exact h
  | cons q l ih =>
    obtain ⟨a, y⟩ := q
    simp only [kvDel] at h
    split at h
    · exact List.mem_cons_of_mem _ h
    · rcases List.mem_cons.1 h with h | h
      · exact h ▸ List.mem_cons_self
      · exact List.mem_cons_of_mem _ (ih h)
theorem get_mem {k : ByteArray} {l : KV} {x : Valu} (h : kvGet k l = some x) : ∃ a, (a, x) ∈ l := by
  induction l with
  | nil => cases h
  | cons q l ih =>
    obtain ⟨a, y⟩ := q
    simp only [kvGet] at h
    split at h
    · cases h; exact ⟨a, List.mem_cons_self⟩
    · obtain ⟨b, hb⟩ := ih h
      exact ⟨b, List.mem_cons_of_mem _ hb⟩
theorem vGet_ok {kv : KV} (h : kvOk kv) (k : ByteArray) : (vGet k kv).s.size ≤ 1024 := by
  unfold vGet
  cases hg : kvGet k kv with
  | none => simp [val0]
  | some x => obtain ⟨a, ha⟩ := get_mem hg; exact h _ ha
theorem mayU_s {u : Upd} (h : mayU u = 0) : u.s.size ≤ 32 := by
  unfold mayU at h
  split at h; · cases h
  split at h; · cases h
  split at h
  · split at h; · cases h
    rename_i hs; simp only [Decidable.not_not] at hs; rw [hs]; decide
  · split at h
    · split at h; · cases h
      split at h; · cases h
      omega
    · split at h
      · split at h; · cases h
        split at h; · cases h
        rename_i hs; simp only [Decidable.not_not] at hs; rw [hs]; decide
      · cases h
theorem clean_s (x : Valu) : (clean x).s.size ≤ x.s.size := by
  unfold clean; split
  · simp [num]
  · split
    · simp [txt]
    · simp [val0]
theorem app_s {x : Valu} {u : Upd} (hx : x.s.size ≤ 1024) (hu : u.s.size ≤ 32) : (app x u).s.size ≤ 1024 := by
  unfold app
  split; · simp [num]
  split; · simp [txt]; omega
  split; · simp [val0]
  split
  · split
    · simp [num]
    · exact hx
  split
  · split; · simp [txt]; omega
    split
    · split
      · rename_i h; simp only [txt, ByteArray.size_append]; omega
      · exact hx
    · exact hx
  · exact hx
theorem apply_s {x : Valu} {u : Upd} (hx : x.s.size ≤ 1024) (hu : u.s.size ≤ 32) : (apply x u).s.size ≤ 1024 := by
  unfold apply; exact app_s (Nat.le_trans (clean_s x) hx) hu
theorem sdo_ok {kv : KV} (h : kvOk kv) (u : Upd) : kvOk (sdo kv u) := by
  unfold sdo
  split
  · exact h
  · rename_i hm
    split
    · exact fun p hp => h p (mem_del hp)
    · intro p hp
      rcases mem_set hp with rfl | hp
      · exact apply_s (vGet_ok h _) (mayU_s (by omega))
      · exact h p hp
theorem sdoL_ok {kv : KV} (h : kvOk kv) (l : List Upd) : kvOk (sdoL kv l) := by
  induction l generalizing kv with
  | nil => exact h
  | cons u l ih => exact ih (sdo_ok h u)
theorem sdoL_app (kv : KV) (l k : List Upd) : sdoL kv (l ++ k) = sdoL (sdoL kv l) k := List.foldl_append
def IsSt (p : Nat) (kv : KV) (H : Chunk) : Prop := ∃ mp Hm, IsMap vv mp kv Hm ∧ H = (p, .cells #[.map (some mp)] 258) :: Hm
section
variable {M : Mem} {w : World} {Ls : List Chunk}
theorem snew_c (hS : St M w Ls) : CallsR Tryz.prog 193 [].toArray w fun v w' => ∃ p H, v = .pointer (some ⟨p, 0, none⟩) ∧ IsSt p [] H ∧ St M w' (H :: Ls) := by
  refine calls_of (c := _) (rs := _) (n := 4) Tryz.func193 rfl rfl rfl rfl rfl ?_
  refine wc_seq ?_
  refine wc_region ?_
  refine wl (y_assign rfl) rfl ?_
  refine wl_nil ?_
  refine wc_seq ?_
  refine wc_region ?_
  refine a_mkmap vv hS rfl fun mp Hm w hm hS => ?_
  refine wl (y_build (is := [0]) (xs := [_]) (out := [_]) plc_258 z_258 (.cons rfl .nil) rfl) rfl ?_
  refine a_box rfl hS rfl fun b3 w hS => ?_
  refine wl (y_assign rfl) rfl ?_
  refine wl_nil ?_
  refine wc_ret ?_
  refine wret (vs := [_]) (.tmp rfl .nil) ?_
  exact ⟨_, _, rfl, ⟨mp, Hm, hm, rfl⟩, (by have h := hS.cons; exact h)⟩
theorem sget_c (k : ByteArray) {p : Nat} {kv : KV} {H : Chunk} (hb : IsSt p kv H) (hS : St M w (H :: Ls)) : CallsR Tryz.prog 178 [.pointer (some ⟨p, 0, none⟩), .string k].toArray w fun v w' => v = vv (vGet k kv) ∧ St M w' (H :: Ls) := by
  obtain ⟨mp, Hm, hm, rfl⟩ := hb
  replace hS := hS.uncons
  refine calls_of (c := _) (rs := _) (n := 11) Tryz.func178 rfl rfl rfl rfl rfl ?_
  refine wc_seq ?_
  refine wc_region ?_
  refine a_alloc z_65 hS rfl fun b4 w hS => ?_
  refine wl_nil ?_
  refine wc_seq ?_
  refine wc_region ?_
  refine wl (y_move rfl) rfl ?_
  refine wl (y_nil rfl) rfl ?_
  refine wl (y_fld fl_258_0 rfl) rfl ?_
  refine wl (y_load pl_256 rfl (hS.cell (v := .map (some mp)) rfl)) rfl ?_
  refine wl (y_move rfl) rfl ?_
  refine wl ((y_mget Tryz.underlying256 Tryz.underlying9 z_65 rfl rfl hm hS).val (show _ = vv (vGet k kv) by unfold vGet; cases kvGet k kv <;> rfl)) rfl ?_
  refine a_storeS (vs := [_, _, _]) sz_65 rfl rfl rfl rfl hS (Nat.le_of_ble_eq_true rfl) fun w hS => ?_
  refine wl_nil ?_
  refine wc_ret ?_
  refine wret (vs := [_]) (.cell rfl (loadVar_struct st_65 sz_65 (vs := [_, _, _]) rfl (hS.cells rfl)) .nil) ?_
  exact ⟨rfl, hS.keep⟩
theorem slen_c {p : Nat} {kv : KV} {H : Chunk} (hb : IsSt p kv H) (hS : St M w (H :: Ls)) : CallsR Tryz.prog 185 [.pointer (some ⟨p, 0, none⟩)].toArray w fun v w' => v = .int .i64 kv.length ∧ St M w' (H :: Ls) := by
  obtain ⟨mp, Hm, hm, rfl⟩ := hb
  replace hS := hS.uncons
  refine calls_of (c := _) (rs := _) (n := 8) Tryz.func185 rfl rfl rfl rfl rfl ?_
  refine wc_seq ?_
  refine wc_region ?_
  refine wl (y_assign rfl) rfl ?_
  refine wl_nil ?_
  refine wc_seq ?_
  refine wc_region ?_
  refine wl (y_move rfl) rfl ?_
  refine wl (y_nil rfl) rfl ?_
  refine wl (y_fld fl_258_0 rfl) rfl ?_
  refine wl (y_load pl_256 rfl (hS.cell (v := .map (some mp)) rfl)) rfl ?_
  refine wl (y_mlen Tryz.underlying256 rfl hm hS) rfl ?_
  refine wl (y_assign rfl) rfl ?_
  refine wl_nil ?_
  refine wc_ret ?_
  refine wret (vs := [_]) (.tmp rfl .nil) ?_
  exact ⟨rfl, hS.keep⟩
theorem sdo_c (u : Upd) {p : Nat} {kv : KV} {H : Chunk} (hk : kvOk kv) (hb : IsSt p kv H) (hS : St M w (H :: Ls)) : CallsR Tryz.prog 194 [.pointer (some ⟨p, 0, none⟩), uv u].toArray w fun v w' => ∃ H', v = .int .i64 (mayU u) ∧ IsSt p (sdo kv u) H' ∧ St M w' (H' :: Ls) := by
  have hb0 := hb
  obtain ⟨mp, Hm, hm, rfl⟩ := hb
  have hm0 := hm
  obtain ⟨es, clock, hr, rfl⟩ := hm
  replace hS := hS.uncons
  refine calls_of (c := _) (rs := _) (n := 37) Tryz.func194 rfl rfl rfl rfl rfl ?_
  refine wc_seq ?_
  refine wc_region ?_
  refine a_box rfl hS rfl fun b3 w hS => ?_
  refine wl (y_assign rfl) rfl ?_
  refine wl_nil ?_
  refine wc_seq ?_
  refine wc_seq ?_
  refine wc_region ?_
  refine wl ((y_loadS st_59 sz_59 rfl (vs := encU.f u) (hS.cells rfl) rfl).val (show _ = uv u from rfl)) rfl ?_
  refine wl_call (.cons rfl .nil) (may_c u hS) rfl ?_
  rintro _ w ⟨rfl, hS⟩
  refine wl (y_assign rfl) rfl ?_
  refine wl_nil ?_
  refine wc_seq ?_
  refine wc_region ?_
  refine wl (y_move rfl) rfl ?_
  refine wl (y_neq rfl rfl) rfl ?_
  refine wl_nil ?_
  refine wc_if rfl (fun hc10 => ?_) (fun hc10 => ?_)
  · try simp only [zq1, zq2, zq3, zq4, zq5, zq6, zq7] at hc10
    have hq : sdo kv u = kv := by unfold sdo; rw [if_pos (by omega)]
    rw [hq]
    refine wc_seq ?_
    refine wc_region ?_
    refine wl (y_move rfl) rfl ?_
    refine wl (y_assign rfl) rfl ?_
    refine wl_nil ?_
    refine wc_ret ?_
    refine wret (vs := [_]) (.tmp rfl .nil) ?_
    first
    | exact ⟨_, rfl, ⟨mp, H2, hm2, rfl⟩, hS.keep⟩
    | exact ⟨_, rfl, hb0, hS.keep⟩
  · try simp only [zq1, zq2, zq3, zq4, zq5, zq6, zq7] at hc10
    have hmu : mayU u = 0 := by omega
    have hus := mayU_s hmu
    have hvs := vGet_ok hk u.key
    rw [hmu]
    refine wc_skip ?_
    refine wc_seq ?_
    refine wc_draw (l0 := (lb 11 0)) (fun w => w.cell? ⟨p, 0, none⟩ = some (.map (some mp)) ∧ w.cell? ⟨b3, 0, none⟩ = some (.string u.key) ∧ CellsAt w b3 0 (encU.f u) ∧ w.heap[mp]? = some (.map es.toArray clock)) [8, 10] wide_ rfl rfl fun w hw => ?_
    replace hS := hS.same hw; clear hw
    refine dr_pure (i := 0) (lb 11 1) rfl rfl (by kernel_rfl) (fun w => y_move rfl) ?_
    refine dr_pure (i := 1) (lb 11 3) rfl rfl (by kernel_rfl) (fun w => y_nil rfl) ?_
    refine dr_pure (i := 2) (lb 11 7) rfl rfl (by kernel_rfl) (fun w => y_fld fl_258_0 rfl) ?_
    refine dr_pure (i := 4) (lb 11 23) rfl rfl (by kernel_rfl) (fun w => y_fld fl_59_0 rfl) ?_
    refine dr_read (i := 3) (lb 11 31) rfl rfl (by kernel_rfl) ⟨hS.cell rfl, hS.cell rfl, hS.cells rfl, hS.has⟩ (fun w hS => y_load pl_256 rfl hS.1) ?_
    refine dr_read (i := 5) (lb 11 63) rfl rfl (by kernel_rfl) ⟨hS.cell rfl, hS.cell rfl, hS.cells rfl, hS.has⟩ (fun w hS => y_load pl_9 rfl hS.2.1) ?_
    refine dr_read (i := 6) (lb 11 127) rfl rfl (by kernel_rfl) ⟨hS.cell rfl, hS.cell rfl, hS.cells rfl, hS.has⟩ (fun w hS => (y_mgetH Tryz.underlying256 Tryz.underlying9 z_65 rfl rfl hr hS.2.2.2).val (show _ = vv (vGet u.key kv) by unfold vGet; cases kvGet u.key kv <;> rfl)) ?_
    refine dr_read (i := 7) (lb 11 255) rfl rfl (by kernel_rfl) ⟨hS.cell rfl, hS.cell rfl, hS.cells rfl, hS.has⟩ (fun w hS => (y_loadS st_59 sz_59 rfl hS.2.2.1 rfl).val (show _ = uv u from rfl)) ?_
    refine dr_do2 (i := 8) (j := 9) (lb 11 511) (lb 11 767) rfl rfl (by kernel_rfl) ?_ ?_
    ·  -- 8 first
      refine wl_call (.cons rfl (.cons rfl .nil)) (apply_c (vGet u.key kv) u (by omega) (by omega) hS) rfl ?_
      rintro _ w ⟨rfl, hS⟩
      refine wl_nil ⟨fun h => absurd (by decide) h, ?_⟩
      refine dr_do (i := 9) (lb 11 1023) rfl (by kernel_rfl) ?_
      refine a_alloc z_65 hS rfl fun b6 w hS => ?_
      refine wl_nil ⟨fun _ _ => ⟨hS.cell rfl, hS.cell rfl, hS.cells rfl, hS.has⟩, ?_⟩
      refine dr_do (i := 10) (lb 11 2047) rfl (by kernel_rfl) ?_
      refine a_storeS (vs := [_, _, _]) sz_65 rfl rfl rfl rfl hS (Nat.le_of_ble_eq_true rfl) fun w hS => ?_
      refine wl_nil ⟨fun h => absurd (by decide) h, ?_⟩
      refine dr_done (by kernel_rfl) ?_
      refine wc_seq ?_
      refine wc_seq ?_
      refine wc_region ?_
      refine wl (y_fld fl_65_0 rfl) rfl ?_
      refine wl (y_load pl_3 rfl (hS.cell rfl)) rfl ?_
      refine wl (y_eql rfl rfl) rfl ?_
      refine wl_nil ?_
      refine wc_if rfl (fun hc23 => ?_) (fun hc23 => ?_)
      · try simp only [zq1, zq2, zq3, zq4, zq5, zq6, zq7] at hc23
        have hq : sdo kv u = kvDel u.key kv := by unfold sdo; rw [if_neg (by omega), if_pos (by omega)]
        rw [hq]
        refine wc_draw (l0 := (lb 7 0)) (fun w => w.cell? ⟨p, 0, none⟩ = some (.map (some mp)) ∧ w.cell? ⟨b3, 0, none⟩ = some (.string u.key)) [6] wide_ rfl rfl fun w hw => ?_
        replace hS := hS.same hw; clear hw
        refine dr_pure (i := 0) (lb 7 1) rfl rfl (by kernel_rfl) (fun w => y_move rfl) ?_
        refine dr_pure (i := 1) (lb 7 3) rfl rfl (by kernel_rfl) (fun w => y_nil rfl) ?_
        refine dr_pure (i := 2) (lb 7 7) rfl rfl (by kernel_rfl) (fun w => y_fld fl_258_0 rfl) ?_
        refine dr_pure (i := 4) (lb 7 23) rfl rfl (by kernel_rfl) (fun w => y_fld fl_59_0 rfl) ?_
        refine dr_read (i := 3) (lb 7 31) rfl rfl (by kernel_rfl) ⟨hS.cell rfl, hS.cell rfl⟩ (fun w hS => y_load pl_256 rfl hS.1) ?_
        refine dr_read (i := 5) (lb 7 63) rfl rfl (by kernel_rfl) ⟨hS.cell rfl, hS.cell rfl⟩ (fun w hS => y_load pl_9 rfl hS.2) ?_
        refine dr_do (i := 6) (lb 7 127) rfl (by kernel_rfl) ?_
        refine a_mdel Tryz.underlying256 Tryz.underlying9 rfl rfl hm0 hS fun H2 w hm2 hS => ?_
        refine wl_nil ⟨fun h => absurd (by decide) h, ?_⟩
        refine dr_done (by kernel_rfl) ?_
        refine wc_seq ?_
        refine wc_region ?_
        refine wl (y_assign rfl) rfl ?_
        refine wl_nil ?_
        refine wc_ret ?_
        refine wret (vs := [_]) (.tmp rfl .nil) ?_
        first
        | exact ⟨_, rfl, ⟨mp, H2, hm2, rfl⟩, hS.keep⟩
        | exact ⟨_, rfl, hb0, hS.keep⟩
      · try simp only [zq1, zq2, zq3, zq4, zq5, zq6, zq7] at hc23
        have hq : sdo kv u = kvSet u.key (apply (vGet u.key kv) u) kv := by unfold sdo; rw [if_neg (by omega), if_neg (by omega)]
        rw [hq]
        refine wc_draw (l0 := (lb 8 0)) (fun w => w.cell? ⟨p, 0, none⟩ = some (.map (some mp)) ∧ w.cell? ⟨b3, 0, none⟩ = some (.string u.key) ∧ CellsAt w b6 0 [.int .i64 (apply (vGet u.key kv) u).kind, .int .i64 (apply (vGet u.key kv) u).n, .string (apply (vGet u.key kv) u).s]) [7] wide_ rfl rfl fun w hw => ?_
        replace hS := hS.same hw; clear hw
        refine dr_pure (i := 0) (lb 8 1) rfl rfl (by kernel_rfl) (fun w => y_move rfl) ?_
        refine dr_pure (i := 1) (lb 8 3) rfl rfl (by kernel_rfl) (fun w => y_nil rfl) ?_
        refine dr_pure (i := 2) (lb 8 7) rfl rfl (by kernel_rfl) (fun w => y_fld fl_258_0 rfl) ?_
        refine dr_pure (i := 4) (lb 8 23) rfl rfl (by kernel_rfl) (fun w => y_fld fl_59_0 rfl) ?_
        refine dr_read (i := 3) (lb 8 31) rfl rfl (by kernel_rfl) ⟨hS.cell rfl, hS.cell rfl, hS.cells rfl⟩ (fun w hS => y_load pl_256 rfl hS.1) ?_
        refine dr_read (i := 5) (lb 8 63) rfl rfl (by kernel_rfl) ⟨hS.cell rfl, hS.cell rfl, hS.cells rfl⟩ (fun w hS => y_load pl_9 rfl hS.2.1) ?_
        refine dr_read (i := 6) (lb 8 127) rfl rfl (by kernel_rfl) ⟨hS.cell rfl, hS.cell rfl, hS.cells rfl⟩ (fun w hS => (y_loadS st_65 sz_65 rfl hS.2.2 rfl).val (show _ = vv (apply (vGet u.key kv) u) from rfl)) ?_
        refine dr_do (i := 7) (lb 8 255) rfl (by kernel_rfl) ?_
        refine a_mset Tryz.underlying256 Tryz.underlying9 rfl rfl rfl hm0 hS fun H2 w hm2 hS => ?_
        refine wl_nil ⟨fun h => absurd (by decide) h, ?_⟩
        refine dr_done (by kernel_rfl) ?_
        refine wc_seq ?_
        refine wc_region ?_
        refine wl (y_assign rfl) rfl ?_
        refine wl_nil ?_
        refine wc_ret ?_
        refine wret (vs := [_]) (.tmp rfl .nil) ?_
        first
        | exact ⟨_, rfl, ⟨mp, H2, hm2, rfl⟩, hS.keep⟩
        | exact ⟨_, rfl, hb0, hS.keep⟩
    ·  -- 9 first
      refine a_alloc z_65 hS rfl fun b6 w hS => ?_
      refine wl_nil ⟨fun _ _ => ⟨hS.cell rfl, hS.cell rfl, hS.cells rfl, hS.has⟩, ?_⟩
      refine dr_do (i := 8) (lb 11 1023) rfl (by kernel_rfl) ?_
      refine wl_call (.cons rfl (.cons rfl .nil)) (apply_c (vGet u.key kv) u (by omega) (by omega) hS) rfl ?_
      rintro _ w ⟨rfl, hS⟩
      refine wl_nil ⟨fun h => absurd (by decide) h, ?_⟩
      refine dr_do (i := 10) (lb 11 2047) rfl (by kernel_rfl) ?_
      refine a_storeS (vs := [_, _, _]) sz_65 rfl rfl rfl rfl hS (Nat.le_of_ble_eq_true rfl) fun w hS => ?_
      refine wl_nil ⟨fun h => absurd (by decide) h, ?_⟩
      refine dr_done (by kernel_rfl) ?_
      refine wc_seq ?_
      refine wc_seq ?_
      refine wc_region ?_
      refine wl (y_fld fl_65_0 rfl) rfl ?_
      refine wl (y_load pl_3 rfl (hS.cell rfl)) rfl ?_
      refine wl (y_eql rfl rfl) rfl ?_
      refine wl_nil ?_
      refine wc_if rfl (fun hc23 => ?_) (fun hc23 => ?_)
      · try simp only [zq1, zq2, zq3, zq4, zq5, zq6, zq7] at hc23
        have hq : sdo kv u = kvDel u.key kv := by unfold sdo; rw [if_neg (by omega), if_pos (by omega)]
        rw [hq]
        refine wc_draw (l0 := (lb 7 0)) (fun w => w.cell? ⟨p, 0, none⟩ = some (.map (some mp)) ∧ w.cell? ⟨b3, 0, none⟩ = some (.string u.key)) [6] wide_ rfl rfl fun w hw => ?_
        replace hS := hS.same hw; clear hw
        refine dr_pure (i := 0) (lb 7 1) rfl rfl (by kernel_rfl) (fun w => y_move rfl) ?_
        refine dr_pure (i := 1) (lb 7 3) rfl rfl (by kernel_rfl) (fun w => y_nil rfl) ?_
        refine dr_pure (i := 2) (lb 7 7) rfl rfl (by kernel_rfl) (fun w => y_fld fl_258_0 rfl) ?_
        refine dr_pure (i := 4) (lb 7 23) rfl rfl (by kernel_rfl) (fun w => y_fld fl_59_0 rfl) ?_
        refine dr_read (i := 3) (lb 7 31) rfl rfl (by kernel_rfl) ⟨hS.cell rfl, hS.cell rfl⟩ (fun w hS => y_load pl_256 rfl hS.1) ?_
        refine dr_read (i := 5) (lb 7 63) rfl rfl (by kernel_rfl) ⟨hS.cell rfl, hS.cell rfl⟩ (fun w hS => y_load pl_9 rfl hS.2) ?_
        refine dr_do (i := 6) (lb 7 127) rfl (by kernel_rfl) ?_
        refine a_mdel Tryz.underlying256 Tryz.underlying9 rfl rfl hm0 hS fun H2 w hm2 hS => ?_
        refine wl_nil ⟨fun h => absurd (by decide) h, ?_⟩
        refine dr_done (by kernel_rfl) ?_
        refine wc_seq ?_
        refine wc_region ?_
        refine wl (y_assign rfl) rfl ?_
        refine wl_nil ?_
        refine wc_ret ?_
        refine wret (vs := [_]) (.tmp rfl .nil) ?_
        first
        | exact ⟨_, rfl, ⟨mp, H2, hm2, rfl⟩, hS.keep⟩
        | exact ⟨_, rfl, hb0, hS.keep⟩
      · try simp only [zq1, zq2, zq3, zq4, zq5, zq6, zq7] at hc23
        have hq : sdo kv u = kvSet u.key (apply (vGet u.key kv) u) kv := by unfold sdo; rw [if_neg (by omega), if_neg (by omega)]
        rw [hq]
        refine wc_draw (l0 := (lb 8 0)) (fun w => w.cell? ⟨p, 0, none⟩ = some (.map (some mp)) ∧ w.cell? ⟨b3, 0, none⟩ = some (.string u.key) ∧ CellsAt w b6 0 [.int .i64 (apply (vGet u.key kv) u).kind, .int .i64 (apply (vGet u.key kv) u).n, .string (apply (vGet u.key kv) u).s]) [7] wide_ rfl rfl fun w hw => ?_
        replace hS := hS.same hw; clear hw
        refine dr_pure (i := 0) (lb 8 1) rfl rfl (by kernel_rfl) (fun w => y_move rfl) ?_
        refine dr_pure (i := 1) (lb 8 3) rfl rfl (by kernel_rfl) (fun w => y_nil rfl) ?_
        refine dr_pure (i := 2) (lb 8 7) rfl rfl (by kernel_rfl) (fun w => y_fld fl_258_0 rfl) ?_
        refine dr_pure (i := 4) (lb 8 23) rfl rfl (by kernel_rfl) (fun w => y_fld fl_59_0 rfl) ?_
        refine dr_read (i := 3) (lb 8 31) rfl rfl (by kernel_rfl) ⟨hS.cell rfl, hS.cell rfl, hS.cells rfl⟩ (fun w hS => y_load pl_256 rfl hS.1) ?_
        refine dr_read (i := 5) (lb 8 63) rfl rfl (by kernel_rfl) ⟨hS.cell rfl, hS.cell rfl, hS.cells rfl⟩ (fun w hS => y_load pl_9 rfl hS.2.1) ?_
        refine dr_read (i := 6) (lb 8 127) rfl rfl (by kernel_rfl) ⟨hS.cell rfl, hS.cell rfl, hS.cells rfl⟩ (fun w hS => (y_loadS st_65 sz_65 rfl hS.2.2 rfl).val (show _ = vv (apply (vGet u.key kv) u) from rfl)) ?_
        refine dr_do (i := 7) (lb 8 255) rfl (by kernel_rfl) ?_
        refine a_mset Tryz.underlying256 Tryz.underlying9 rfl rfl rfl hm0 hS fun H2 w hm2 hS => ?_
        refine wl_nil ⟨fun h => absurd (by decide) h, ?_⟩
        refine dr_done (by kernel_rfl) ?_
        refine wc_seq ?_
        refine wc_region ?_
        refine wl (y_assign rfl) rfl ?_
        refine wl_nil ?_
        refine wc_ret ?_
        refine wret (vs := [_]) (.tmp rfl .nil) ?_
        first
        | exact ⟨_, rfl, ⟨mp, H2, hm2, rfl⟩, hS.keep⟩
        | exact ⟨_, rfl, hb0, hS.keep⟩
end
end Go.Proofs.YtndahppmjdbifaaGreatDoor.Sto

set_option linter.unusedVariables false
set_option linter.unusedSimpArgs false
namespace Go.Proofs.YtndahppmjdbifaaGreatDoor.Sto
open Go Go.Proofs Go.Proofs.YtndahppmjdbifaaGreatDoor.Eng Go.Proofs.YtndahppmjdbifaaGreatDoor.Pre Go.Proofs.YtndahppmjdbifaaGreatDoor.Val Go.Proofs.YtndahppmjdbifaaGreatDoor.Rou Go.Proofs.YtndahppmjdbifaaGreatDoor.Jnl Go.Proofs.YtndahppmjdbifaaGreatDoor.Cli Go.Proofs.YtndahppmjdbifaaGreatDoor.Nod
@[irreducible] def state (rs : List Rnd) (opn : List Upd) : KV := sdoL [] (rs.flatMap (·.ups) ++ opn)
theorem kvOk_nil : kvOk [] := fun p hp => absurd hp (by simp)
def _root_.Go.Proofs.YtndahppmjdbifaaGreatDoor.Cli.Cli.read (m : Cli) (k : ByteArray) : Valu := vGet k (state (m.known ++ m.pending) m.opn)
def _root_.Go.Proofs.YtndahppmjdbifaaGreatDoor.Cli.Cli.len (m : Cli) : Nat := (state (m.known ++ m.pending) m.opn).length
section
variable {M : Mem} {w : World} {Ls : List Chunk}
theorem rstate_c (opn : List Upd) (so : Value) (ho : Rd M encU so opn) (hol : opn.length ≤ 137438953472) {xs : List RV} {rs : List Rnd} (s : Value) {Hx : Chunk} (hxl : rs.length ≤ 137438953472) (hx : Own 48 encRV s xs Hx) (hr : Rvs M xs rs) (hS : St M w (Hx :: Ls)) :
    CallsR Tryz.prog 177 [so, s].toArray w fun v w' => ∃ p H, v = .pointer (some ⟨p, 0, none⟩) ∧ IsSt p (state rs opn) H ∧ St M w' (H :: Hx :: Ls) := by
  have hlen := hr.len
  obtain ⟨oa, oc, rfl⟩ := (ho.holds hS).slice
  obtain ⟨sa, sc, rfl⟩ := hx.slice
  refine calls_of (c := _) (rs := _) (n := 42) Tryz.func177 rfl rfl rfl rfl rfl ?_
  refine wc_seq ?_
  refine wc_region ?_
  refine wl (y_assign rfl) rfl ?_
  refine wl_nil ?_
  refine wc_seq ?_
  refine wc_region ?_
  refine wl_call .nil (snew_c hS) rfl ?_
  rintro _ w ⟨p, H, rfl, hst, hS⟩
  refine wl (y_assign rfl) rfl ?_
  refine wl_nil ?_
  refine wc_seq ?_
  refine wc_seq ?_
  refine wc_region ?_
  refine wl (y_move rfl) rfl ?_
  refine wl (y_len_sl Tryz.underlying32 rfl) rfl ?_
  refine wl (y_move rfl) rfl ?_
  refine wl_nil ?_
  refine wc_block ?_
  refine wc_loop (α := Nat × Chunk) (fun ⟨i, _⟩ => [(0, .slice oa opn.length oc), (5, .pointer (some ⟨p, 0, none⟩)), (13, .slice sa xs.length sc), (14, .int .i64 xs.length), (15, .int .i64 i)]) (fun ⟨i, H1⟩ w => i ≤ xs.length ∧ IsSt p (sdoL [] ((rs.take i).flatMap (·.ups))) H1 ∧ St M w (H1 :: Hx :: Ls)) (fun ⟨i, _⟩ => xs.length - i) (0, H) (sub_cons rfl (sub_cons rfl (sub_cons rfl (sub_cons rfl (sub_cons rfl sub_nil))))) ⟨by omega, hst, hS⟩ ?_
  clear hS hst
  rintro ⟨i, H1⟩ w ⟨hi, hst, hS⟩
  refine wc_seq ?_
  refine wc_region ?_
  refine wl (y_lss rfl rfl) rfl ?_
  refine wl_nil ?_
  refine wc_seq ?_
  refine wc_if rfl (fun hc16 => ?_) (fun hc16 => ?_)
  · try simp only [zq1, zq2, zq3, zq4, zq5, zq6, zq7] at hc16
    refine wc_skip ?_
    refine wc_seq ?_
    refine wc_block ?_
    refine wc_seq ?_
    have hi' : i < xs.length := by omega
    obtain ⟨r, hri⟩ : ∃ r, rs[i]? = some r := ⟨_, List.getElem?_eq_getElem (by omega)⟩
    obtain ⟨x, hx', hxr⟩ := hr.at hri
    have htk : (rs.take (i + 1)).flatMap (·.ups) = (rs.take i).flatMap (·.ups) ++ r.ups := by rw [List.take_add_one, hri]; simp
    obtain ⟨bb, off, c', hse, hce⟩ := (hx.holds (hS.pull Hx)).at hx'
    simp only [Value.slice.injEq] at hse
    have hSk := hS
    obtain ⟨rfl, _, rfl⟩ := hse
    replace hS := hSk
    have hxu := hxr.2.2.1
    have hxl2 := hxr.2.2.2
    obtain ⟨ua, uc, hue⟩ := (hxu.holds hS).slice
    rw [hue] at hxu
    refine wc_region ?_
    refine wl (y_ixa_sl Tryz.underlying32 sz_48 rfl rfl (by omega) (by omega)) rfl ?_
    refine wl ((y_loadS st_48 sz_48 rfl (vs := encRV.f x) hce rfl).val (show _ = rvS r (.slice ua r.ups.length uc) by rw [hxr.val, hue])) rfl ?_
    refine a_alloc z_48 hS rfl fun b7 w hS => ?_
    refine a_storeS (vs := [_, _, _]) sz_48 rfl rfl rfl rfl hS (Nat.le_of_ble_eq_true rfl) fun w hS => ?_
    refine wl_nil ?_
    refine wc_seq ?_
    refine wc_region ?_
    refine wl (y_fld fl_48_2 rfl) rfl ?_
    refine wl (y_load pl_46 rfl (hS.cell (v := .slice ua r.ups.length uc) rfl)) rfl ?_
    refine wl (y_len_sl Tryz.underlying46 rfl) rfl ?_
    refine wl (y_move rfl) rfl ?_
    refine wl_nil ?_
    refine wc_block ?_
    refine wc_loop (α := Nat × Chunk) (fun ⟨j, _⟩ => [(0, .slice oa opn.length oc), (5, .pointer (some ⟨p, 0, none⟩)), (13, .slice (some ⟨bb, off, none⟩) xs.length sc), (14, .int .i64 xs.length), (15, .int .i64 i), (20, .slice ua r.ups.length uc), (21, .int .i64 r.ups.length), (22, .int .i64 j)]) (fun ⟨j, H2⟩ w => j ≤ r.ups.length ∧ IsSt p (sdoL [] ((rs.take i).flatMap (·.ups) ++ r.ups.take j)) H2 ∧ St M w (H2 :: Hx :: Ls)) (fun ⟨j, _⟩ => r.ups.length - j) (0, H1) (sub_cons rfl (sub_cons rfl (sub_cons rfl (sub_cons rfl (sub_cons rfl (sub_cons rfl (sub_cons rfl (sub_cons rfl sub_nil)))))))) ⟨by omega, by simpa using hst, hS.keep⟩ ?_
    clear hS hst
    rintro ⟨j, H2⟩ w ⟨hj, hst, hS⟩
    refine wc_seq ?_
    refine wc_region ?_
    refine wl (y_lss rfl rfl) rfl ?_
    refine wl_nil ?_
    refine wc_seq ?_
    refine wc_if rfl (fun hc23 => ?_) (fun hc23 => ?_)
    · try simp only [zq1, zq2, zq3, zq4, zq5, zq6, zq7] at hc23
      refine wc_skip ?_
      refine wc_seq ?_
      refine wc_block ?_
      refine wc_seq ?_
      have hj' : j < r.ups.length := by omega
      obtain ⟨u, hu⟩ : ∃ u, r.ups[j]? = some u := ⟨_, List.getElem?_eq_getElem hj'⟩
      have htj : (rs.take i).flatMap (·.ups) ++ r.ups.take (j + 1) = ((rs.take i).flatMap (·.ups) ++ r.ups.take j) ++ [u] := by rw [List.take_add_one, hu, List.append_assoc]; rfl
      obtain ⟨bb2, off2, c2, hse, hce⟩ := (hxu.holds hS).at hu
      simp only [Value.slice.injEq] at hse
      have hSk := hS
      obtain ⟨rfl, _, rfl⟩ := hse
      replace hS := hSk
      refine wc_region ?_
      refine wl (y_ixa_sl Tryz.underlying46 sz_59 rfl rfl (by omega) (by omega)) rfl ?_
      refine wl ((y_loadS st_59 sz_59 rfl (vs := encU.f u) hce rfl).val (show _ = uv u from rfl)) rfl ?_
      refine a_alloc z_59 hS rfl fun b9 w hS => ?_
      refine a_storeS (vs := [_, _, _, _]) sz_59 rfl rfl rfl rfl hS (Nat.le_of_ble_eq_true rfl) fun w hS => ?_
      refine wl_nil ?_
      refine wc_region ?_
      refine wl (y_move rfl) rfl ?_
      refine wl ((y_loadS st_59 sz_59 rfl (vs := encU.f u) (hS.cells rfl) rfl).val (show _ = uv u from rfl)) rfl ?_
      refine wl_call (.cons rfl (.cons rfl .nil)) (sdo_c u (sdoL_ok kvOk_nil _) hst (hS.pull H2)) rfl ?_
      rintro _ w ⟨H3, rfl, hst2, hS⟩
      refine wl_nil ?_
      refine wc_region ?_
      refine wl (y_add rfl rfl (w64 (by omega) (by omega))) rfl ?_
      refine wl (y_move rfl) rfl ?_
      refine wl_nil ?_
      exact ⟨(j + 1, H3), by simp only; omega, sub_cons rfl (sub_cons rfl (sub_cons rfl (sub_cons rfl (sub_cons rfl (sub_cons rfl (sub_cons rfl (sub_cons rfl sub_nil))))))), by omega, by rw [htj, sdoL_app]; exact hst2, hS.keep⟩
    · try simp only [zq1, zq2, zq3, zq4, zq5, zq6, zq7] at hc23
      obtain rfl : j = r.ups.length := by omega
      rw [List.take_length, ← htk] at hst
      refine wc_exit ?_
      refine wc_region ?_
      refine wl (y_add rfl rfl (w64 (by omega) (by omega))) rfl ?_
      refine wl (y_move rfl) rfl ?_
      refine wl_nil ?_
      exact ⟨(i + 1, H2), by simp only; omega, sub_cons rfl (sub_cons rfl (sub_cons rfl (sub_cons rfl (sub_cons rfl sub_nil)))), by omega, hst, hS⟩
  · try simp only [zq1, zq2, zq3, zq4, zq5, zq6, zq7] at hc16
    obtain rfl : i = xs.length := by omega
    rw [hlen, List.take_length] at hst
    refine wc_exit ?_
    refine wc_seq ?_
    refine wc_seq ?_
    refine wc_region ?_
    refine wl (y_move rfl) rfl ?_
    refine wl (y_len_sl Tryz.underlying46 rfl) rfl ?_
    refine wl (y_move rfl) rfl ?_
    refine wl_nil ?_
    refine wc_block ?_
    refine wc_loop (α := Nat × Chunk) (fun ⟨j, _⟩ => [(5, .pointer (some ⟨p, 0, none⟩)), (31, .slice oa opn.length oc), (32, .int .i64 opn.length), (33, .int .i64 j)]) (fun ⟨j, H2⟩ w => j ≤ opn.length ∧ IsSt p (sdoL [] (rs.flatMap (·.ups) ++ opn.take j)) H2 ∧ St M w (H2 :: Hx :: Ls)) (fun ⟨j, _⟩ => opn.length - j) (0, H1) (sub_cons rfl (sub_cons rfl (sub_cons rfl (sub_cons rfl sub_nil)))) ⟨by omega, by simpa using hst, hS.keep⟩ ?_
    clear hS hst
    rintro ⟨j, H2⟩ w ⟨hj, hst, hS⟩
    refine wc_seq ?_
    refine wc_region ?_
    refine wl (y_lss rfl rfl) rfl ?_
    refine wl_nil ?_
    refine wc_seq ?_
    refine wc_if rfl (fun hc34 => ?_) (fun hc34 => ?_)
    · try simp only [zq1, zq2, zq3, zq4, zq5, zq6, zq7] at hc34
      refine wc_skip ?_
      refine wc_seq ?_
      refine wc_block ?_
      refine wc_seq ?_
      have hj' : j < opn.length := by omega
      obtain ⟨u, hu⟩ : ∃ u, opn[j]? = some u := ⟨_, List.getElem?_eq_getElem hj'⟩
      have htj : rs.flatMap (·.ups) ++ opn.take (j + 1) = (rs.flatMap (·.ups) ++ opn.take j) ++ [u] := by rw [List.take_add_one, hu, List.append_assoc]; rfl
      obtain ⟨bb2, off2, c2, hse, hce⟩ := (ho.holds hS).at hu
      simp only [Value.slice.injEq] at hse
      have hSk := hS
      obtain ⟨rfl, _, rfl⟩ := hse
      replace hS := hSk
      refine wc_region ?_
      refine wl (y_ixa_sl Tryz.underlying46 sz_59 rfl rfl (by omega) (by omega)) rfl ?_
      refine wl ((y_loadS st_59 sz_59 rfl (vs := encU.f u) hce rfl).val (show _ = uv u from rfl)) rfl ?_
      refine a_alloc z_59 hS rfl fun b11 w hS => ?_
      refine a_storeS (vs := [_, _, _, _]) sz_59 rfl rfl rfl rfl hS (Nat.le_of_ble_eq_true rfl) fun w hS => ?_
      refine wl_nil ?_
      refine wc_region ?_
      refine wl (y_move rfl) rfl ?_
      refine wl ((y_loadS st_59 sz_59 rfl (vs := encU.f u) (hS.cells rfl) rfl).val (show _ = uv u from rfl)) rfl ?_
      refine wl_call (.cons rfl (.cons rfl .nil)) (sdo_c u (sdoL_ok kvOk_nil _) hst (hS.pull H2)) rfl ?_
      rintro _ w ⟨H3, rfl, hst2, hS⟩
      refine wl_nil ?_
      refine wc_region ?_
      refine wl (y_add rfl rfl (w64 (by omega) (by omega))) rfl ?_
      refine wl (y_move rfl) rfl ?_
      refine wl_nil ?_
      exact ⟨(j + 1, H3), by simp only; omega, sub_cons rfl (sub_cons rfl (sub_cons rfl (sub_cons rfl sub_nil))), by omega, by rw [htj, sdoL_app]; exact hst2, hS.keep⟩
    · try simp only [zq1, zq2, zq3, zq4, zq5, zq6, zq7] at hc34
      obtain rfl : j = opn.length := by omega
      rw [List.take_length] at hst
      refine wc_exit ?_
      refine wc_seq ?_
      refine wc_region ?_
      refine wl (y_move rfl) rfl ?_
      refine wl (y_assign rfl) rfl ?_
      refine wl_nil ?_
      refine wc_ret ?_
      refine wret (vs := [_]) (.tmp rfl .nil) ?_
      exact ⟨p, H2, rfl, by unfold state; exact hst, hS⟩
theorem rread_c (k : ByteArray) (opn : List Upd) (so : Value) (ho : Rd M encU so opn) (hol : opn.length ≤ 137438953472) {xs : List RV} {rs : List Rnd} (s : Value) {Hx : Chunk} (hxl : rs.length ≤ 137438953472) (hx : Own 48 encRV s xs Hx) (hr : Rvs M xs rs) (hS : St M w (Hx :: Ls)) :
    CallsR Tryz.prog 143 [.string k, so, s].toArray w fun v w' => v = vv (vGet k (state rs opn)) ∧ St M w' (Hx :: Ls) := by
  obtain ⟨oa, oc, rfl⟩ := (ho.holds hS).slice
  obtain ⟨sa, sc, rfl⟩ := hx.slice
  refine calls_of (c := _) (rs := _) (n := 12) Tryz.func143 rfl rfl rfl rfl rfl ?_
  refine wc_seq ?_
  refine wc_region ?_
  refine a_alloc z_65 hS rfl fun b6 w hS => ?_
  refine wl_nil ?_
  refine wc_seq ?_
  refine wc_region ?_
  refine wl (y_move rfl) rfl ?_
  refine wl (y_move rfl) rfl ?_
  refine wl_call (.cons rfl (.cons rfl .nil)) (rstate_c opn _ ho hol _ hxl hx hr (hS.pull Hx)) rfl ?_
  rintro _ w ⟨p, H, rfl, hst, hS⟩
  refine wl (y_move rfl) rfl ?_
  refine wl_call (.cons rfl (.cons rfl .nil)) (sget_c k hst hS) rfl ?_
  rintro _ w ⟨rfl, hS⟩
  refine a_storeS (vs := [_, _, _]) sz_65 rfl rfl rfl rfl hS (Nat.le_of_ble_eq_true rfl) fun w hS => ?_
  refine wl_nil ?_
  refine wc_ret ?_
  refine wret (vs := [_]) (.cell rfl (loadVar_struct st_65 sz_65 (vs := [_, _, _]) rfl (hS.cells rfl)) .nil) ?_
  exact ⟨rfl, hS.keep⟩
theorem rlen_c (opn : List Upd) (so : Value) (ho : Rd M encU so opn) (hol : opn.length ≤ 137438953472) {xs : List RV} {rs : List Rnd} (s : Value) {Hx : Chunk} (hxl : rs.length ≤ 137438953472) (hx : Own 48 encRV s xs Hx) (hr : Rvs M xs rs) (hS : St M w (Hx :: Ls)) :
    CallsR Tryz.prog 156 [so, s].toArray w fun v w' => v = .int .i64 (state rs opn).length ∧ St M w' (Hx :: Ls) := by
  obtain ⟨oa, oc, rfl⟩ := (ho.holds hS).slice
  obtain ⟨sa, sc, rfl⟩ := hx.slice
  refine calls_of (c := _) (rs := _) (n := 9) Tryz.func156 rfl rfl rfl rfl rfl ?_
  refine wc_seq ?_
  refine wc_region ?_
  refine wl (y_assign rfl) rfl ?_
  refine wl_nil ?_
  refine wc_seq ?_
  refine wc_region ?_
  refine wl (y_move rfl) rfl ?_
  refine wl (y_move rfl) rfl ?_
  refine wl_call (.cons rfl (.cons rfl .nil)) (rstate_c opn _ ho hol _ hxl hx hr (hS.pull Hx)) rfl ?_
  rintro _ w ⟨p, H, rfl, hst, hS⟩
  refine wl_call (.cons rfl .nil) (slen_c hst hS) rfl ?_
  rintro _ w ⟨rfl, hS⟩
  refine wl (y_assign rfl) rfl ?_
  refine wl_nil ?_
  refine wc_ret ?_
  refine wret (vs := [_]) (.tmp rfl .nil) ?_
  exact ⟨rfl, hS.keep⟩
theorem cread_c (k : ByteArray) {p jp : Nat} {m : Cli} {H : Chunk} (hl : m.known.length + m.pending.length ≤ 13743895347) (hol : m.opn.length ≤ 137438953472) (hb : IsC M p jp m H) (hS : St M w (H :: Ls)) :
    CallsR Tryz.prog 83 [.pointer (some ⟨p, 0, none⟩), .string k].toArray w fun v w' => v = vv (m.read k) ∧ St M w' (H :: Ls) := by
  have hb0 := hb
  obtain ⟨xs, sk, Hk, ys, sp, Hp, so, h1, h2, h3, h4, h5, rfl⟩ := hb
  obtain ⟨oa, oc, rfl⟩ := (h5.holds hS).slice
  have e2 := h2.len
  have e4 := h4.len
  refine calls_of (c := _) (rs := _) (n := 13) Tryz.func83 rfl rfl rfl rfl rfl ?_
  refine wc_seq ?_
  refine wc_region ?_
  refine a_alloc z_65 hS rfl fun b4 w hS => ?_
  refine wl_nil ?_
  refine wc_seq ?_
  refine wc_draw (l0 := (lb 9 0)) (fun w => w.cell? ⟨p, 6, none⟩ = some (.slice oa m.opn.length oc)) [7, 8] wide_ rfl rfl fun w hw => ?_
  replace hS := hS.same hw; clear hw
  refine dr_pure (i := 0) (lb 9 1) rfl rfl (by kernel_rfl) (fun w => y_move rfl) ?_
  refine dr_pure (i := 1) (lb 9 3) rfl rfl (by kernel_rfl) (fun w => y_move rfl) ?_
  refine dr_pure (i := 2) (lb 9 7) rfl rfl (by kernel_rfl) (fun w => y_nil rfl) ?_
  refine dr_pure (i := 3) (lb 9 15) rfl rfl (by kernel_rfl) (fun w => y_fld fl_168_6 rfl) ?_
  refine dr_pure (i := 5) (lb 9 47) rfl rfl (by kernel_rfl) (fun w => y_move rfl) ?_
  refine dr_read (i := 4) (lb 9 63) rfl rfl (by kernel_rfl) (hS.cell rfl) (fun w hS => y_load pl_46 rfl hS) ?_
  refine dr_do (i := 6) (lb 9 127) rfl (by kernel_rfl) ?_
  refine wl_call (.cons rfl .nil) (cseen_c (by omega) hb0 (hS.pull _)) rfl ?_
  rintro v w ⟨zs, Hz, ho, hr, hS⟩
  obtain ⟨za, zc, rfl⟩ := ho.slice
  refine wl_nil ⟨fun _ _ => hS.cell rfl, ?_⟩
  refine dr_do (i := 7) (lb 9 255) rfl (by kernel_rfl) ?_
  refine wl_call (.cons rfl (.cons rfl (.cons rfl .nil))) (rread_c k m.opn _ h5 hol _ (by rw [List.length_append]; omega) ho hr (hS.pull Hz)) rfl ?_
  rintro _ w ⟨rfl, hS⟩
  refine wl_nil ⟨fun h => absurd (by decide) h, ?_⟩
  refine dr_do (i := 8) (lb 9 511) rfl (by kernel_rfl) ?_
  refine a_storeS (vs := [_, _, _]) sz_65 rfl rfl rfl rfl hS (Nat.le_of_ble_eq_true rfl) fun w hS => ?_
  refine wl_nil ⟨fun h => absurd (by decide) h, ?_⟩
  refine dr_done (by kernel_rfl) ?_
  refine wc_ret ?_
  refine wret (vs := [_]) (.cell rfl (loadVar_struct st_65 sz_65 (vs := [_, _, _]) rfl (hS.cells rfl)) .nil) ?_
  exact ⟨rfl, hS.keep⟩
theorem clen_c {p jp : Nat} {m : Cli} {H : Chunk} (hl : m.known.length + m.pending.length ≤ 13743895347) (hol : m.opn.length ≤ 137438953472) (hb : IsC M p jp m H) (hS : St M w (H :: Ls)) :
    CallsR Tryz.prog 105 [.pointer (some ⟨p, 0, none⟩)].toArray w fun v w' => v = .int .i64 m.len ∧ St M w' (H :: Ls) := by
  have hb0 := hb
  obtain ⟨xs, sk, Hk, ys, sp, Hp, so, h1, h2, h3, h4, h5, rfl⟩ := hb
  obtain ⟨oa, oc, rfl⟩ := (h5.holds hS).slice
  have e2 := h2.len
  have e4 := h4.len
  refine calls_of (c := _) (rs := _) (n := 10) Tryz.func105 rfl rfl rfl rfl rfl ?_
  refine wc_seq ?_
  refine wc_region ?_
  refine wl (y_assign rfl) rfl ?_
  refine wl_nil ?_
  refine wc_seq ?_
  refine wc_draw (l0 := (lb 8 0)) (fun w => w.cell? ⟨p, 6, none⟩ = some (.slice oa m.opn.length oc)) [6, 7] wide_ rfl rfl fun w hw => ?_
  replace hS := hS.same hw; clear hw
  refine dr_pure (i := 0) (lb 8 1) rfl rfl (by kernel_rfl) (fun w => y_move rfl) ?_
  refine dr_pure (i := 1) (lb 8 3) rfl rfl (by kernel_rfl) (fun w => y_nil rfl) ?_
  refine dr_pure (i := 2) (lb 8 7) rfl rfl (by kernel_rfl) (fun w => y_fld fl_168_6 rfl) ?_
  refine dr_pure (i := 4) (lb 8 23) rfl rfl (by kernel_rfl) (fun w => y_move rfl) ?_
  refine dr_read (i := 3) (lb 8 31) rfl rfl (by kernel_rfl) (hS.cell rfl) (fun w hS => y_load pl_46 rfl hS) ?_
  refine dr_do (i := 5) (lb 8 63) rfl (by kernel_rfl) ?_
  refine wl_call (.cons rfl .nil) (cseen_c (by omega) hb0 (hS.pull _)) rfl ?_
  rintro v w ⟨zs, Hz, ho, hr, hS⟩
  obtain ⟨za, zc, rfl⟩ := ho.slice
  refine wl_nil ⟨fun _ _ => hS.cell rfl, ?_⟩
  refine dr_do (i := 6) (lb 8 127) rfl (by kernel_rfl) ?_
  refine wl_call (.cons rfl (.cons rfl .nil)) (rlen_c m.opn _ h5 hol _ (by rw [List.length_append]; omega) ho hr (hS.pull Hz)) rfl ?_
  rintro _ w ⟨rfl, hS⟩
  refine wl_nil ⟨fun h => absurd (by decide) h, ?_⟩
  refine dr_pure (i := 7) (lb 8 255) rfl rfl (by kernel_rfl) (fun w => y_assign rfl) ?_
  refine dr_done (by kernel_rfl) ?_
  refine wc_ret ?_
  refine wret (vs := [_]) (.tmp rfl .nil) ?_
  exact ⟨rfl, hS.keep⟩
theorem nread_c (k : ByteArray) {p : Nat} {m : Nod} {H : Chunk} (hs : m.small) (hb : IsN M p m H) (hS : St M w (H :: Ls)) :
    CallsR Tryz.prog 27 [.pointer (some ⟨p, 0, none⟩), .string k].toArray w fun v w' => v = vv (m.own.read k) ∧ St M w' (H :: Ls) := by
  obtain ⟨s1, s2, s3, s4⟩ := hs
  obtain ⟨jp, kp, cp, Hj, Hk, Hc, h1, h2, h3, rfl⟩ := hb
  replace hS := hS.un3
  refine calls_of (c := _) (rs := _) (n := 11) Tryz.func27 rfl rfl rfl rfl rfl ?_
  refine wc_seq ?_
  refine wc_region ?_
  refine a_alloc z_65 hS rfl fun b4 w hS => ?_
  refine wl_nil ?_
  refine wc_seq ?_
  refine wc_region ?_
  refine wl (y_move rfl) rfl ?_
  refine wl (y_nil rfl) rfl ?_
  refine wl (y_fld fl_97_4 rfl) rfl ?_
  refine wl (y_load pl_95 rfl (hS.cell (v := .pointer (some ⟨cp, 0, none⟩)) rfl)) rfl ?_
  refine wl (y_move rfl) rfl ?_
  refine wl_call (.cons rfl (.cons rfl .nil)) (cread_c k (by omega) (by omega) h3 (hS.pull Hc)) rfl ?_
  rintro _ w ⟨rfl, hS⟩
  refine a_storeS (vs := [_, _, _]) sz_65 rfl rfl rfl rfl hS (Nat.le_of_ble_eq_true rfl) fun w hS => ?_
  refine wl_nil ?_
  refine wc_ret ?_
  refine wret (vs := [_]) (.cell rfl (loadVar_struct st_65 sz_65 (vs := [_, _, _]) rfl (hS.cells rfl)) .nil) ?_
  exact ⟨rfl, hS.keep⟩
theorem nlen_c {p : Nat} {m : Nod} {H : Chunk} (hs : m.small) (hb : IsN M p m H) (hS : St M w (H :: Ls)) :
    CallsR Tryz.prog 41 [.pointer (some ⟨p, 0, none⟩)].toArray w fun v w' => v = .int .i64 m.own.len ∧ St M w' (H :: Ls) := by
  obtain ⟨s1, s2, s3, s4⟩ := hs
  obtain ⟨jp, kp, cp, Hj, Hk, Hc, h1, h2, h3, rfl⟩ := hb
  replace hS := hS.un3
  refine calls_of (c := _) (rs := _) (n := 8) Tryz.func41 rfl rfl rfl rfl rfl ?_
  refine wc_seq ?_
  refine wc_region ?_
  refine wl (y_assign rfl) rfl ?_
  refine wl_nil ?_
  refine wc_seq ?_
  refine wc_region ?_
  refine wl (y_move rfl) rfl ?_
  refine wl (y_nil rfl) rfl ?_
  refine wl (y_fld fl_97_4 rfl) rfl ?_
  refine wl (y_load pl_95 rfl (hS.cell (v := .pointer (some ⟨cp, 0, none⟩)) rfl)) rfl ?_
  refine wl_call (.cons rfl .nil) (clen_c (by omega) (by omega) h3 (hS.pull Hc)) rfl ?_
  rintro _ w ⟨rfl, hS⟩
  refine wl (y_assign rfl) rfl ?_
  refine wl_nil ?_
  refine wc_ret ?_
  refine wret (vs := [_]) (.tmp rfl .nil) ?_
  exact ⟨rfl, hS.keep⟩
end
end Go.Proofs.YtndahppmjdbifaaGreatDoor.Sto

set_option linter.unusedVariables false
set_option linter.unusedSimpArgs false
namespace Go.Proofs.YtndahppmjdbifaaGreatDoor.Nod
open Go Go.Proofs Go.Proofs.YtndahppmjdbifaaGreatDoor.Eng Go.Proofs.YtndahppmjdbifaaGreatDoor.Pre Go.Proofs.YtndahppmjdbifaaGreatDoor.Pak Go.Proofs.YtndahppmjdbifaaGreatDoor.Val Go.Proofs.YtndahppmjdbifaaGreatDoor.Rou Go.Proofs.YtndahppmjdbifaaGreatDoor.Fra Go.Proofs.YtndahppmjdbifaaGreatDoor.Snd Go.Proofs.YtndahppmjdbifaaGreatDoor.Lnk Go.Proofs.YtndahppmjdbifaaGreatDoor.Jnl Go.Proofs.YtndahppmjdbifaaGreatDoor.Cli Go.Proofs.YtndahppmjdbifaaGreatDoor.Sto Go.Proofs.YtndahppmjdbifaaGreatDoor.Crc

/-! ### a node's calls, and what holds behind each -/
structure Act where
  kind : Int
  u : Upd
  bytes : ByteArray
def encA : Enc Act := ⟨6, fun a => [.int .i64 a.kind, .string a.u.key, .int .i64 a.u.kind, .int .i64 a.u.n, .string a.u.s, .string a.bytes], fun _ => rfl, by simp [oneC]⟩
def Nod.act (m : Nod) (a : Act) : Nod :=
  if a.kind = 1 then m.upd a.u else if a.kind = 2 then m.push else if a.kind = 3 then m.pull else if a.kind = 4 then m.reset else if a.kind = 5 then m.hear a.bytes else if a.kind = 6 then m.tick else m
def Nod.acts (m : Nod) (l : List Act) : Nod := l.foldl Nod.act m
structure Nod.inv (t : Nat) (m : Nod) : Prop where
  c : mayC m.c = 0
  k : m.k.ok
  rd : ∀ d ∈ m.k.r.all, d.size ≤ 1400
  sd : ∀ d ∈ m.k.s.all, d.size ≤ 1400
  mtu : m.own.mtu = m.c.mtu
  opn : m.own.opn.length ≤ 8
  j : m.j.l.length ≤ t
  pend : m.own.pending.length ≤ t
  known : m.own.known.length ≤ 16 * t
theorem mayC_ok {c : Cfg} (h : mayC c = 0) : 1 ≤ c.clients ∧ c.clients ≤ 64 ∧ 1 ≤ c.window ∧ c.window ≤ 16 ∧ 1 ≤ c.push ∧ c.push ≤ 16 ∧ 1 ≤ c.pull ∧ c.pull ≤ 16 ∧ 64 ≤ c.mtu ∧ c.mtu ≤ 1400 ∧ 1 ≤ c.last ∧ c.last ≤ 1099511627776 := by
  unfold mayC at h
  split at h
  · assumption
  · cases h
theorem fits_ok {l : List Upd} {mtu : Int} (h : fits l mtu = true) : mayR ⟨64, 1099511627776, l⟩ = 0 ∧ (64 ≤ mtu ∧ mtu ≤ 1400) ∧ ((rbytes ⟨64, 1099511627776, l⟩).length : Int) ≤ mtu - 40 := by
  unfold fits at h
  exact of_decide_eq_true h
theorem fits_length {l : List Upd} {mtu : Int} (h : fits l mtu = true) : l.length ≤ 8 := by
  have h1 := (fits_ok h).1
  have h2 := mayR_ok h1
  exact h2.2.2.2.2.2.1
theorem putB_size (r : Rnd) : (putB r).size ≤ 1400 := by
  unfold putB
  split
  · rename_i h
    have := rbytes_length h
    show (rbytes r).toArray.size ≤ 1400
    rw [List.size_toArray]
    omega
  · exact Nat.zero_le _
theorem behind_length (n : Int) (l : List Rnd) : (behind n l).length ≤ l.length := List.length_filter_le _ _
theorem fget_data (b : ByteArray) (hb : b.size ≤ 140737488351232) : (fget b).data.size ≤ 1400 ∧ (fget b).seq ≤ 1125899906842624 := by
  unfold fget
  split
  · simp [frm0]
  · rename_i s hs
    have hz := open_size hs
    obtain ⟨h1, h1', h2, h3, h4, h5⟩ := fg_ok s (by omega)
    unfold fgf
    split
    · simp only
      refine ⟨?_, ?_⟩
      · unfold fg4; exact (rtext_ok h3 1400).2.1
      · have := (rnum_ok h1' 1125899906842624).2.1
        unfold fg2; omega
    · simp [frm0]
theorem Lnk.hear_ok {m : Lnk} {f : Frm} (h : m.ok) (hs : f.seq ≤ 1125899906842624) : (m.hear f).ok := by
  have h2 : ∀ {m : Lnk}, m.ok → (m.hear2 f).ok := by
    intro m h
    refine ⟨h.1, Snd.ack_ok h.2.1 _, ?_⟩
    unfold Lnk.hear2; simp only
    split
    · exact h.2.2
    · exact Rcv.hear_ok h.2.2 _ hs _
  unfold Lnk.hear
  split
  · exact h
  · split
    · split
      · exact h2 (Lnk.fresh_ok _ _)
      · exact h
    · exact h2 h
theorem Lnk.hear_r {m : Lnk} {f : Frm} (h : ∀ d ∈ m.r.all, d.size ≤ 1400) (hd : f.data.size ≤ 1400) : ∀ d ∈ (m.hear f).r.all, d.size ≤ 1400 := by
  have h2 : ∀ {m : Lnk}, (∀ d ∈ m.r.all, d.size ≤ 1400) → ∀ d ∈ (m.hear2 f).r.all, d.size ≤ 1400 := by
    intro m h
    unfold Lnk.hear2; simp only
    split
    · exact h
    · unfold Rcv.hear
      split
      · intro d hx
        simp only [List.mem_append, List.mem_singleton] at hx
        rcases hx with hx | rfl
        · exact h d hx
        · exact hd
      · exact h
  unfold Lnk.hear
  split
  · exact h
  · split
    · split
      · exact h2 (by unfold Lnk.fresh Rcv.new; simp)
      · exact h
    · exact h2 h
theorem Snd.ack_all (m : Snd) (n : Int) : (m.ack n).all = m.all := by unfold Snd.ack; split <;> rfl
theorem Lnk.hear_s {m : Lnk} {f : Frm} {P : ByteArray → Prop} (h : ∀ d ∈ m.s.all, P d) : ∀ d ∈ (m.hear f).s.all, P d := by
  unfold Lnk.hear
  split
  · exact h
  · split
    · split
      · unfold Lnk.hear2 Lnk.fresh Snd.new; simp [Snd.ack_all]
      · exact h
    · unfold Lnk.hear2; simp only [Snd.ack_all]; exact h
theorem offl_r (l : List Rnd) (k : Lnk) (n : Nat) : (offl l k n).1.r = k.r ∧ (offl l k n).1.ep = k.ep ∧ (offl l k n).1.win = k.win ∧ (offl l k n).1.room = k.room ∧ (offl l k n).1.pas = k.pas := by
  induction l generalizing k n with
  | nil => exact ⟨rfl, rfl, rfl, rfl, rfl⟩
  | cons r l ih =>
    simp only [offl]
    split
    · exact ih _ _
    · exact ⟨rfl, rfl, rfl, rfl, rfl⟩
theorem offl_s {l : List Rnd} {k : Lnk} {n : Nat} {P : ByteArray → Prop} (h : ∀ d ∈ k.s.all, P d) (hl : ∀ r ∈ l, P (putB r)) : ∀ d ∈ (offl l k n).1.s.all, P d := by
  induction l generalizing k n with
  | nil => exact h
  | cons r l ih =>
    simp only [offl]
    split
    · rename_i he
      refine ih ?_ fun x hx => hl x (List.mem_cons_of_mem _ hx)
      intro d hd
      unfold Lnk.offer Snd.offer at hd
      rw [if_pos he] at hd
      simp only [List.mem_append, List.mem_singleton] at hd
      rcases hd with hd | rfl
      · exact h d hd
      · exact hl r List.mem_cons_self
    · exact h
theorem Cli.take_same (m : Cli) (r : Rnd) : (m.take r).mtu = m.mtu ∧ (m.take r).origin = m.origin ∧ (m.take r).push = m.push ∧ (m.take r).opn = m.opn ∧ (m.take r).pending.length ≤ m.pending.length := by
  unfold Cli.take
  split
  · refine ⟨rfl, rfl, rfl, rfl, ?_⟩
    simp only
    split
    · rw [List.length_tail]; omega
    · exact Nat.le_refl _
  · exact ⟨rfl, rfl, rfl, rfl, Nat.le_refl _⟩
theorem Cli.take1_same (m : Cli) (d : ByteArray) : (m.take1 d).mtu = m.mtu ∧ (m.take1 d).origin = m.origin ∧ (m.take1 d).push = m.push ∧ (m.take1 d).opn = m.opn ∧ (m.take1 d).pending.length ≤ m.pending.length := by
  unfold Cli.take1
  split
  · exact Cli.take_same _ _
  · exact ⟨rfl, rfl, rfl, rfl, Nat.le_refl _⟩
theorem Cli.takeL_same (m : Cli) (l : List ByteArray) : (m.takeL l).mtu = m.mtu ∧ (m.takeL l).origin = m.origin ∧ (m.takeL l).push = m.push ∧ (m.takeL l).opn = m.opn ∧ (m.takeL l).pending.length ≤ m.pending.length := by
  induction l generalizing m with
  | nil => exact ⟨rfl, rfl, rfl, rfl, Nat.le_refl _⟩
  | cons d l ih =>
    obtain ⟨a1, a2, a3, a4, a5⟩ := ih (m.take1 d)
    obtain ⟨b1, b2, b3, b4, b5⟩ := Cli.take1_same m d
    exact ⟨a1.trans b1, a2.trans b2, a3.trans b3, a4.trans b4, Nat.le_trans a5 b5⟩
theorem Nod.new_inv {c : Cfg} (hc : mayC c = 0) (origin : Int) : (Nod.new c origin).inv 0 := by
  refine ⟨hc, Lnk.new_ok _ _ _ _, ?_, ?_, rfl, ?_, ?_, ?_, ?_⟩
  · unfold Nod.new Lnk.new Rcv.new; simp
  · unfold Nod.new Lnk.new Snd.new; simp
  · unfold Nod.new Cli.new; simp
  · unfold Nod.new Jnl.new; simp
  · unfold Nod.new Cli.new Jnl.new behind; simp
  · unfold Nod.new Cli.new; simp
theorem Nod.inv.mono {t t' : Nat} {m : Nod} (h : m.inv t) (ht : t ≤ t') : m.inv t' :=
  ⟨h.c, h.k, h.rd, h.sd, h.mtu, h.opn, Nat.le_trans h.j ht, Nat.le_trans h.pend ht, Nat.le_trans h.known (by omega)⟩
theorem Nod.upd_inv {t : Nat} {m : Nod} (h : m.inv t) (u : Upd) : (m.upd u).inv t := by
  unfold Nod.upd Cli.upd
  split
  · rename_i he
    refine ⟨h.c, h.k, h.rd, h.sd, h.mtu, ?_, h.j, h.pend, h.known⟩
    unfold Cli.updE at he
    split at he
    · omega
    · split at he; · cases he
      split at he; · cases he
      rename_i hf
      exact fits_length (by simpa using hf)
  · exact h
theorem Nod.push_inv {t : Nat} {m : Nod} (h : m.inv t) : m.push.inv (t + 1) := by
  unfold Nod.push Cli.pushC Cli.pushJ
  split
  · rename_i he
    have hj := h.j
    have hp := h.pend
    refine ⟨h.c, h.k, h.rd, h.sd, h.mtu, by simp, ?_, by simp; omega, Nat.le_trans h.known (by omega)⟩
    simp only
    unfold Jnl.add
    split
    · simp; omega
    · omega
  · exact h.mono (by omega)
theorem Nod.pull_inv {t : Nat} {m : Nod} (h : m.inv t) : m.pull.inv (t + 1) := by
  obtain ⟨a1, a2, a3, a4, a5⟩ := Cli.takeL_same m.own m.k.r.came
  have hk := Cli.takeL_known m.own m.k.r.came
  rw [Rcv.came_length] at hk
  have hw16 : m.k.r.wait ≤ 16 := by have := h.k.2.2; unfold Rcv.ok at this; omega
  have hp := h.pend
  have hkn := h.known
  have hj := h.j
  exact ⟨h.c, Lnk.pops_ok _ _ h.k, h.rd, h.sd, a1.trans h.mtu, by unfold Nod.pull; simp only [a4]; exact h.opn, Nat.le_trans h.j (by omega), Nat.le_trans a5 (by omega), Nat.le_trans hk (by omega)⟩
theorem Nod.reset_inv {t : Nat} {m : Nod} (h : m.inv t) : m.reset.inv t := by
  unfold Nod.reset
  split
  · refine ⟨h.c, Lnk.new_ok _ _ _ _, ?_, ?_, h.mtu, ?_, h.j, ?_, ?_⟩
    · unfold Lnk.new Rcv.new; simp
    · unfold Lnk.new Snd.new; simp
    · unfold Cli.resume; simp
    · unfold Cli.resume; simp only; exact Nat.le_trans (behind_length _ _) h.j
    · unfold Cli.resume; simp
  · exact h
theorem Nod.hear_inv {t : Nat} {m : Nod} (h : m.inv t) (b : ByteArray) (hb : b.size ≤ 140737488351232) : (m.hear b).inv t := by
  obtain ⟨f1, f2⟩ := fget_data b hb
  unfold Nod.hear
  split
  · exact ⟨h.c, Lnk.hear_ok h.k f2, Lnk.hear_r h.rd f1, Lnk.hear_s h.sd, h.mtu, h.opn, h.j, h.pend, h.known⟩
  · exact h
theorem Nod.tick_inv {t : Nat} {m : Nod} (h : m.inv t) : m.tick.inv t := by
  refine ⟨h.c, offl_ok h.k, ?_, ?_, h.mtu, h.opn, h.j, h.pend, h.known⟩
  · intro d hd
    rw [show m.tick.k.r = m.k.r from (offl_r _ _ _).1] at hd
    exact h.rd d hd
  · show ∀ d ∈ (offl (m.j.l.drop m.offered) m.k m.offered).1.s.all, d.size ≤ 1400
    exact offl_s h.sd fun r _ => putB_size r
theorem Nod.act_inv {t : Nat} {m : Nod} (h : m.inv t) (a : Act) (hb : a.bytes.size ≤ 140737488351232) : (m.act a).inv (t + 1) := by
  unfold Nod.act
  split; · exact (Nod.upd_inv h _).mono (by omega)
  split; · exact Nod.push_inv h
  split; · exact Nod.pull_inv h
  split; · exact (Nod.reset_inv h).mono (by omega)
  split; · exact (Nod.hear_inv h _ hb).mono (by omega)
  split; · exact (Nod.tick_inv h).mono (by omega)
  exact h.mono (by omega)
theorem Nod.acts_inv {t : Nat} {m : Nod} (h : m.inv t) (l : List Act) (hb : ∀ a ∈ l, a.bytes.size ≤ 140737488351232) : (m.acts l).inv (t + l.length) := by
  induction l generalizing m t with
  | nil => exact h
  | cons a l ih =>
    have := ih (Nod.act_inv h a (hb a List.mem_cons_self)) fun x hx => hb x (List.mem_cons_of_mem _ hx)
    exact this.mono (by simp; omega)
theorem Nod.inv.small {t : Nat} {m : Nod} (h : m.inv t) (ht : t ≤ 1000) : m.small := by
  have h1 := h.j
  have h2 := h.pend
  have h3 := h.known
  have h4 := h.opn
  unfold Nod.small
  omega
theorem pcs_mem {a : Nat} {l : List ByteArray} {x : Nat × ByteArray} (h : x ∈ pcs a l) : x.2 ∈ l := by
  induction l generalizing a with
  | nil => cases h
  | cons d l ih =>
    simp only [pcs, List.mem_cons] at h
    rcases h with rfl | h
    · exact List.mem_cons_self
    · exact List.mem_cons_of_mem _ (ih h)
theorem frames_data {k : Lnk} {P : ByteArray → Prop} (h : ∀ d ∈ k.s.all, P d) (h0 : P ByteArray.empty) : ∀ f ∈ k.frames, P f.data := by
  intro f hf
  unfold Lnk.frames at hf
  split at hf
  · cases hf
  · split at hf
    · simp only [List.mem_singleton] at hf; subst hf; exact h0
    · obtain ⟨x, hx, rfl⟩ := List.mem_map.1 hf
      exact h _ (List.mem_of_mem_drop (pcs_mem hx))
theorem Nod.inv.frames {t : Nat} {m : Nod} (h : m.inv t) : ∀ f ∈ m.tick.k.frames, f.data.size ≤ 34359738368 := fun f hf => by
  have := frames_data (P := fun d => d.size ≤ 1400) (Nod.tick_inv h).sd (by simp) f hf
  omega
end Go.Proofs.YtndahppmjdbifaaGreatDoor.Nod

set_option linter.unusedVariables false
set_option linter.unusedSimpArgs false
namespace Go.Proofs.YtndahppmjdbifaaGreatDoor.Nod
open Go Go.Proofs Go.Proofs.YtndahppmjdbifaaGreatDoor.Eng Go.Proofs.YtndahppmjdbifaaGreatDoor.Pre Go.Proofs.YtndahppmjdbifaaGreatDoor.Pak Go.Proofs.YtndahppmjdbifaaGreatDoor.Val Go.Proofs.YtndahppmjdbifaaGreatDoor.Rou Go.Proofs.YtndahppmjdbifaaGreatDoor.Fra Go.Proofs.YtndahppmjdbifaaGreatDoor.Snd Go.Proofs.YtndahppmjdbifaaGreatDoor.Lnk Go.Proofs.YtndahppmjdbifaaGreatDoor.Jnl Go.Proofs.YtndahppmjdbifaaGreatDoor.Cli Go.Proofs.YtndahppmjdbifaaGreatDoor.Sto
def aV (a : Act) : Value := .agg [.int .i64 a.kind, .string a.u.key, .int .i64 a.u.kind, .int .i64 a.u.n, .string a.u.s, .string a.bytes].toArray
section
variable {M : Mem} {w : World} {Ls : List Chunk}
theorem do_c (hG : Bits M) (a : Act) (hab : a.bytes.size ≤ 140737488351232) {p t : Nat} {m : Nod} {H : Chunk} (hi : m.inv t) (ht : t ≤ 900) (hb : IsN M p m H) (hS : St M w (H :: Ls)) :
    CallsR Tryz.prog 25 [.pointer (some ⟨p, 0, none⟩), aV a].toArray w fun v w' => ∃ M' H', Mle M M' ∧ v = .tuple #[] ∧ IsN M' p (m.act a) H' ∧ St M' w' (H' :: Ls) := by
  have hsm := hi.small (by omega)
  have hsm' := hsm
  obtain ⟨s1, s2, s3, s4⟩ := hsm'
  have hc := mayC_ok hi.c
  have hmt := hi.mtu
  refine calls_of (c := _) (rs := _) (n := 34) Tryz.func25 rfl rfl rfl rfl rfl ?_
  refine wc_seq ?_
  refine wc_region ?_
  refine a_box rfl hS rfl fun b3 w hS => ?_
  refine wl_nil ?_
  refine wc_seq ?_
  refine wc_region ?_
  refine wl (y_fld fl_61_0 rfl) rfl ?_
  refine wl (y_load pl_3 rfl (hS.cell (v := .int .i64 a.kind) rfl)) rfl ?_
  refine wl_nil ?_
  refine wc_block ?_
  refine wc_seq ?_
  refine wc_region ?_
  refine wl (y_eql rfl rfl) rfl ?_
  refine wl (y_assign rfl) rfl ?_
  refine wl_nil ?_
  refine wc_if rfl (fun hc6 => ?_) (fun hc6 => ?_)
  · try simp only [zq1, zq2, zq3, zq4, zq5, zq6, zq7] at hc6
    have hq : m.act a = m.upd a.u := by unfold Nod.act; rw [if_pos hc6]
    refine wc_region ?_
    refine wl (y_move rfl) rfl ?_
    refine wl (y_fld fl_61_1 rfl) rfl ?_
    refine wl ((y_loadS st_59 sz_59 rfl (vs := encU.f a.u) (hS.cells rfl) rfl).val (show _ = uv a.u from rfl)) rfl ?_
    refine wl_call (.cons rfl (.cons rfl .nil)) (nupd_c hG a.u (by omega) (by omega) hb (hS.pull H)) rfl ?_
    rintro _ w ⟨M1, H1, hM, rfl, hn, hS⟩
    refine wl_nil ?_
    refine wretN (vs := []) .nil ?_
    rw [hq]
    first
    | exact ⟨M1, H1, hM, rfl, hn, hS.keep⟩
    | exact ⟨M, H1, Mle.refl _, rfl, hn, hS.keep⟩
    | exact ⟨M, H, Mle.refl _, rfl, hb, hS.keep⟩
  · try simp only [zq1, zq2, zq3, zq4, zq5, zq6, zq7] at hc6
    refine wc_seq ?_
    refine wc_region ?_
    refine wl (y_eql rfl rfl) rfl ?_
    refine wl (y_assign rfl) rfl ?_
    refine wl_nil ?_
    refine wc_if rfl (fun hc12 => ?_) (fun hc12 => ?_)
    · try simp only [zq1, zq2, zq3, zq4, zq5, zq6, zq7] at hc12
      have hq : m.act a = m.push := by unfold Nod.act; rw [if_neg hc6, if_pos hc12]
      refine wc_region ?_
      refine wl (y_move rfl) rfl ?_
      refine wl_call (.cons rfl .nil) (npush_c (by omega) (by omega) (by omega) hb (hS.pull H)) rfl ?_
      rintro _ w ⟨M1, H1, hM, rfl, hn, hS⟩
      refine wl_nil ?_
      refine wretN (vs := []) .nil ?_
      rw [hq]
      first
      | exact ⟨M1, H1, hM, rfl, hn, hS.keep⟩
      | exact ⟨M, H1, Mle.refl _, rfl, hn, hS.keep⟩
      | exact ⟨M, H, Mle.refl _, rfl, hb, hS.keep⟩
    · try simp only [zq1, zq2, zq3, zq4, zq5, zq6, zq7] at hc12
      refine wc_seq ?_
      refine wc_region ?_
      refine wl (y_eql rfl rfl) rfl ?_
      refine wl (y_assign rfl) rfl ?_
      refine wl_nil ?_
      refine wc_if rfl (fun hc16 => ?_) (fun hc16 => ?_)
      · try simp only [zq1, zq2, zq3, zq4, zq5, zq6, zq7] at hc16
        have hq : m.act a = m.pull := by unfold Nod.act; rw [if_neg hc6, if_neg hc12, if_pos hc16]
        refine wc_region ?_
        refine wl (y_move rfl) rfl ?_
        refine wl_call (.cons rfl .nil) (npull_c hG hi.k hsm hi.rd hb (hS.pull H)) rfl ?_
        rintro _ w ⟨M1, H1, hM, rfl, hn, hS⟩
        refine wl_nil ?_
        refine wretN (vs := []) .nil ?_
        rw [hq]
        first
        | exact ⟨M1, H1, hM, rfl, hn, hS.keep⟩
        | exact ⟨M, H1, Mle.refl _, rfl, hn, hS.keep⟩
        | exact ⟨M, H, Mle.refl _, rfl, hb, hS.keep⟩
      · try simp only [zq1, zq2, zq3, zq4, zq5, zq6, zq7] at hc16
        refine wc_seq ?_
        refine wc_region ?_
        refine wl (y_eql rfl rfl) rfl ?_
        refine wl (y_assign rfl) rfl ?_
        refine wl_nil ?_
        refine wc_if rfl (fun hc20 => ?_) (fun hc20 => ?_)
        · try simp only [zq1, zq2, zq3, zq4, zq5, zq6, zq7] at hc20
          have hq : m.act a = m.reset := by unfold Nod.act; rw [if_neg hc6, if_neg hc12, if_neg hc16, if_pos hc20]
          refine wc_region ?_
          refine wl (y_move rfl) rfl ?_
          refine wl_call (.cons rfl .nil) (nreset_c (by omega) (by omega) hb (hS.pull H)) rfl ?_
          rintro _ w ⟨M1, H1, hM, rfl, hn, hS⟩
          refine wl_nil ?_
          refine wretN (vs := []) .nil ?_
          rw [hq]
          first
          | exact ⟨M1, H1, hM, rfl, hn, hS.keep⟩
          | exact ⟨M, H1, Mle.refl _, rfl, hn, hS.keep⟩
          | exact ⟨M, H, Mle.refl _, rfl, hb, hS.keep⟩
        · try simp only [zq1, zq2, zq3, zq4, zq5, zq6, zq7] at hc20
          refine wc_seq ?_
          refine wc_region ?_
          refine wl (y_eql rfl rfl) rfl ?_
          refine wl (y_assign rfl) rfl ?_
          refine wl_nil ?_
          refine wc_if rfl (fun hc24 => ?_) (fun hc24 => ?_)
          · try simp only [zq1, zq2, zq3, zq4, zq5, zq6, zq7] at hc24
            have hq : m.act a = m.hear a.bytes := by unfold Nod.act; rw [if_neg hc6, if_neg hc12, if_neg hc16, if_neg hc20, if_pos hc24]
            refine wc_region ?_
            refine wl (y_move rfl) rfl ?_
            refine wl (y_fld fl_61_2 rfl) rfl ?_
            refine wl (y_load pl_9 rfl (hS.cell (v := .string a.bytes) rfl)) rfl ?_
            refine wl_call (.cons rfl (.cons rfl .nil)) (nhear_c hG a.bytes hab hi.k hb (hS.pull H)) rfl ?_
            rintro _ w ⟨H1, rfl, hn, hS⟩
            refine wl_nil ?_
            refine wretN (vs := []) .nil ?_
            rw [hq]
            first
            | exact ⟨M1, H1, hM, rfl, hn, hS.keep⟩
            | exact ⟨M, H1, Mle.refl _, rfl, hn, hS.keep⟩
            | exact ⟨M, H, Mle.refl _, rfl, hb, hS.keep⟩
          · try simp only [zq1, zq2, zq3, zq4, zq5, zq6, zq7] at hc24
            refine wc_seq ?_
            refine wc_region ?_
            refine wl (y_eql rfl rfl) rfl ?_
            refine wl (y_assign rfl) rfl ?_
            refine wl_nil ?_
            refine wc_if rfl (fun hc30 => ?_) (fun hc30 => ?_)
            · try simp only [zq1, zq2, zq3, zq4, zq5, zq6, zq7] at hc30
              have hq : m.act a = m.tick := by unfold Nod.act; rw [if_neg hc6, if_neg hc12, if_neg hc16, if_neg hc20, if_neg hc24, if_pos hc30]
              refine wc_region ?_
              refine wl (y_move rfl) rfl ?_
              refine wl_call (.cons rfl .nil) (ntick_c hG hi.k hsm hi.frames hb (hS.pull H)) rfl ?_
              rintro v w ⟨M1, H1, Hp, hM, _, hn, hS⟩
              refine wl_nil ?_
              refine wretN (vs := []) .nil ?_
              rw [hq]
              first
              | exact ⟨M1, H1, hM, rfl, hn, hS.keep⟩
              | exact ⟨M, H1, Mle.refl _, rfl, hn, hS.keep⟩
              | exact ⟨M, H, Mle.refl _, rfl, hb, hS.keep⟩
            · try simp only [zq1, zq2, zq3, zq4, zq5, zq6, zq7] at hc30
              have hq : m.act a = m := by unfold Nod.act; rw [if_neg hc6, if_neg hc12, if_neg hc16, if_neg hc20, if_neg hc24, if_neg hc30]
              refine wc_skip ?_
              refine wretN (vs := []) .nil ?_
              rw [hq]
              first
              | exact ⟨M1, H1, hM, rfl, hn, hS.keep⟩
              | exact ⟨M, H1, Mle.refl _, rfl, hn, hS.keep⟩
              | exact ⟨M, H, Mle.refl _, rfl, hb, hS.keep⟩
def greatU (u : Upd) : Bool := decide (u.key.size > 100 ∨ u.s.size > 1200)
def greatA (a : Act) : Bool := decide (a.bytes.size > 400) || greatU a.u
def greatB (c : Cfg) (l : List Act) : Bool := decide (l.length > 50 ∨ c.clients > 4) || l.any greatA
theorem greatu_c (u : Upd) (hS : St M w Ls) : CallsR Tryz.prog 84 [uv u].toArray w fun v w' => v = .bool (greatU u) ∧ St M w' Ls := by
  refine calls_of (c := _) (rs := _) (n := 13) Tryz.func84 rfl rfl rfl rfl rfl ?_
  refine wc_seq ?_
  refine wc_region ?_
  refine a_box rfl hS rfl fun b1 w hS => ?_
  refine wl (y_assign rfl) rfl ?_
  refine wl_nil ?_
  refine wc_seq ?_
  refine wc_region ?_
  refine wl (y_fld fl_59_0 rfl) rfl ?_
  refine wl (y_load pl_9 rfl (hS.cell (v := .string u.key) rfl)) rfl ?_
  refine wl (y_len_s Tryz.underlying9 rfl) rfl ?_
  refine wl (y_gtr rfl rfl) rfl ?_
  refine wl (y_move rfl) rfl ?_
  refine wl_cases (s := 7) rfl (fun hg7 => ?_) (fun hg7 => ?_)
  · try simp only [zq1, zq2, zq3, zq4, zq5, zq6, zq7] at hg7
    refine wl_off rfl rfl rfl rfl ?_
    refine wl_off rfl rfl rfl rfl ?_
    refine wl_off rfl rfl rfl rfl ?_
    refine wl_off rfl rfl rfl rfl ?_
    refine wl (y_pickT rfl rfl) rfl ?_
    refine wl (y_assign rfl) rfl ?_
    refine wl_nil ?_
    refine wc_ret ?_
    refine wret (vs := [_]) (.tmp rfl .nil) ?_
    first
    | exact ⟨congrArg Value.bool (decide_eq_decide.2 ⟨fun h => .inr (by omega), fun h => by omega⟩), hS.keep⟩
    | exact ⟨congrArg Value.bool (decide_eq_true (.inl (by omega))).symm, hS.keep⟩
  · try simp only [zq1, zq2, zq3, zq4, zq5, zq6, zq7] at hg7
    refine wl_on rfl rfl ?_
    refine wl (y_fld fl_59_3 rfl) rfl ?_
    refine wl_on rfl rfl ?_
    refine wl (y_load pl_9 rfl (hS.cell (v := .string u.s) rfl)) rfl ?_
    refine wl_on rfl rfl ?_
    refine wl (y_len_s Tryz.underlying9 rfl) rfl ?_
    refine wl_on rfl rfl ?_
    refine wl (y_gtr rfl rfl) rfl ?_
    refine wl (y_pickF rfl rfl) rfl ?_
    refine wl (y_assign rfl) rfl ?_
    refine wl_nil ?_
    refine wc_ret ?_
    refine wret (vs := [_]) (.tmp rfl .nil) ?_
    first
    | exact ⟨congrArg Value.bool (decide_eq_decide.2 ⟨fun h => .inr (by omega), fun h => by omega⟩), hS.keep⟩
    | exact ⟨congrArg Value.bool (decide_eq_true (.inl (by omega))).symm, hS.keep⟩
theorem rmayc_c (c : Cfg) (hS : St M w Ls) : CallsR Tryz.prog 29 [cfgV c].toArray w fun v w' => v = .bool (decide (mayC c = 0)) ∧ St M w' Ls := by
  have ht : ∀ b : Bool, (b = true ↔ (1 ≤ c.clients ∧ c.clients ≤ 64 ∧ 1 ≤ c.window ∧ c.window ≤ 16 ∧ 1 ≤ c.push ∧ c.push ≤ 16 ∧ 1 ≤ c.pull ∧ c.pull ≤ 16 ∧ 64 ≤ c.mtu ∧ c.mtu ≤ 1400 ∧ 1 ≤ c.last ∧ c.last ≤ 1099511627776)) → b = decide (mayC c = 0) := by
    intro b hb
    rw [Bool.eq_iff_iff, hb, decide_eq_true_iff]
    unfold mayC
    split
    · rename_i h; exact ⟨fun _ => rfl, fun _ => h⟩
    · rename_i h; exact ⟨fun h' => absurd h' h, fun h' => by cases h'⟩
  refine calls_of (c := _) (rs := _) (n := 61) Tryz.func29 rfl rfl rfl rfl rfl ?_
  refine wc_seq ?_
  refine wc_region ?_
  refine a_box rfl hS rfl fun b1 w hS => ?_
  refine wl (y_assign rfl) rfl ?_
  refine wl_nil ?_
  refine wc_seq ?_
  refine wc_region ?_
  refine wl (y_fld fl_23_0 rfl) rfl ?_
  refine wl (y_load pl_3 rfl (hS.cell rfl)) rfl ?_
  refine wl (y_geq rfl rfl) rfl ?_
  refine wl (y_move rfl) rfl ?_
  refine wl_cases (s := 6) rfl (fun hg6 => ?_) (fun hg6 => ?_)
  · try simp only [zq1, zq2, zq3, zq4, zq5, zq6, zq7] at hg6
    refine wl_on rfl rfl ?_
    refine wl (y_fld fl_23_0 rfl) rfl ?_
    refine wl_on rfl rfl ?_
    refine wl (y_load pl_3 rfl (hS.cell rfl)) rfl ?_
    refine wl_on rfl rfl ?_
    refine wl (y_leq rfl rfl) rfl ?_
    refine wl (y_pickT rfl rfl) rfl ?_
    refine wl (y_move rfl) rfl ?_
    refine wl_cases (s := 11) rfl (fun hg11 => ?_) (fun hg11 => ?_)
    · try simp only [zq1, zq2, zq3, zq4, zq5, zq6, zq7] at hg11
      refine wl_on rfl rfl ?_
      refine wl (y_fld fl_23_1 rfl) rfl ?_
      refine wl_on rfl rfl ?_
      refine wl (y_load pl_3 rfl (hS.cell rfl)) rfl ?_
      refine wl_on rfl rfl ?_
      refine wl (y_geq rfl rfl) rfl ?_
      refine wl (y_pickT rfl rfl) rfl ?_
      refine wl (y_move rfl) rfl ?_
      refine wl_cases (s := 16) rfl (fun hg16 => ?_) (fun hg16 => ?_)
      · try simp only [zq1, zq2, zq3, zq4, zq5, zq6, zq7] at hg16
        refine wl_on rfl rfl ?_
        refine wl (y_fld fl_23_1 rfl) rfl ?_
        refine wl_on rfl rfl ?_
        refine wl (y_load pl_3 rfl (hS.cell rfl)) rfl ?_
        refine wl_on rfl rfl ?_
        refine wl (y_leq rfl rfl) rfl ?_
        refine wl (y_pickT rfl rfl) rfl ?_
        refine wl (y_move rfl) rfl ?_
        refine wl_cases (s := 21) rfl (fun hg21 => ?_) (fun hg21 => ?_)
        · try simp only [zq1, zq2, zq3, zq4, zq5, zq6, zq7] at hg21
          refine wl_on rfl rfl ?_
          refine wl (y_fld fl_23_2 rfl) rfl ?_
          refine wl_on rfl rfl ?_
          refine wl (y_load pl_3 rfl (hS.cell rfl)) rfl ?_
          refine wl_on rfl rfl ?_
          refine wl (y_geq rfl rfl) rfl ?_
          refine wl (y_pickT rfl rfl) rfl ?_
          refine wl (y_move rfl) rfl ?_
          refine wl_cases (s := 26) rfl (fun hg26 => ?_) (fun hg26 => ?_)
          · try simp only [zq1, zq2, zq3, zq4, zq5, zq6, zq7] at hg26
            refine wl_on rfl rfl ?_
            refine wl (y_fld fl_23_2 rfl) rfl ?_
            refine wl_on rfl rfl ?_
            refine wl (y_load pl_3 rfl (hS.cell rfl)) rfl ?_
            refine wl_on rfl rfl ?_
            refine wl (y_leq rfl rfl) rfl ?_
            refine wl (y_pickT rfl rfl) rfl ?_
            refine wl (y_move rfl) rfl ?_
            refine wl_cases (s := 31) rfl (fun hg31 => ?_) (fun hg31 => ?_)
            · try simp only [zq1, zq2, zq3, zq4, zq5, zq6, zq7] at hg31
              refine wl_on rfl rfl ?_
              refine wl (y_fld fl_23_3 rfl) rfl ?_
              refine wl_on rfl rfl ?_
              refine wl (y_load pl_3 rfl (hS.cell rfl)) rfl ?_
              refine wl_on rfl rfl ?_
              refine wl (y_geq rfl rfl) rfl ?_
              refine wl (y_pickT rfl rfl) rfl ?_
              refine wl (y_move rfl) rfl ?_
              refine wl_cases (s := 36) rfl (fun hg36 => ?_) (fun hg36 => ?_)
              · try simp only [zq1, zq2, zq3, zq4, zq5, zq6, zq7] at hg36
                refine wl_on rfl rfl ?_
                refine wl (y_fld fl_23_3 rfl) rfl ?_
                refine wl_on rfl rfl ?_
                refine wl (y_load pl_3 rfl (hS.cell rfl)) rfl ?_
                refine wl_on rfl rfl ?_
                refine wl (y_leq rfl rfl) rfl ?_
                refine wl (y_pickT rfl rfl) rfl ?_
                refine wl (y_move rfl) rfl ?_
                refine wl_cases (s := 41) rfl (fun hg41 => ?_) (fun hg41 => ?_)
                · try simp only [zq1, zq2, zq3, zq4, zq5, zq6, zq7] at hg41
                  refine wl_on rfl rfl ?_
                  refine wl (y_fld fl_23_4 rfl) rfl ?_
                  refine wl_on rfl rfl ?_
                  refine wl (y_load pl_3 rfl (hS.cell rfl)) rfl ?_
                  refine wl_on rfl rfl ?_
                  refine wl (y_geq rfl rfl) rfl ?_
                  refine wl (y_pickT rfl rfl) rfl ?_
                  refine wl (y_move rfl) rfl ?_
                  refine wl_cases (s := 46) rfl (fun hg46 => ?_) (fun hg46 => ?_)
                  · try simp only [zq1, zq2, zq3, zq4, zq5, zq6, zq7] at hg46
                    refine wl_on rfl rfl ?_
                    refine wl (y_fld fl_23_4 rfl) rfl ?_
                    refine wl_on rfl rfl ?_
                    refine wl (y_load pl_3 rfl (hS.cell rfl)) rfl ?_
                    refine wl_on rfl rfl ?_
                    refine wl (y_leq rfl rfl) rfl ?_
                    refine wl (y_pickT rfl rfl) rfl ?_
                    refine wl (y_move rfl) rfl ?_
                    refine wl_cases (s := 51) rfl (fun hg51 => ?_) (fun hg51 => ?_)
                    · try simp only [zq1, zq2, zq3, zq4, zq5, zq6, zq7] at hg51
                      refine wl_on rfl rfl ?_
                      refine wl (y_fld fl_23_5 rfl) rfl ?_
                      refine wl_on rfl rfl ?_
                      refine wl (y_load pl_3 rfl (hS.cell rfl)) rfl ?_
                      refine wl_on rfl rfl ?_
                      refine wl (y_geq rfl rfl) rfl ?_
                      refine wl (y_pickT rfl rfl) rfl ?_
                      refine wl (y_move rfl) rfl ?_
                      refine wl_cases (s := 56) rfl (fun hg56 => ?_) (fun hg56 => ?_)
                      · try simp only [zq1, zq2, zq3, zq4, zq5, zq6, zq7] at hg56
                        refine wl_on rfl rfl ?_
                        refine wl (y_fld fl_23_5 rfl) rfl ?_
                        refine wl_on rfl rfl ?_
                        refine wl (y_load pl_3 rfl (hS.cell rfl)) rfl ?_
                        refine wl_on rfl rfl ?_
                        refine wl (y_leq rfl rfl) rfl ?_
                        refine wl (y_pickT rfl rfl) rfl ?_
                        refine wl (y_assign rfl) rfl ?_
                        refine wl_nil ?_
                        refine wc_ret ?_
                        refine wret (vs := [_]) (.tmp rfl .nil) ?_
                        first
                        | exact ⟨congrArg Value.bool (ht _ (by rw [decide_eq_true_iff]; omega)), hS.keep⟩
                        | exact ⟨congrArg Value.bool (ht _ (by simp only [Bool.false_eq_true, false_iff]; omega)), hS.keep⟩
                      · try simp only [zq1, zq2, zq3, zq4, zq5, zq6, zq7] at hg56
                        refine wl_off rfl rfl rfl rfl ?_
                        refine wl_off rfl rfl rfl rfl ?_
                        refine wl_off rfl rfl rfl rfl ?_
                        refine wl (y_pickF rfl rfl) rfl ?_
                        refine wl (y_assign rfl) rfl ?_
                        refine wl_nil ?_
                        refine wc_ret ?_
                        refine wret (vs := [_]) (.tmp rfl .nil) ?_
                        first
                        | exact ⟨congrArg Value.bool (ht _ (by rw [decide_eq_true_iff]; omega)), hS.keep⟩
                        | exact ⟨congrArg Value.bool (ht _ (by simp only [Bool.false_eq_true, false_iff]; omega)), hS.keep⟩
                    · try simp only [zq1, zq2, zq3, zq4, zq5, zq6, zq7] at hg51
                      refine wl_off rfl rfl rfl rfl ?_
                      refine wl_off rfl rfl rfl rfl ?_
                      refine wl_off rfl rfl rfl rfl ?_
                      refine wl (y_pickF rfl rfl) rfl ?_
                      refine wl (y_move rfl) rfl ?_
                      refine wl_off rfl rfl rfl rfl ?_
                      refine wl_off rfl rfl rfl rfl ?_
                      refine wl_off rfl rfl rfl rfl ?_
                      refine wl (y_pickF rfl rfl) rfl ?_
                      refine wl (y_assign rfl) rfl ?_
                      refine wl_nil ?_
                      refine wc_ret ?_
                      refine wret (vs := [_]) (.tmp rfl .nil) ?_
                      first
                      | exact ⟨congrArg Value.bool (ht _ (by rw [decide_eq_true_iff]; omega)), hS.keep⟩
                      | exact ⟨congrArg Value.bool (ht _ (by simp only [Bool.false_eq_true, false_iff]; omega)), hS.keep⟩
                  · try simp only [zq1, zq2, zq3, zq4, zq5, zq6, zq7] at hg46
                    refine wl_off rfl rfl rfl rfl ?_
                    refine wl_off rfl rfl rfl rfl ?_
                    refine wl_off rfl rfl rfl rfl ?_
                    refine wl (y_pickF rfl rfl) rfl ?_
                    refine wl (y_move rfl) rfl ?_
                    refine wl_off rfl rfl rfl rfl ?_
                    refine wl_off rfl rfl rfl rfl ?_
                    refine wl_off rfl rfl rfl rfl ?_
                    refine wl (y_pickF rfl rfl) rfl ?_
                    refine wl (y_move rfl) rfl ?_
                    refine wl_off rfl rfl rfl rfl ?_
                    refine wl_off rfl rfl rfl rfl ?_
                    refine wl_off rfl rfl rfl rfl ?_
                    refine wl (y_pickF rfl rfl) rfl ?_
                    refine wl (y_assign rfl) rfl ?_
                    refine wl_nil ?_
                    refine wc_ret ?_
                    refine wret (vs := [_]) (.tmp rfl .nil) ?_
                    first
                    | exact ⟨congrArg Value.bool (ht _ (by rw [decide_eq_true_iff]; omega)), hS.keep⟩
                    | exact ⟨congrArg Value.bool (ht _ (by simp only [Bool.false_eq_true, false_iff]; omega)), hS.keep⟩
                · try simp only [zq1, zq2, zq3, zq4, zq5, zq6, zq7] at hg41
                  refine wl_off rfl rfl rfl rfl ?_
                  refine wl_off rfl rfl rfl rfl ?_
                  refine wl_off rfl rfl rfl rfl ?_
                  refine wl (y_pickF rfl rfl) rfl ?_
                  refine wl (y_move rfl) rfl ?_
                  refine wl_off rfl rfl rfl rfl ?_
                  refine wl_off rfl rfl rfl rfl ?_
                  refine wl_off rfl rfl rfl rfl ?_
                  refine wl (y_pickF rfl rfl) rfl ?_
                  refine wl (y_move rfl) rfl ?_
                  refine wl_off rfl rfl rfl rfl ?_
                  refine wl_off rfl rfl rfl rfl ?_
                  refine wl_off rfl rfl rfl rfl ?_
                  refine wl (y_pickF rfl rfl) rfl ?_
                  refine wl (y_move rfl) rfl ?_
                  refine wl_off rfl rfl rfl rfl ?_
                  refine wl_off rfl rfl rfl rfl ?_
                  refine wl_off rfl rfl rfl rfl ?_
                  refine wl (y_pickF rfl rfl) rfl ?_
                  refine wl (y_assign rfl) rfl ?_
                  refine wl_nil ?_
                  refine wc_ret ?_
                  refine wret (vs := [_]) (.tmp rfl .nil) ?_
                  first
                  | exact ⟨congrArg Value.bool (ht _ (by rw [decide_eq_true_iff]; omega)), hS.keep⟩
                  | exact ⟨congrArg Value.bool (ht _ (by simp only [Bool.false_eq_true, false_iff]; omega)), hS.keep⟩
              · try simp only [zq1, zq2, zq3, zq4, zq5, zq6, zq7] at hg36
                refine wl_off rfl rfl rfl rfl ?_
                refine wl_off rfl rfl rfl rfl ?_
                refine wl_off rfl rfl rfl rfl ?_
                refine wl (y_pickF rfl rfl) rfl ?_
                refine wl (y_move rfl) rfl ?_
                refine wl_off rfl rfl rfl rfl ?_
                refine wl_off rfl rfl rfl rfl ?_
                refine wl_off rfl rfl rfl rfl ?_
                refine wl (y_pickF rfl rfl) rfl ?_
                refine wl (y_move rfl) rfl ?_
                refine wl_off rfl rfl rfl rfl ?_
                refine wl_off rfl rfl rfl rfl ?_
                refine wl_off rfl rfl rfl rfl ?_
                refine wl (y_pickF rfl rfl) rfl ?_
                refine wl (y_move rfl) rfl ?_
                refine wl_off rfl rfl rfl rfl ?_
                refine wl_off rfl rfl rfl rfl ?_
                refine wl_off rfl rfl rfl rfl ?_
                refine wl (y_pickF rfl rfl) rfl ?_
                refine wl (y_move rfl) rfl ?_
                refine wl_off rfl rfl rfl rfl ?_
                refine wl_off rfl rfl rfl rfl ?_
                refine wl_off rfl rfl rfl rfl ?_
                refine wl (y_pickF rfl rfl) rfl ?_
                refine wl (y_assign rfl) rfl ?_
                refine wl_nil ?_
                refine wc_ret ?_
                refine wret (vs := [_]) (.tmp rfl .nil) ?_
                first
                | exact ⟨congrArg Value.bool (ht _ (by rw [decide_eq_true_iff]; omega)), hS.keep⟩
                | exact ⟨congrArg Value.bool (ht _ (by simp only [Bool.false_eq_true, false_iff]; omega)), hS.keep⟩
            · try simp only [zq1, zq2, zq3, zq4, zq5, zq6, zq7] at hg31
              refine wl_off rfl rfl rfl rfl ?_
              refine wl_off rfl rfl rfl rfl ?_
              refine wl_off rfl rfl rfl rfl ?_
              refine wl (y_pickF rfl rfl) rfl ?_
              refine wl (y_move rfl) rfl ?_
              refine wl_off rfl rfl rfl rfl ?_
              refine wl_off rfl rfl rfl rfl ?_
              refine wl_off rfl rfl rfl rfl ?_
              refine wl (y_pickF rfl rfl) rfl ?_
              refine wl (y_move rfl) rfl ?_
              refine wl_off rfl rfl rfl rfl ?_
              refine wl_off rfl rfl rfl rfl ?_
              refine wl_off rfl rfl rfl rfl ?_
              refine wl (y_pickF rfl rfl) rfl ?_
              refine wl (y_move rfl) rfl ?_
              refine wl_off rfl rfl rfl rfl ?_
              refine wl_off rfl rfl rfl rfl ?_
              refine wl_off rfl rfl rfl rfl ?_
              refine wl (y_pickF rfl rfl) rfl ?_
              refine wl (y_move rfl) rfl ?_
              refine wl_off rfl rfl rfl rfl ?_
              refine wl_off rfl rfl rfl rfl ?_
              refine wl_off rfl rfl rfl rfl ?_
              refine wl (y_pickF rfl rfl) rfl ?_
              refine wl (y_move rfl) rfl ?_
              refine wl_off rfl rfl rfl rfl ?_
              refine wl_off rfl rfl rfl rfl ?_
              refine wl_off rfl rfl rfl rfl ?_
              refine wl (y_pickF rfl rfl) rfl ?_
              refine wl (y_assign rfl) rfl ?_
              refine wl_nil ?_
              refine wc_ret ?_
              refine wret (vs := [_]) (.tmp rfl .nil) ?_
              first
              | exact ⟨congrArg Value.bool (ht _ (by rw [decide_eq_true_iff]; omega)), hS.keep⟩
              | exact ⟨congrArg Value.bool (ht _ (by simp only [Bool.false_eq_true, false_iff]; omega)), hS.keep⟩
          · try simp only [zq1, zq2, zq3, zq4, zq5, zq6, zq7] at hg26
            refine wl_off rfl rfl rfl rfl ?_
            refine wl_off rfl rfl rfl rfl ?_
            refine wl_off rfl rfl rfl rfl ?_
            refine wl (y_pickF rfl rfl) rfl ?_
            refine wl (y_move rfl) rfl ?_
            refine wl_off rfl rfl rfl rfl ?_
            refine wl_off rfl rfl rfl rfl ?_
            refine wl_off rfl rfl rfl rfl ?_
            refine wl (y_pickF rfl rfl) rfl ?_
            refine wl (y_move rfl) rfl ?_
            refine wl_off rfl rfl rfl rfl ?_
            refine wl_off rfl rfl rfl rfl ?_
            refine wl_off rfl rfl rfl rfl ?_
            refine wl (y_pickF rfl rfl) rfl ?_
            refine wl (y_move rfl) rfl ?_
            refine wl_off rfl rfl rfl rfl ?_
            refine wl_off rfl rfl rfl rfl ?_
            refine wl_off rfl rfl rfl rfl ?_
            refine wl (y_pickF rfl rfl) rfl ?_
            refine wl (y_move rfl) rfl ?_
            refine wl_off rfl rfl rfl rfl ?_
            refine wl_off rfl rfl rfl rfl ?_
            refine wl_off rfl rfl rfl rfl ?_
            refine wl (y_pickF rfl rfl) rfl ?_
            refine wl (y_move rfl) rfl ?_
            refine wl_off rfl rfl rfl rfl ?_
            refine wl_off rfl rfl rfl rfl ?_
            refine wl_off rfl rfl rfl rfl ?_
            refine wl (y_pickF rfl rfl) rfl ?_
            refine wl (y_move rfl) rfl ?_
            refine wl_off rfl rfl rfl rfl ?_
            refine wl_off rfl rfl rfl rfl ?_
            refine wl_off rfl rfl rfl rfl ?_
            refine wl (y_pickF rfl rfl) rfl ?_
            refine wl (y_assign rfl) rfl ?_
            refine wl_nil ?_
            refine wc_ret ?_
            refine wret (vs := [_]) (.tmp rfl .nil) ?_
            first
            | exact ⟨congrArg Value.bool (ht _ (by rw [decide_eq_true_iff]; omega)), hS.keep⟩
            | exact ⟨congrArg Value.bool (ht _ (by simp only [Bool.false_eq_true, false_iff]; omega)), hS.keep⟩
        · try simp only [zq1, zq2, zq3, zq4, zq5, zq6, zq7] at hg21
          refine wl_off rfl rfl rfl rfl ?_
          refine wl_off rfl rfl rfl rfl ?_
          refine wl_off rfl rfl rfl rfl ?_
          refine wl (y_pickF rfl rfl) rfl ?_
          refine wl (y_move rfl) rfl ?_
          refine wl_off rfl rfl rfl rfl ?_
          refine wl_off rfl rfl rfl rfl ?_
          refine wl_off rfl rfl rfl rfl ?_
          refine wl (y_pickF rfl rfl) rfl ?_
          refine wl (y_move rfl) rfl ?_
          refine wl_off rfl rfl rfl rfl ?_
          refine wl_off rfl rfl rfl rfl ?_
          refine wl_off rfl rfl rfl rfl ?_
          refine wl (y_pickF rfl rfl) rfl ?_
          refine wl (y_move rfl) rfl ?_
          refine wl_off rfl rfl rfl rfl ?_
          refine wl_off rfl rfl rfl rfl ?_
          refine wl_off rfl rfl rfl rfl ?_
          refine wl (y_pickF rfl rfl) rfl ?_
          refine wl (y_move rfl) rfl ?_
          refine wl_off rfl rfl rfl rfl ?_
          refine wl_off rfl rfl rfl rfl ?_
          refine wl_off rfl rfl rfl rfl ?_
          refine wl (y_pickF rfl rfl) rfl ?_
          refine wl (y_move rfl) rfl ?_
          refine wl_off rfl rfl rfl rfl ?_
          refine wl_off rfl rfl rfl rfl ?_
          refine wl_off rfl rfl rfl rfl ?_
          refine wl (y_pickF rfl rfl) rfl ?_
          refine wl (y_move rfl) rfl ?_
          refine wl_off rfl rfl rfl rfl ?_
          refine wl_off rfl rfl rfl rfl ?_
          refine wl_off rfl rfl rfl rfl ?_
          refine wl (y_pickF rfl rfl) rfl ?_
          refine wl (y_move rfl) rfl ?_
          refine wl_off rfl rfl rfl rfl ?_
          refine wl_off rfl rfl rfl rfl ?_
          refine wl_off rfl rfl rfl rfl ?_
          refine wl (y_pickF rfl rfl) rfl ?_
          refine wl (y_assign rfl) rfl ?_
          refine wl_nil ?_
          refine wc_ret ?_
          refine wret (vs := [_]) (.tmp rfl .nil) ?_
          first
          | exact ⟨congrArg Value.bool (ht _ (by rw [decide_eq_true_iff]; omega)), hS.keep⟩
          | exact ⟨congrArg Value.bool (ht _ (by simp only [Bool.false_eq_true, false_iff]; omega)), hS.keep⟩
      · try simp only [zq1, zq2, zq3, zq4, zq5, zq6, zq7] at hg16
        refine wl_off rfl rfl rfl rfl ?_
        refine wl_off rfl rfl rfl rfl ?_
        refine wl_off rfl rfl rfl rfl ?_
        refine wl (y_pickF rfl rfl) rfl ?_
        refine wl (y_move rfl) rfl ?_
        refine wl_off rfl rfl rfl rfl ?_
        refine wl_off rfl rfl rfl rfl ?_
        refine wl_off rfl rfl rfl rfl ?_
        refine wl (y_pickF rfl rfl) rfl ?_
        refine wl (y_move rfl) rfl ?_
        refine wl_off rfl rfl rfl rfl ?_
        refine wl_off rfl rfl rfl rfl ?_
        refine wl_off rfl rfl rfl rfl ?_
        refine wl (y_pickF rfl rfl) rfl ?_
        refine wl (y_move rfl) rfl ?_
        refine wl_off rfl rfl rfl rfl ?_
        refine wl_off rfl rfl rfl rfl ?_
        refine wl_off rfl rfl rfl rfl ?_
        refine wl (y_pickF rfl rfl) rfl ?_
        refine wl (y_move rfl) rfl ?_
        refine wl_off rfl rfl rfl rfl ?_
        refine wl_off rfl rfl rfl rfl ?_
        refine wl_off rfl rfl rfl rfl ?_
        refine wl (y_pickF rfl rfl) rfl ?_
        refine wl (y_move rfl) rfl ?_
        refine wl_off rfl rfl rfl rfl ?_
        refine wl_off rfl rfl rfl rfl ?_
        refine wl_off rfl rfl rfl rfl ?_
        refine wl (y_pickF rfl rfl) rfl ?_
        refine wl (y_move rfl) rfl ?_
        refine wl_off rfl rfl rfl rfl ?_
        refine wl_off rfl rfl rfl rfl ?_
        refine wl_off rfl rfl rfl rfl ?_
        refine wl (y_pickF rfl rfl) rfl ?_
        refine wl (y_move rfl) rfl ?_
        refine wl_off rfl rfl rfl rfl ?_
        refine wl_off rfl rfl rfl rfl ?_
        refine wl_off rfl rfl rfl rfl ?_
        refine wl (y_pickF rfl rfl) rfl ?_
        refine wl (y_move rfl) rfl ?_
        refine wl_off rfl rfl rfl rfl ?_
        refine wl_off rfl rfl rfl rfl ?_
        refine wl_off rfl rfl rfl rfl ?_
        refine wl (y_pickF rfl rfl) rfl ?_
        refine wl (y_assign rfl) rfl ?_
        refine wl_nil ?_
        refine wc_ret ?_
        refine wret (vs := [_]) (.tmp rfl .nil) ?_
        first
        | exact ⟨congrArg Value.bool (ht _ (by rw [decide_eq_true_iff]; omega)), hS.keep⟩
        | exact ⟨congrArg Value.bool (ht _ (by simp only [Bool.false_eq_true, false_iff]; omega)), hS.keep⟩
    · try simp only [zq1, zq2, zq3, zq4, zq5, zq6, zq7] at hg11
      refine wl_off rfl rfl rfl rfl ?_
      refine wl_off rfl rfl rfl rfl ?_
      refine wl_off rfl rfl rfl rfl ?_
      refine wl (y_pickF rfl rfl) rfl ?_
      refine wl (y_move rfl) rfl ?_
      refine wl_off rfl rfl rfl rfl ?_
      refine wl_off rfl rfl rfl rfl ?_
      refine wl_off rfl rfl rfl rfl ?_
      refine wl (y_pickF rfl rfl) rfl ?_
      refine wl (y_move rfl) rfl ?_
      refine wl_off rfl rfl rfl rfl ?_
      refine wl_off rfl rfl rfl rfl ?_
      refine wl_off rfl rfl rfl rfl ?_
      refine wl (y_pickF rfl rfl) rfl ?_
      refine wl (y_move rfl) rfl ?_
      refine wl_off rfl rfl rfl rfl ?_
      refine wl_off rfl rfl rfl rfl ?_
      refine wl_off rfl rfl rfl rfl ?_
      refine wl (y_pickF rfl rfl) rfl ?_
      refine wl (y_move rfl) rfl ?_
      refine wl_off rfl rfl rfl rfl ?_
      refine wl_off rfl rfl rfl rfl ?_
      refine wl_off rfl rfl rfl rfl ?_
      refine wl (y_pickF rfl rfl) rfl ?_
      refine wl (y_move rfl) rfl ?_
      refine wl_off rfl rfl rfl rfl ?_
      refine wl_off rfl rfl rfl rfl ?_
      refine wl_off rfl rfl rfl rfl ?_
      refine wl (y_pickF rfl rfl) rfl ?_
      refine wl (y_move rfl) rfl ?_
      refine wl_off rfl rfl rfl rfl ?_
      refine wl_off rfl rfl rfl rfl ?_
      refine wl_off rfl rfl rfl rfl ?_
      refine wl (y_pickF rfl rfl) rfl ?_
      refine wl (y_move rfl) rfl ?_
      refine wl_off rfl rfl rfl rfl ?_
      refine wl_off rfl rfl rfl rfl ?_
      refine wl_off rfl rfl rfl rfl ?_
      refine wl (y_pickF rfl rfl) rfl ?_
      refine wl (y_move rfl) rfl ?_
      refine wl_off rfl rfl rfl rfl ?_
      refine wl_off rfl rfl rfl rfl ?_
      refine wl_off rfl rfl rfl rfl ?_
      refine wl (y_pickF rfl rfl) rfl ?_
      refine wl (y_move rfl) rfl ?_
      refine wl_off rfl rfl rfl rfl ?_
      refine wl_off rfl rfl rfl rfl ?_
      refine wl_off rfl rfl rfl rfl ?_
      refine wl (y_pickF rfl rfl) rfl ?_
      refine wl (y_assign rfl) rfl ?_
      refine wl_nil ?_
      refine wc_ret ?_
      refine wret (vs := [_]) (.tmp rfl .nil) ?_
      first
      | exact ⟨congrArg Value.bool (ht _ (by rw [decide_eq_true_iff]; omega)), hS.keep⟩
      | exact ⟨congrArg Value.bool (ht _ (by simp only [Bool.false_eq_true, false_iff]; omega)), hS.keep⟩
  · try simp only [zq1, zq2, zq3, zq4, zq5, zq6, zq7] at hg6
    refine wl_off rfl rfl rfl rfl ?_
    refine wl_off rfl rfl rfl rfl ?_
    refine wl_off rfl rfl rfl rfl ?_
    refine wl (y_pickF rfl rfl) rfl ?_
    refine wl (y_move rfl) rfl ?_
    refine wl_off rfl rfl rfl rfl ?_
    refine wl_off rfl rfl rfl rfl ?_
    refine wl_off rfl rfl rfl rfl ?_
    refine wl (y_pickF rfl rfl) rfl ?_
    refine wl (y_move rfl) rfl ?_
    refine wl_off rfl rfl rfl rfl ?_
    refine wl_off rfl rfl rfl rfl ?_
    refine wl_off rfl rfl rfl rfl ?_
    refine wl (y_pickF rfl rfl) rfl ?_
    refine wl (y_move rfl) rfl ?_
    refine wl_off rfl rfl rfl rfl ?_
    refine wl_off rfl rfl rfl rfl ?_
    refine wl_off rfl rfl rfl rfl ?_
    refine wl (y_pickF rfl rfl) rfl ?_
    refine wl (y_move rfl) rfl ?_
    refine wl_off rfl rfl rfl rfl ?_
    refine wl_off rfl rfl rfl rfl ?_
    refine wl_off rfl rfl rfl rfl ?_
    refine wl (y_pickF rfl rfl) rfl ?_
    refine wl (y_move rfl) rfl ?_
    refine wl_off rfl rfl rfl rfl ?_
    refine wl_off rfl rfl rfl rfl ?_
    refine wl_off rfl rfl rfl rfl ?_
    refine wl (y_pickF rfl rfl) rfl ?_
    refine wl (y_move rfl) rfl ?_
    refine wl_off rfl rfl rfl rfl ?_
    refine wl_off rfl rfl rfl rfl ?_
    refine wl_off rfl rfl rfl rfl ?_
    refine wl (y_pickF rfl rfl) rfl ?_
    refine wl (y_move rfl) rfl ?_
    refine wl_off rfl rfl rfl rfl ?_
    refine wl_off rfl rfl rfl rfl ?_
    refine wl_off rfl rfl rfl rfl ?_
    refine wl (y_pickF rfl rfl) rfl ?_
    refine wl (y_move rfl) rfl ?_
    refine wl_off rfl rfl rfl rfl ?_
    refine wl_off rfl rfl rfl rfl ?_
    refine wl_off rfl rfl rfl rfl ?_
    refine wl (y_pickF rfl rfl) rfl ?_
    refine wl (y_move rfl) rfl ?_
    refine wl_off rfl rfl rfl rfl ?_
    refine wl_off rfl rfl rfl rfl ?_
    refine wl_off rfl rfl rfl rfl ?_
    refine wl (y_pickF rfl rfl) rfl ?_
    refine wl (y_move rfl) rfl ?_
    refine wl_off rfl rfl rfl rfl ?_
    refine wl_off rfl rfl rfl rfl ?_
    refine wl_off rfl rfl rfl rfl ?_
    refine wl (y_pickF rfl rfl) rfl ?_
    refine wl (y_assign rfl) rfl ?_
    refine wl_nil ?_
    refine wc_ret ?_
    refine wret (vs := [_]) (.tmp rfl .nil) ?_
    first
    | exact ⟨congrArg Value.bool (ht _ (by rw [decide_eq_true_iff]; omega)), hS.keep⟩
    | exact ⟨congrArg Value.bool (ht _ (by simp only [Bool.false_eq_true, false_iff]; omega)), hS.keep⟩
end
end Go.Proofs.YtndahppmjdbifaaGreatDoor.Nod

set_option linter.unusedVariables false
set_option linter.unusedSimpArgs false
namespace Go.Proofs.YtndahppmjdbifaaGreatDoor.Nod
open Go Go.Proofs Go.Proofs.YtndahppmjdbifaaGreatDoor.Eng Go.Proofs.YtndahppmjdbifaaGreatDoor.Pre Go.Proofs.YtndahppmjdbifaaGreatDoor.Pak Go.Proofs.YtndahppmjdbifaaGreatDoor.Val Go.Proofs.YtndahppmjdbifaaGreatDoor.Rou Go.Proofs.YtndahppmjdbifaaGreatDoor.Fra Go.Proofs.YtndahppmjdbifaaGreatDoor.Snd Go.Proofs.YtndahppmjdbifaaGreatDoor.Lnk Go.Proofs.YtndahppmjdbifaaGreatDoor.Jnl Go.Proofs.YtndahppmjdbifaaGreatDoor.Cli Go.Proofs.YtndahppmjdbifaaGreatDoor.Sto
theorem _root_.Go.Proofs.YtndahppmjdbifaaGreatDoor.Eng.Holds.atV {α : Type} {A : Enc α} {w : World} {b off m c i : Nat} {xs : List α} {x : α} (h : Holds w A (.slice (some ⟨b, off, none⟩) m c) xs) (hx : xs[i]? = some x) : CellsAt w b (off + i * A.k) (A.f x) := by
  obtain ⟨b', off', c', hse, hce⟩ := h.at hx
  simp only [Value.slice.injEq, Option.some.injEq, Addr.mk.injEq] at hse
  obtain ⟨⟨rfl, rfl, _⟩, _⟩ := hse
  exact hce
theorem take_eq_step {α : Type} {xs ys : List α} {i : Nat} {x y : α} (hx : xs[i]? = some x) (hy : ys[i]? = some y) (h : xs.take i = ys.take i) (e : x = y) : xs.take (i + 1) = ys.take (i + 1) := by
  rw [List.take_add_one, List.take_add_one, hx, hy, h, e]
theorem pkt_eq (x y : Pkt) : (decide (x.frm = y.frm) && (decide (x.to_ = y.to_) && (decide (x.bytes = y.bytes) && true))) = decide (x = y) := by
  rw [Bool.eq_iff_iff]
  simp only [Bool.and_true, Bool.and_eq_true, decide_eq_true_iff]
  cases x; cases y; simp
section
variable {M : Mem} {w : World} {Ls : List Chunk}
theorem psame_c {xs ys : List Pkt} {s t : Value} {H1 H2 : Chunk} (hl : xs.length ≤ 137438953472) (hx : Own 40 encP s xs H1) (hy : Own 40 encP t ys H2) (hS : St M w (H1 :: H2 :: Ls)) :
    CallsR Tryz.prog 20 [s, t].toArray w fun v w' => v = .bool (decide (xs = ys)) ∧ St M w' (H1 :: H2 :: Ls) := by
  obtain ⟨sa, sc, rfl⟩ := hx.slice
  obtain ⟨ta, tc, rfl⟩ := hy.slice
  refine calls_of (c := _) (rs := _) (n := 26) Tryz.func20 rfl rfl rfl rfl rfl ?_
  refine wc_seq ?_
  refine wc_region ?_
  refine wl (y_assign rfl) rfl ?_
  refine wl_nil ?_
  refine wc_seq ?_
  refine wc_seq ?_
  refine wc_region ?_
  refine wl (y_move rfl) rfl ?_
  refine wl (y_len_sl Tryz.underlying37 rfl) rfl ?_
  refine wl (y_move rfl) rfl ?_
  refine wl (y_len_sl Tryz.underlying37 rfl) rfl ?_
  refine wl (y_neq rfl rfl) rfl ?_
  refine wl_nil ?_
  refine wc_if rfl (fun hc10 => ?_) (fun hc10 => ?_)
  · try simp only [zq1, zq2, zq3, zq4, zq5, zq6, zq7] at hc10
    have hne : xs ≠ ys := fun e => by subst e; simp at hc10
    rw [decide_eq_false hne]
    refine wc_seq ?_
    refine wc_region ?_
    refine wl (y_assign rfl) rfl ?_
    refine wl_nil ?_
    refine wc_ret ?_
    refine wret (vs := [_]) (.tmp rfl .nil) ?_
    exact ⟨rfl, hS⟩
  · try simp only [zq1, zq2, zq3, zq4, zq5, zq6, zq7] at hc10
    have hlen : xs.length = ys.length := by omega
    refine wc_skip ?_
    refine wc_seq ?_
    refine wc_seq ?_
    refine wc_region ?_
    refine wl (y_assign rfl) rfl ?_
    refine wl_nil ?_
    refine wc_block ?_
    refine wc_loop (α := Nat) (fun i => [(0, .slice sa xs.length sc), (1, .slice ta ys.length tc), (5, .int .i64 i)]) (fun i w => i ≤ xs.length ∧ xs.take i = ys.take i ∧ St M w (H1 :: H2 :: Ls)) (fun i => xs.length - i) 0 (sub_cons rfl (sub_cons rfl (sub_cons rfl sub_nil))) ⟨by omega, rfl, hS⟩ ?_
    clear hS
    rintro i w ⟨hi, hq, hS⟩
    refine wc_seq ?_
    refine wc_seq ?_
    refine wc_region ?_
    refine wl (y_move rfl) rfl ?_
    refine wl (y_move rfl) rfl ?_
    refine wl (y_len_sl Tryz.underlying37 rfl) rfl ?_
    refine wl (y_lss rfl rfl) rfl ?_
    refine wl_nil ?_
    refine wc_if rfl (fun hc14 => ?_) (fun hc14 => ?_)
    · try simp only [zq1, zq2, zq3, zq4, zq5, zq6, zq7] at hc14
      refine wc_skip ?_
      refine wc_seq ?_
      refine wc_block ?_
      refine wc_seq ?_
      have hi' : i < xs.length := by omega
      obtain ⟨x, hxi⟩ : ∃ x, xs[i]? = some x := ⟨_, List.getElem?_eq_getElem hi'⟩
      obtain ⟨y, hyi⟩ : ∃ y, ys[i]? = some y := ⟨_, List.getElem?_eq_getElem (by omega)⟩
      obtain ⟨bb, off, c', hse, _⟩ := (hx.holds (hS.pull H1)).at hxi
      obtain ⟨bc, og, c2, hsf, _⟩ := (hy.holds (hS.pull H2)).at hyi
      simp only [Value.slice.injEq] at hse hsf
      have hSk := hS
      obtain ⟨rfl, _, rfl⟩ := hse
      obtain ⟨rfl, _, rfl⟩ := hsf
      replace hS := hSk
      refine wc_draw (l0 := (lb 9 0)) (fun w => CellsAt w bb (off + i * encP.k) (encP.f x) ∧ CellsAt w bc (og + i * encP.k) (encP.f y)) [] wide_ rfl rfl fun w hw => ?_
      replace hS := hS.same hw; clear hw
      refine dr_pure (i := 0) (lb 9 1) rfl rfl (by kernel_rfl) (fun w => y_move rfl) ?_
      refine dr_pure (i := 1) (lb 9 3) rfl rfl (by kernel_rfl) (fun w => y_move rfl) ?_
      refine dr_pure (i := 2) (lb 9 7) rfl rfl (by kernel_rfl) (fun w => y_ixa_sl Tryz.underlying37 sz_40 rfl rfl (by omega) (by omega)) ?_
      refine dr_pure (i := 4) (lb 9 23) rfl rfl (by kernel_rfl) (fun w => y_move rfl) ?_
      refine dr_pure (i := 5) (lb 9 55) rfl rfl (by kernel_rfl) (fun w => y_move rfl) ?_
      refine dr_pure (i := 6) (lb 9 119) rfl rfl (by kernel_rfl) (fun w => y_ixa_sl Tryz.underlying37 sz_40 rfl rfl (by omega) (by omega)) ?_
      refine dr_read (i := 3) (lb 9 127) rfl rfl (by kernel_rfl) ⟨(hx.holds (hS.pull H1)).atV hxi, (hy.holds (hS.pull H2)).atV hyi⟩ (fun w hS => y_loadS st_40 sz_40 rfl hS.1 rfl) ?_
      refine dr_read (i := 7) (lb 9 255) rfl rfl (by kernel_rfl) ⟨(hx.holds (hS.pull H1)).atV hxi, (hy.holds (hS.pull H2)).atV hyi⟩ (fun w hS => y_loadS st_40 sz_40 rfl hS.2 rfl) ?_
      refine dr_pure (i := 8) (lb 9 511) rfl rfl (by kernel_rfl) (fun w => (y_neS Tryz.eqGuardType40 rfl rfl (eq_40 _ _ _ _ _ _)).val (u := .bool (!decide (x = y))) (congrArg Value.bool (congrArg not (pkt_eq x y)))) ?_
      refine dr_done (by kernel_rfl) ?_
      refine wc_if rfl (fun hc25 => ?_) (fun hc25 => ?_)
      · try simp only [zq1, zq2, zq3, zq4, zq5, zq6, zq7] at hc25
        have hne : xs ≠ ys := fun e => by subst e; rw [hxi] at hyi; exact hc25 (Option.some.inj hyi)
        rw [decide_eq_false hne]
        refine wc_seq ?_
        refine wc_region ?_
        refine wl (y_assign rfl) rfl ?_
        refine wl_nil ?_
        refine wc_ret ?_
        refine wret (vs := [_]) (.tmp rfl .nil) ?_
        exact ⟨rfl, hS⟩
      · try simp only [zq1, zq2, zq3, zq4, zq5, zq6, zq7] at hc25
        refine wc_skip ?_
        refine wc_region ?_
        refine wl (y_move rfl) rfl ?_
        refine wl (y_add rfl rfl (w64 (by omega) (by omega))) rfl ?_
        refine wl (y_assign rfl) rfl ?_
        refine wl_nil ?_
        exact ⟨i + 1, by omega, sub_cons rfl (sub_cons rfl (sub_cons rfl sub_nil)), by omega, take_eq_step hxi hyi hq hc25, hS⟩
    · try simp only [zq1, zq2, zq3, zq4, zq5, zq6, zq7] at hc14
      obtain rfl : i = xs.length := by omega
      rw [List.take_length, hlen, List.take_length] at hq
      rw [decide_eq_true hq]
      refine wc_exit ?_
      refine wc_seq ?_
      refine wc_region ?_
      refine wl (y_assign rfl) rfl ?_
      refine wl_nil ?_
      refine wc_ret ?_
      refine wret (vs := [_]) (.tmp rfl .nil) ?_
      exact ⟨rfl, hS⟩
theorem upd_eq (x y : Upd) : (decide (x.key = y.key) && (decide (x.kind = y.kind) && (decide (x.n = y.n) && (decide (x.s = y.s) && true)))) = decide (x = y) := by
  rw [Bool.eq_iff_iff]
  simp only [Bool.and_true, Bool.and_eq_true, decide_eq_true_iff]
  cases x; cases y; simp
theorem rsame_c (r q : Rnd) (s t : Value) (hs : Rd M encU s r.ups) (ht : Rd M encU t q.ups) (hl : r.ups.length ≤ 137438953472) (hS : St M w Ls) :
    CallsR Tryz.prog 58 [rvS r s, rvS q t].toArray w fun v w' => v = .bool (decide (r = q)) ∧ St M w' Ls := by
  have hs0 := hs
  have ht0 := ht
  obtain ⟨sa, sc, rfl⟩ := (hs.holds hS).slice
  obtain ⟨ta, tc, rfl⟩ := (ht.holds hS).slice
  refine calls_of (c := _) (rs := _) (n := 45) Tryz.func58 rfl rfl rfl rfl rfl ?_
  refine wc_seq ?_
  refine wc_region ?_
  refine a_box rfl hS rfl fun b2 w hS => ?_
  refine a_box rfl hS rfl fun b3 w hS => ?_
  refine wl (y_assign rfl) rfl ?_
  refine wl_nil ?_
  refine wc_seq ?_
  refine wc_seq ?_
  refine wc_region ?_
  refine wl (y_fld fl_48_0 rfl) rfl ?_
  refine wl (y_load pl_3 rfl (hS.cell (v := .int .i64 r.o) rfl)) rfl ?_
  refine wl (y_fld fl_48_0 rfl) rfl ?_
  refine wl (y_load pl_3 rfl (hS.cell (v := .int .i64 q.o) rfl)) rfl ?_
  refine wl (y_neq rfl rfl) rfl ?_
  refine wl (y_move rfl) rfl ?_
  refine wl_cases (s := 11) rfl (fun hg11 => ?_) (fun hg11 => ?_)
  · try simp only [zq1, zq2, zq3, zq4, zq5, zq6, zq7] at hg11
    have hne : r ≠ q := fun e => by subst e; exact absurd rfl hg11
    rw [decide_eq_false hne]
    refine wl_off rfl rfl rfl rfl ?_
    refine wl_off rfl rfl rfl rfl ?_
    refine wl_off rfl rfl rfl rfl ?_
    refine wl_off rfl rfl rfl rfl ?_
    refine wl_off rfl rfl rfl rfl ?_
    refine wl (y_pickT rfl rfl) rfl ?_
    refine wl (y_move rfl) rfl ?_
    refine wl_off rfl rfl rfl rfl ?_
    refine wl_off rfl rfl rfl rfl ?_
    refine wl_off rfl rfl rfl rfl ?_
    refine wl_off rfl rfl rfl rfl ?_
    refine wl_off rfl rfl rfl rfl ?_
    refine wl_off rfl rfl rfl rfl ?_
    refine wl_off rfl rfl rfl rfl ?_
    refine wl (y_pickT rfl rfl) rfl ?_
    refine wl_nil ?_
    refine wc_ifT rfl rfl ?_
    refine wc_seq ?_
    refine wc_region ?_
    refine wl (y_assign rfl) rfl ?_
    refine wl_nil ?_
    refine wc_ret ?_
    refine wret (vs := [_]) (.tmp rfl .nil) ?_
    exact ⟨rfl, hS.keep⟩
  · try simp only [zq1, zq2, zq3, zq4, zq5, zq6, zq7] at hg11
    refine wl_on rfl rfl ?_
    refine wl (y_fld fl_48_1 rfl) rfl ?_
    refine wl_on rfl rfl ?_
    refine wl (y_load pl_3 rfl (hS.cell (v := .int .i64 r.n) rfl)) rfl ?_
    refine wl_on rfl rfl ?_
    refine wl (y_fld fl_48_1 rfl) rfl ?_
    refine wl_on rfl rfl ?_
    refine wl (y_load pl_3 rfl (hS.cell (v := .int .i64 q.n) rfl)) rfl ?_
    refine wl_on rfl rfl ?_
    refine wl (y_neq rfl rfl) rfl ?_
    refine wl (y_pickF rfl rfl) rfl ?_
    refine wl (y_move rfl) rfl ?_
    refine wl_cases (s := 18) rfl (fun hg18 => ?_) (fun hg18 => ?_)
    · try simp only [zq1, zq2, zq3, zq4, zq5, zq6, zq7] at hg18
      have hne : r ≠ q := fun e => by subst e; exact absurd rfl hg18
      rw [decide_eq_false hne]
      refine wl_off rfl rfl rfl rfl ?_
      refine wl_off rfl rfl rfl rfl ?_
      refine wl_off rfl rfl rfl rfl ?_
      refine wl_off rfl rfl rfl rfl ?_
      refine wl_off rfl rfl rfl rfl ?_
      refine wl_off rfl rfl rfl rfl ?_
      refine wl_off rfl rfl rfl rfl ?_
      refine wl (y_pickT rfl rfl) rfl ?_
      refine wl_nil ?_
      refine wc_ifT rfl rfl ?_
      refine wc_seq ?_
      refine wc_region ?_
      refine wl (y_assign rfl) rfl ?_
      refine wl_nil ?_
      refine wc_ret ?_
      refine wret (vs := [_]) (.tmp rfl .nil) ?_
      exact ⟨rfl, hS.keep⟩
    · try simp only [zq1, zq2, zq3, zq4, zq5, zq6, zq7] at hg18
      refine wl_on rfl rfl ?_
      refine wl (y_fld fl_48_2 rfl) rfl ?_
      refine wl_on rfl rfl ?_
      refine wl (y_load pl_46 rfl (hS.cell (v := .slice sa r.ups.length sc) rfl)) rfl ?_
      refine wl_on rfl rfl ?_
      refine wl (y_len_sl Tryz.underlying46 rfl) rfl ?_
      refine wl_on rfl rfl ?_
      refine wl (y_fld fl_48_2 rfl) rfl ?_
      refine wl_on rfl rfl ?_
      refine wl (y_load pl_46 rfl (hS.cell (v := .slice ta q.ups.length tc) rfl)) rfl ?_
      refine wl_on rfl rfl ?_
      refine wl (y_len_sl Tryz.underlying46 rfl) rfl ?_
      refine wl_on rfl rfl ?_
      refine wl (y_neq rfl rfl) rfl ?_
      refine wl (y_pickF rfl rfl) rfl ?_
      refine wl_nil ?_
      refine wc_if rfl (fun hc26 => ?_) (fun hc26 => ?_)
      · try simp only [zq1, zq2, zq3, zq4, zq5, zq6, zq7] at hc26
        have hne : r ≠ q := fun e => by subst e; exact absurd rfl hc26
        rw [decide_eq_false hne]
        refine wc_seq ?_
        refine wc_region ?_
        refine wl (y_assign rfl) rfl ?_
        refine wl_nil ?_
        refine wc_ret ?_
        refine wret (vs := [_]) (.tmp rfl .nil) ?_
        exact ⟨rfl, hS.keep⟩
      · try simp only [zq1, zq2, zq3, zq4, zq5, zq6, zq7] at hc26
        have hlen : r.ups.length = q.ups.length := by omega
        refine wc_skip ?_
        refine wc_seq ?_
        refine wc_seq ?_
        refine wc_region ?_
        refine wl (y_assign rfl) rfl ?_
        refine wl_nil ?_
        refine wc_block ?_
        refine wc_loop (α := Nat) (fun i => [(2, .pointer (some ⟨b2, 0, none⟩)), (3, .pointer (some ⟨b3, 0, none⟩)), (5, .int .i64 i)]) (fun i w => i ≤ r.ups.length ∧ r.ups.take i = q.ups.take i ∧ St M w ([(b3, .cells #[.int .i64 q.o, .int .i64 q.n, .slice ta q.ups.length tc] 48)] :: [(b2, .cells #[.int .i64 r.o, .int .i64 r.n, .slice sa r.ups.length sc] 48)] :: Ls)) (fun i => r.ups.length - i) 0 (sub_cons rfl (sub_cons rfl (sub_cons rfl sub_nil))) ⟨by omega, rfl, hS⟩ ?_
        clear hS
        rintro i w ⟨hi, hq, hS⟩
        refine wc_seq ?_
        refine wc_seq ?_
        refine wc_region ?_
        refine wl (y_move rfl) rfl ?_
        refine wl (y_fld fl_48_2 rfl) rfl ?_
        refine wl (y_load pl_46 rfl (hS.cell (v := .slice sa r.ups.length sc) rfl)) rfl ?_
        refine wl (y_len_sl Tryz.underlying46 rfl) rfl ?_
        refine wl (y_lss rfl rfl) rfl ?_
        refine wl_nil ?_
        refine wc_if rfl (fun hc31 => ?_) (fun hc31 => ?_)
        · try simp only [zq1, zq2, zq3, zq4, zq5, zq6, zq7] at hc31
          refine wc_skip ?_
          refine wc_seq ?_
          refine wc_block ?_
          refine wc_seq ?_
          have hi' : i < r.ups.length := by omega
          obtain ⟨x, hxi⟩ : ∃ x, r.ups[i]? = some x := ⟨_, List.getElem?_eq_getElem hi'⟩
          obtain ⟨y, hyi⟩ : ∃ y, q.ups[i]? = some y := ⟨_, List.getElem?_eq_getElem (by omega)⟩
          obtain ⟨bb, off, c', hse, _⟩ := (hs0.holds hS).at hxi
          obtain ⟨bc, og, c2, hsf, _⟩ := (ht0.holds hS).at hyi
          simp only [Value.slice.injEq] at hse hsf
          have hSk := hS
          obtain ⟨rfl, _, rfl⟩ := hse
          obtain ⟨rfl, _, rfl⟩ := hsf
          replace hS := hSk
          refine wc_draw (l0 := (lb 11 0)) (fun w => w.cell? ⟨b2, 2, none⟩ = some (.slice (some ⟨bb, off, none⟩) r.ups.length sc) ∧ w.cell? ⟨b3, 2, none⟩ = some (.slice (some ⟨bc, og, none⟩) q.ups.length tc) ∧ CellsAt w bb (off + i * encU.k) (encU.f x) ∧ CellsAt w bc (og + i * encU.k) (encU.f y)) [] wide_ rfl rfl fun w hw => ?_
          replace hS := hS.same hw; clear hw
          refine dr_pure (i := 0) (lb 11 1) rfl rfl (by kernel_rfl) (fun w => y_fld fl_48_2 rfl) ?_
          refine dr_pure (i := 2) (lb 11 5) rfl rfl (by kernel_rfl) (fun w => y_move rfl) ?_
          refine dr_pure (i := 5) (lb 11 37) rfl rfl (by kernel_rfl) (fun w => y_fld fl_48_2 rfl) ?_
          refine dr_pure (i := 7) (lb 11 165) rfl rfl (by kernel_rfl) (fun w => y_move rfl) ?_
          refine dr_read (i := 1) (lb 11 167) rfl rfl (by kernel_rfl) ⟨hS.cell rfl, hS.cell rfl, (hs0.holds hS).atV hxi, (ht0.holds hS).atV hyi⟩ (fun w hS => y_load pl_46 rfl hS.1) ?_
          refine dr_pure (i := 3) (lb 11 175) rfl rfl (by kernel_rfl) (fun w => y_ixa_sl Tryz.underlying46 sz_59 rfl rfl (by omega) (by omega)) ?_
          refine dr_read (i := 4) (lb 11 191) rfl rfl (by kernel_rfl) ⟨hS.cell rfl, hS.cell rfl, (hs0.holds hS).atV hxi, (ht0.holds hS).atV hyi⟩ (fun w hS => y_loadS st_59 sz_59 rfl hS.2.2.1 rfl) ?_
          refine dr_read (i := 6) (lb 11 255) rfl rfl (by kernel_rfl) ⟨hS.cell rfl, hS.cell rfl, (hs0.holds hS).atV hxi, (ht0.holds hS).atV hyi⟩ (fun w hS => y_load pl_46 rfl hS.2.1) ?_
          refine dr_pure (i := 8) (lb 11 511) rfl rfl (by kernel_rfl) (fun w => y_ixa_sl Tryz.underlying46 sz_59 rfl rfl (by omega) (by omega)) ?_
          refine dr_read (i := 9) (lb 11 1023) rfl rfl (by kernel_rfl) ⟨hS.cell rfl, hS.cell rfl, (hs0.holds hS).atV hxi, (ht0.holds hS).atV hyi⟩ (fun w hS => y_loadS st_59 sz_59 rfl hS.2.2.2 rfl) ?_
          refine dr_pure (i := 10) (lb 11 2047) rfl rfl (by kernel_rfl) (fun w => (y_neS Tryz.eqGuardType59 rfl rfl (eq_59 _ _ _ _ _ _ _ _)).val (u := .bool (!decide (x = y))) (congrArg Value.bool (congrArg not (upd_eq x y)))) ?_
          refine dr_done (by kernel_rfl) ?_
          refine wc_if rfl (fun hc44 => ?_) (fun hc44 => ?_)
          · try simp only [zq1, zq2, zq3, zq4, zq5, zq6, zq7] at hc44
            have hne : r ≠ q := fun e => by subst e; rw [hxi] at hyi; exact hc44 (Option.some.inj hyi)
            rw [decide_eq_false hne]
            refine wc_seq ?_
            refine wc_region ?_
            refine wl (y_assign rfl) rfl ?_
            refine wl_nil ?_
            refine wc_ret ?_
            refine wret (vs := [_]) (.tmp rfl .nil) ?_
            exact ⟨rfl, hS.keep⟩
          · try simp only [zq1, zq2, zq3, zq4, zq5, zq6, zq7] at hc44
            refine wc_skip ?_
            refine wc_region ?_
            refine wl (y_move rfl) rfl ?_
            refine wl (y_add rfl rfl (w64 (by omega) (by omega))) rfl ?_
            refine wl (y_assign rfl) rfl ?_
            refine wl_nil ?_
            exact ⟨i + 1, by omega, sub_cons rfl (sub_cons rfl (sub_cons rfl sub_nil)), by omega, take_eq_step hxi hyi hq hc44, hS⟩
        · try simp only [zq1, zq2, zq3, zq4, zq5, zq6, zq7] at hc31
          obtain rfl : i = r.ups.length := by omega
          rw [List.take_length, hlen, List.take_length] at hq
          have heq : r = q := by cases r; cases q; simp only [Rnd.mk.injEq]; exact ⟨hg11, hg18, hq⟩
          rw [decide_eq_true heq]
          refine wc_exit ?_
          refine wc_seq ?_
          refine wc_region ?_
          refine wl (y_assign rfl) rfl ?_
          refine wl_nil ?_
          refine wc_ret ?_
          refine wret (vs := [_]) (.tmp rfl .nil) ?_
          exact ⟨rfl, hS.keep⟩
theorem rsameall_c {xs ys : List RV} {rs qs : List Rnd} {s t : Value} {H1 H2 : Chunk} (hl : rs.length ≤ 137438953472) (hx : Own 48 encRV s xs H1) (hr : Rvs M xs rs) (hy : Own 48 encRV t ys H2) (hq : Rvs M ys qs) (hS : St M w (H1 :: H2 :: Ls)) :
    CallsR Tryz.prog 16 [s, t].toArray w fun v w' => v = .bool (decide (rs = qs)) ∧ St M w' (H1 :: H2 :: Ls) := by
  obtain ⟨sa, sc, rfl⟩ := hx.slice
  obtain ⟨ta, tc, rfl⟩ := hy.slice
  have e1 := hr.len
  have e2 := hq.len
  refine calls_of (c := _) (rs := _) (n := 27) Tryz.func16 rfl rfl rfl rfl rfl ?_
  refine wc_seq ?_
  refine wc_region ?_
  refine wl (y_assign rfl) rfl ?_
  refine wl_nil ?_
  refine wc_seq ?_
  refine wc_seq ?_
  refine wc_region ?_
  refine wl (y_move rfl) rfl ?_
  refine wl (y_len_sl Tryz.underlying32 rfl) rfl ?_
  refine wl (y_move rfl) rfl ?_
  refine wl (y_len_sl Tryz.underlying32 rfl) rfl ?_
  refine wl (y_neq rfl rfl) rfl ?_
  refine wl_nil ?_
  refine wc_if rfl (fun hc10 => ?_) (fun hc10 => ?_)
  · try simp only [zq1, zq2, zq3, zq4, zq5, zq6, zq7] at hc10
    have hne : rs ≠ qs := fun e => by subst e; omega
    rw [decide_eq_false hne]
    refine wc_seq ?_
    refine wc_region ?_
    refine wl (y_assign rfl) rfl ?_
    refine wl_nil ?_
    refine wc_ret ?_
    refine wret (vs := [_]) (.tmp rfl .nil) ?_
    exact ⟨rfl, hS⟩
  · try simp only [zq1, zq2, zq3, zq4, zq5, zq6, zq7] at hc10
    have hlen : xs.length = ys.length := by omega
    refine wc_skip ?_
    refine wc_seq ?_
    refine wc_seq ?_
    refine wc_region ?_
    refine wl (y_assign rfl) rfl ?_
    refine wl_nil ?_
    refine wc_block ?_
    refine wc_loop (α := Nat) (fun i => [(0, .slice sa xs.length sc), (1, .slice ta ys.length tc), (5, .int .i64 i)]) (fun i w => i ≤ xs.length ∧ rs.take i = qs.take i ∧ St M w (H1 :: H2 :: Ls)) (fun i => xs.length - i) 0 (sub_cons rfl (sub_cons rfl (sub_cons rfl sub_nil))) ⟨by omega, rfl, hS⟩ ?_
    clear hS
    rintro i w ⟨hi, hk, hS⟩
    refine wc_seq ?_
    refine wc_seq ?_
    refine wc_region ?_
    refine wl (y_move rfl) rfl ?_
    refine wl (y_move rfl) rfl ?_
    refine wl (y_len_sl Tryz.underlying32 rfl) rfl ?_
    refine wl (y_lss rfl rfl) rfl ?_
    refine wl_nil ?_
    refine wc_if rfl (fun hc14 => ?_) (fun hc14 => ?_)
    · try simp only [zq1, zq2, zq3, zq4, zq5, zq6, zq7] at hc14
      refine wc_skip ?_
      refine wc_seq ?_
      refine wc_block ?_
      refine wc_seq ?_
      have hi' : i < xs.length := by omega
      obtain ⟨r, hri⟩ : ∃ r, rs[i]? = some r := ⟨_, List.getElem?_eq_getElem (by omega)⟩
      obtain ⟨q, hqi⟩ : ∃ q, qs[i]? = some q := ⟨_, List.getElem?_eq_getElem (by omega)⟩
      obtain ⟨x, hxi, hxr⟩ := hr.at hri
      obtain ⟨y, hyi, hyq⟩ := hq.at hqi
      obtain ⟨bb, off, c', hse, _⟩ := (hx.holds (hS.pull H1)).at hxi
      obtain ⟨bc, og, c2, hsf, _⟩ := (hy.holds (hS.pull H2)).at hyi
      simp only [Value.slice.injEq] at hse hsf
      have hSk := hS
      obtain ⟨rfl, _, rfl⟩ := hse
      obtain ⟨rfl, _, rfl⟩ := hsf
      replace hS := hSk
      refine wc_draw (l0 := (lb 10 0)) (fun w => CellsAt w bb (off + i * encRV.k) (encRV.f x) ∧ CellsAt w bc (og + i * encRV.k) (encRV.f y)) [8] wide_ rfl rfl fun w hw => ?_
      replace hS := hS.same hw; clear hw
      refine dr_pure (i := 0) (lb 10 1) rfl rfl (by kernel_rfl) (fun w => y_move rfl) ?_
      refine dr_pure (i := 1) (lb 10 3) rfl rfl (by kernel_rfl) (fun w => y_move rfl) ?_
      refine dr_pure (i := 2) (lb 10 7) rfl rfl (by kernel_rfl) (fun w => y_ixa_sl Tryz.underlying32 sz_48 rfl rfl (by omega) (by omega)) ?_
      refine dr_pure (i := 4) (lb 10 23) rfl rfl (by kernel_rfl) (fun w => y_move rfl) ?_
      refine dr_pure (i := 5) (lb 10 55) rfl rfl (by kernel_rfl) (fun w => y_move rfl) ?_
      refine dr_pure (i := 6) (lb 10 119) rfl rfl (by kernel_rfl) (fun w => y_ixa_sl Tryz.underlying32 sz_48 rfl rfl (by omega) (by omega)) ?_
      refine dr_read (i := 3) (lb 10 127) rfl rfl (by kernel_rfl) ⟨(hx.holds (hS.pull H1)).atV hxi, (hy.holds (hS.pull H2)).atV hyi⟩ (fun w hS => (y_loadS st_48 sz_48 rfl hS.1 rfl).val hxr.val) ?_
      refine dr_read (i := 7) (lb 10 255) rfl rfl (by kernel_rfl) ⟨(hx.holds (hS.pull H1)).atV hxi, (hy.holds (hS.pull H2)).atV hyi⟩ (fun w hS => (y_loadS st_48 sz_48 rfl hS.2 rfl).val hyq.val) ?_
      refine dr_do (i := 8) (lb 10 511) rfl (by kernel_rfl) ?_
      refine wl_call (.cons rfl (.cons rfl .nil)) (rsame_c r q x.s y.s hxr.2.2.1 hyq.2.2.1 hxr.2.2.2 hS) rfl ?_
      rintro _ w ⟨rfl, hS⟩
      refine wl_nil ⟨fun h => absurd (by decide) h, ?_⟩
      refine dr_pure (i := 9) (lb 10 1023) rfl rfl (by kernel_rfl) (fun w => y_not rfl) ?_
      refine dr_done (by kernel_rfl) ?_
      refine wc_if rfl (fun hc26 => ?_) (fun hc26 => ?_)
      · try simp only [zq1, zq2, zq3, zq4, zq5, zq6, zq7] at hc26
        have hne : rs ≠ qs := fun e => by subst e; rw [hri] at hqi; exact hc26 (Option.some.inj hqi)
        rw [decide_eq_false hne]
        refine wc_seq ?_
        refine wc_region ?_
        refine wl (y_assign rfl) rfl ?_
        refine wl_nil ?_
        refine wc_ret ?_
        refine wret (vs := [_]) (.tmp rfl .nil) ?_
        exact ⟨rfl, hS⟩
      · try simp only [zq1, zq2, zq3, zq4, zq5, zq6, zq7] at hc26
        refine wc_skip ?_
        refine wc_region ?_
        refine wl (y_move rfl) rfl ?_
        refine wl (y_add rfl rfl (w64 (by omega) (by omega))) rfl ?_
        refine wl (y_assign rfl) rfl ?_
        refine wl_nil ?_
        exact ⟨i + 1, by omega, sub_cons rfl (sub_cons rfl (sub_cons rfl sub_nil)), by omega, take_eq_step hri hqi hk hc26, hS⟩
    · try simp only [zq1, zq2, zq3, zq4, zq5, zq6, zq7] at hc14
      obtain rfl : i = xs.length := by omega
      rw [e1, List.take_length, ← e1, hlen, e2, List.take_length] at hk
      rw [decide_eq_true hk]
      refine wc_exit ?_
      refine wc_seq ?_
      refine wc_region ?_
      refine wl (y_assign rfl) rfl ?_
      refine wl_nil ?_
      refine wc_ret ?_
      refine wret (vs := [_]) (.tmp rfl .nil) ?_
      exact ⟨rfl, hS⟩
end
end Go.Proofs.YtndahppmjdbifaaGreatDoor.Nod

set_option linter.unusedVariables false
set_option linter.unusedSimpArgs false
namespace Go.Proofs.YtndahppmjdbifaaGreatDoor.Nod
open Go Go.Proofs Go.Proofs.YtndahppmjdbifaaGreatDoor.Eng Go.Proofs.YtndahppmjdbifaaGreatDoor.Pre Go.Proofs.YtndahppmjdbifaaGreatDoor.Pak Go.Proofs.YtndahppmjdbifaaGreatDoor.Val Go.Proofs.YtndahppmjdbifaaGreatDoor.Rou Go.Proofs.YtndahppmjdbifaaGreatDoor.Fra Go.Proofs.YtndahppmjdbifaaGreatDoor.Snd Go.Proofs.YtndahppmjdbifaaGreatDoor.Lnk Go.Proofs.YtndahppmjdbifaaGreatDoor.Jnl Go.Proofs.YtndahppmjdbifaaGreatDoor.Cli Go.Proofs.YtndahppmjdbifaaGreatDoor.Sto
def mayB (c : Cfg) (origin : Int) (l : List Act) : Bool := decide (greatB c l = false ∧ mayC c = 0 ∧ 1 ≤ origin ∧ origin ≤ c.clients)
theorem greatB_ok {c : Cfg} {l : List Act} (h : greatB c l = false) : l.length ≤ 50 ∧ c.clients ≤ 4 ∧ ∀ a ∈ l, greatA a = false := by
  unfold greatB at h
  simp only [Bool.or_eq_false_iff, decide_eq_false_iff_not, List.any_eq_false, Bool.not_eq_true] at h
  exact ⟨by omega, by omega, h.2⟩
theorem greatA_ok {a : Act} (h : greatA a = false) : a.bytes.size ≤ 400 ∧ a.u.key.size ≤ 100 ∧ a.u.s.size ≤ 1200 := by
  unfold greatA greatU at h
  simp only [Bool.or_eq_false_iff, decide_eq_false_iff_not] at h
  omega
section
variable {M : Mem} {w : World} {Ls : List Chunk}
theorem great_c (c : Cfg) (l : List Act) (s : Value) (hl : Rd M encA s l) (hS : St M w Ls) : CallsR Tryz.prog 28 [cfgV c, s].toArray w fun v w' => v = .bool (greatB c l) ∧ St M w' Ls := by
  obtain ⟨sa, sc, rfl⟩ := (hl.holds hS).slice
  refine calls_of (c := _) (rs := _) (n := 31) Tryz.func28 rfl rfl rfl rfl rfl ?_
  refine wc_seq ?_
  refine wc_region ?_
  refine a_box rfl hS rfl fun b2 w hS => ?_
  refine wl (y_assign rfl) rfl ?_
  refine wl_nil ?_
  refine wc_seq ?_
  refine wc_seq ?_
  refine wc_region ?_
  refine wl (y_move rfl) rfl ?_
  refine wl (y_len_sl Tryz.underlying24 rfl) rfl ?_
  refine wl (y_gtr rfl rfl) rfl ?_
  refine wl (y_move rfl) rfl ?_
  refine wl_cases (s := 10) rfl (fun hg10 => ?_) (fun hg10 => ?_)
  · try simp only [zq1, zq2, zq3, zq4, zq5, zq6, zq7] at hg10
    have he : greatB c l = true := by unfold greatB; rw [decide_eq_true (by omega)]; rfl
    rw [he]
    refine wl_off rfl rfl rfl rfl ?_
    refine wl_off rfl rfl rfl rfl ?_
    refine wl_off rfl rfl rfl rfl ?_
    refine wl (y_pickT rfl rfl) rfl ?_
    refine wl_nil ?_
    refine wc_ifT rfl rfl ?_
    refine wc_seq ?_
    refine wc_region ?_
    refine wl (y_assign rfl) rfl ?_
    refine wl_nil ?_
    refine wc_ret ?_
    refine wret (vs := [_]) (.tmp rfl .nil) ?_
    exact ⟨rfl, hS.keep⟩
  · try simp only [zq1, zq2, zq3, zq4, zq5, zq6, zq7] at hg10
    refine wl_on rfl rfl ?_
    refine wl (y_fld fl_23_0 rfl) rfl ?_
    refine wl_on rfl rfl ?_
    refine wl (y_load pl_3 rfl (hS.cell (v := .int .i64 c.clients) rfl)) rfl ?_
    refine wl_on rfl rfl ?_
    refine wl (y_gtr rfl rfl) rfl ?_
    refine wl (y_pickF rfl rfl) rfl ?_
    refine wl_nil ?_
    refine wc_if rfl (fun hc14 => ?_) (fun hc14 => ?_)
    · try simp only [zq1, zq2, zq3, zq4, zq5, zq6, zq7] at hc14
      have he : greatB c l = true := by unfold greatB; rw [decide_eq_true (by omega)]; rfl
      rw [he]
      refine wc_seq ?_
      refine wc_region ?_
      refine wl (y_assign rfl) rfl ?_
      refine wl_nil ?_
      refine wc_ret ?_
      refine wret (vs := [_]) (.tmp rfl .nil) ?_
      exact ⟨rfl, hS.keep⟩
    · try simp only [zq1, zq2, zq3, zq4, zq5, zq6, zq7] at hc14
      refine wc_skip ?_
      refine wc_seq ?_
      refine wc_seq ?_
      refine wc_region ?_
      refine wl (y_move rfl) rfl ?_
      refine wl (y_len_sl Tryz.underlying24 rfl) rfl ?_
      refine wl (y_move rfl) rfl ?_
      refine wl_nil ?_
      refine wc_block ?_
      refine wc_loop (α := Nat) (fun i => [(15, .slice sa l.length sc), (16, .int .i64 l.length), (17, .int .i64 i)]) (fun i w => i ≤ l.length ∧ (∀ a ∈ l.take i, greatA a = false) ∧ St M w Ls) (fun i => l.length - i) 0 (sub_cons rfl (sub_cons rfl (sub_cons rfl sub_nil))) ⟨by omega, by simp, hS.keep⟩ ?_
      clear hS
      rintro i w ⟨hi, hq, hS⟩
      refine wc_seq ?_
      refine wc_region ?_
      refine wl (y_lss rfl rfl) rfl ?_
      refine wl_nil ?_
      refine wc_seq ?_
      refine wc_if rfl (fun hc18 => ?_) (fun hc18 => ?_)
      · try simp only [zq1, zq2, zq3, zq4, zq5, zq6, zq7] at hc18
        refine wc_skip ?_
        refine wc_seq ?_
        refine wc_block ?_
        refine wc_seq ?_
        have hi' : i < l.length := by omega
        obtain ⟨a, hai⟩ : ∃ a, l[i]? = some a := ⟨_, List.getElem?_eq_getElem hi'⟩
        obtain ⟨bb, off, c', hse, hce⟩ := (hl.holds hS).at hai
        simp only [Value.slice.injEq] at hse
        have hSk := hS
        obtain ⟨rfl, _, rfl⟩ := hse
        replace hS := hSk
        refine wc_region ?_
        refine wl (y_ixa_sl Tryz.underlying24 sz_61 rfl rfl (by omega) (by omega)) rfl ?_
        refine wl ((y_loadS st_61 sz_61 rfl (vs := encA.f a) hce rfl).val (show _ = aV a from rfl)) rfl ?_
        refine a_alloc z_61 hS rfl fun b6 w hS => ?_
        refine a_storeS (vs := [_, _, _, _, _, _]) sz_61 rfl rfl rfl rfl hS (Nat.le_of_ble_eq_true rfl) fun w hS => ?_
        refine wl_nil ?_
        refine wc_seq ?_
        refine wc_region ?_
        refine wl (y_fld fl_61_2 rfl) rfl ?_
        refine wl (y_load pl_9 rfl (hS.cell (v := .string a.bytes) rfl)) rfl ?_
        refine wl (y_len_s Tryz.underlying9 rfl) rfl ?_
        refine wl (y_gtr rfl rfl) rfl ?_
        refine wl (y_move rfl) rfl ?_
        refine wl_cases (s := 25) rfl (fun hg25 => ?_) (fun hg25 => ?_)
        · try simp only [zq1, zq2, zq3, zq4, zq5, zq6, zq7] at hg25
          have hga : greatA a = true := by unfold greatA; rw [decide_eq_true (by omega)]; rfl
          have he : greatB c l = true := by unfold greatB; rw [List.any_eq_true.2 ⟨a, List.mem_of_getElem? hai, hga⟩, Bool.or_true]
          rw [he]
          refine wl_off rfl rfl rfl rfl ?_
          refine wl_off rfl rfl rfl rfl ?_
          refine wl_off rfl rfl rfl rfl ?_
          refine wl (y_pickT rfl rfl) rfl ?_
          refine wl_nil ?_
          refine wc_ifT rfl rfl ?_
          refine wc_seq ?_
          refine wc_region ?_
          refine wl (y_assign rfl) rfl ?_
          refine wl_nil ?_
          refine wc_ret ?_
          refine wret (vs := [_]) (.tmp rfl .nil) ?_
          exact ⟨rfl, hS.keep⟩
        · try simp only [zq1, zq2, zq3, zq4, zq5, zq6, zq7] at hg25
          refine wl_on rfl rfl ?_
          refine wl (y_fld fl_61_1 rfl) rfl ?_
          refine wl_on rfl rfl ?_
          refine wl ((y_loadS st_59 sz_59 rfl (vs := encU.f a.u) (hS.cells rfl) rfl).val (show _ = uv a.u from rfl)) rfl ?_
          refine wl_on rfl rfl ?_
          refine wl_call (.cons rfl .nil) (greatu_c a.u hS) rfl ?_
          rintro _ w ⟨rfl, hS⟩
          refine wl (y_pickF rfl rfl) rfl ?_
          refine wl_nil ?_
          refine wc_if rfl (fun hc29 => ?_) (fun hc29 => ?_)
          · try simp only [zq1, zq2, zq3, zq4, zq5, zq6, zq7] at hc29
            have hga : greatA a = true := by unfold greatA; rw [hc29, Bool.or_true]
            have he : greatB c l = true := by unfold greatB; rw [List.any_eq_true.2 ⟨a, List.mem_of_getElem? hai, hga⟩, Bool.or_true]
            rw [he]
            refine wc_seq ?_
            refine wc_region ?_
            refine wl (y_assign rfl) rfl ?_
            refine wl_nil ?_
            refine wc_ret ?_
            refine wret (vs := [_]) (.tmp rfl .nil) ?_
            exact ⟨rfl, hS.keep⟩
          · try simp only [zq1, zq2, zq3, zq4, zq5, zq6, zq7] at hc29
            have hga : greatA a = false := by unfold greatA; rw [hc29, decide_eq_false (by omega)]; rfl
            refine wc_skip ?_
            refine wc_region ?_
            refine wl (y_add rfl rfl (w64 (by omega) (by omega))) rfl ?_
            refine wl (y_move rfl) rfl ?_
            refine wl_nil ?_
            exact ⟨i + 1, by omega, sub_cons rfl (sub_cons rfl (sub_cons rfl sub_nil)), by omega, (by
              intro x hx
              rw [List.take_add_one, hai] at hx
              rcases List.mem_append.1 hx with hx | hx
              · exact hq x hx
              · simp at hx; subst hx; exact hga), hS.keep⟩
      · try simp only [zq1, zq2, zq3, zq4, zq5, zq6, zq7] at hc18
        obtain rfl : i = l.length := by omega
        rw [List.take_length] at hq
        have he : greatB c l = false := by
          unfold greatB
          rw [decide_eq_false (by omega), Bool.false_or, List.any_eq_false]
          intro x hx; rw [hq x hx]; decide
        rw [he]
        refine wc_exit ?_
        refine wc_seq ?_
        refine wc_region ?_
        refine wl (y_assign rfl) rfl ?_
        refine wl_nil ?_
        refine wc_ret ?_
        refine wret (vs := [_]) (.tmp rfl .nil) ?_
        exact ⟨rfl, hS.keep⟩
theorem may_c (c : Cfg) (origin : Int) (l : List Act) (s : Value) (hl : Rd M encA s l) (hS : St M w Ls) : CallsR Tryz.prog 11 [cfgV c, .int .i64 origin, s].toArray w fun v w' => v = .bool (mayB c origin l) ∧ St M w' Ls := by
  obtain ⟨sa, sc, rfl⟩ := (hl.holds hS).slice
  have fin : ∀ b : Bool, (b = true ↔ greatB c l = false ∧ mayC c = 0 ∧ 1 ≤ origin ∧ origin ≤ c.clients) → b = mayB c origin l := by
    intro b hb
    unfold mayB
    rw [Bool.eq_iff_iff, hb, decide_eq_true_iff]
  refine calls_of (c := _) (rs := _) (n := 25) Tryz.func11 rfl rfl rfl rfl rfl ?_
  refine wc_seq ?_
  refine wc_region ?_
  refine a_box rfl hS rfl fun b3 w hS => ?_
  refine wl (y_assign rfl) rfl ?_
  refine wl_nil ?_
  refine wc_seq ?_
  refine wc_region ?_
  refine wl ((y_loadS st_23 sz_23 rfl (vs := [.int .i64 c.clients, .int .i64 c.window, .int .i64 c.push, .int .i64 c.pull, .int .i64 c.mtu, .int .i64 c.last]) (hS.cells rfl) rfl).val (show _ = cfgV c from rfl)) rfl ?_
  refine wl (y_move rfl) rfl ?_
  refine wl_call (.cons rfl (.cons rfl .nil)) (great_c c l _ hl hS) rfl ?_
  rintro _ w ⟨rfl, hS⟩
  refine wl (y_not rfl) rfl ?_
  refine wl (y_move rfl) rfl ?_
  refine wl_cases (s := 11) rfl (fun hg11 => ?_) (fun hg11 => ?_)
  · try simp only [zq1, zq2, zq3, zq4, zq5, zq6, zq7] at hg11
    refine wl_on rfl rfl ?_
    refine wl ((y_loadS st_23 sz_23 rfl (vs := [.int .i64 c.clients, .int .i64 c.window, .int .i64 c.push, .int .i64 c.pull, .int .i64 c.mtu, .int .i64 c.last]) (hS.cells rfl) rfl).val (show _ = cfgV c from rfl)) rfl ?_
    refine wl_on rfl rfl ?_
    refine wl_call (.cons rfl .nil) (rmayc_c c hS) rfl ?_
    rintro _ w ⟨rfl, hS⟩
    refine wl (y_pickT rfl rfl) rfl ?_
    refine wl (y_move rfl) rfl ?_
    refine wl_cases (s := 15) rfl (fun hg15 => ?_) (fun hg15 => ?_)
    · try simp only [zq1, zq2, zq3, zq4, zq5, zq6, zq7] at hg15
      refine wl_on rfl rfl ?_
      refine wl (y_move rfl) rfl ?_
      refine wl_on rfl rfl ?_
      refine wl (y_geq rfl rfl) rfl ?_
      refine wl (y_pickT rfl rfl) rfl ?_
      refine wl (y_move rfl) rfl ?_
      refine wl_cases (s := 19) rfl (fun hg19 => ?_) (fun hg19 => ?_)
      · try simp only [zq1, zq2, zq3, zq4, zq5, zq6, zq7] at hg19
        refine wl_on rfl rfl ?_
        refine wl (y_move rfl) rfl ?_
        refine wl_on rfl rfl ?_
        refine wl (y_fld fl_23_0 rfl) rfl ?_
        refine wl_on rfl rfl ?_
        refine wl (y_load pl_3 rfl (hS.cell (v := .int .i64 c.clients) rfl)) rfl ?_
        refine wl_on rfl rfl ?_
        refine wl (y_leq rfl rfl) rfl ?_
        refine wl (y_pickT rfl rfl) rfl ?_
        refine wl (y_assign rfl) rfl ?_
        refine wl_nil ?_
        refine wc_ret ?_
        refine wret (vs := [_]) (.tmp rfl .nil) ?_
        first
        | exact ⟨congrArg Value.bool (fin _ (by rw [decide_eq_true_iff]; exact ⟨fun h => ⟨hg11, hg15, hg19, h⟩, fun h => h.2.2.2⟩)), hS.keep⟩
        | exact ⟨congrArg Value.bool (fin _ ⟨fun h => absurd h (by decide), fun h => absurd h.2.2.1 (by omega)⟩), hS.keep⟩
        | exact ⟨congrArg Value.bool (fin _ ⟨fun h => absurd h (by decide), fun h => absurd h.2.1 hg15⟩), hS.keep⟩
        | exact ⟨congrArg Value.bool (fin _ ⟨fun h => absurd h (by decide), fun h => absurd h.1 (by rw [hg11]; decide)⟩), hS.keep⟩
      · try simp only [zq1, zq2, zq3, zq4, zq5, zq6, zq7] at hg19
        refine wl_off rfl rfl rfl rfl ?_
        refine wl_off rfl rfl rfl rfl ?_
        refine wl_off rfl rfl rfl rfl ?_
        refine wl_off rfl rfl rfl rfl ?_
        refine wl (y_pickF rfl rfl) rfl ?_
        refine wl (y_assign rfl) rfl ?_
        refine wl_nil ?_
        refine wc_ret ?_
        refine wret (vs := [_]) (.tmp rfl .nil) ?_
        first
        | exact ⟨congrArg Value.bool (fin _ (by rw [decide_eq_true_iff]; exact ⟨fun h => ⟨hg11, hg15, hg19, h⟩, fun h => h.2.2.2⟩)), hS.keep⟩
        | exact ⟨congrArg Value.bool (fin _ ⟨fun h => absurd h (by decide), fun h => absurd h.2.2.1 (by omega)⟩), hS.keep⟩
        | exact ⟨congrArg Value.bool (fin _ ⟨fun h => absurd h (by decide), fun h => absurd h.2.1 hg15⟩), hS.keep⟩
        | exact ⟨congrArg Value.bool (fin _ ⟨fun h => absurd h (by decide), fun h => absurd h.1 (by rw [hg11]; decide)⟩), hS.keep⟩
    · try simp only [zq1, zq2, zq3, zq4, zq5, zq6, zq7] at hg15
      refine wl_off rfl rfl rfl rfl ?_
      refine wl_off rfl rfl rfl rfl ?_
      refine wl (y_pickF rfl rfl) rfl ?_
      refine wl (y_move rfl) rfl ?_
      refine wl_off rfl rfl rfl rfl ?_
      refine wl_off rfl rfl rfl rfl ?_
      refine wl_off rfl rfl rfl rfl ?_
      refine wl_off rfl rfl rfl rfl ?_
      refine wl (y_pickF rfl rfl) rfl ?_
      refine wl (y_assign rfl) rfl ?_
      refine wl_nil ?_
      refine wc_ret ?_
      refine wret (vs := [_]) (.tmp rfl .nil) ?_
      first
      | exact ⟨congrArg Value.bool (fin _ (by rw [decide_eq_true_iff]; exact ⟨fun h => ⟨hg11, hg15, hg19, h⟩, fun h => h.2.2.2⟩)), hS.keep⟩
      | exact ⟨congrArg Value.bool (fin _ ⟨fun h => absurd h (by decide), fun h => absurd h.2.2.1 (by omega)⟩), hS.keep⟩
      | exact ⟨congrArg Value.bool (fin _ ⟨fun h => absurd h (by decide), fun h => absurd h.2.1 hg15⟩), hS.keep⟩
      | exact ⟨congrArg Value.bool (fin _ ⟨fun h => absurd h (by decide), fun h => absurd h.1 (by rw [hg11]; decide)⟩), hS.keep⟩
  · try simp only [zq1, zq2, zq3, zq4, zq5, zq6, zq7] at hg11
    refine wl_off rfl rfl rfl rfl ?_
    refine wl_off rfl rfl rfl rfl ?_
    refine wl (y_pickF rfl rfl) rfl ?_
    refine wl (y_move rfl) rfl ?_
    refine wl_off rfl rfl rfl rfl ?_
    refine wl_off rfl rfl rfl rfl ?_
    refine wl (y_pickF rfl rfl) rfl ?_
    refine wl (y_move rfl) rfl ?_
    refine wl_off rfl rfl rfl rfl ?_
    refine wl_off rfl rfl rfl rfl ?_
    refine wl_off rfl rfl rfl rfl ?_
    refine wl_off rfl rfl rfl rfl ?_
    refine wl (y_pickF rfl rfl) rfl ?_
    refine wl (y_assign rfl) rfl ?_
    refine wl_nil ?_
    refine wc_ret ?_
    refine wret (vs := [_]) (.tmp rfl .nil) ?_
    first
    | exact ⟨congrArg Value.bool (fin _ (by rw [decide_eq_true_iff]; exact ⟨fun h => ⟨hg11, hg15, hg19, h⟩, fun h => h.2.2.2⟩)), hS.keep⟩
    | exact ⟨congrArg Value.bool (fin _ ⟨fun h => absurd h (by decide), fun h => absurd h.2.2.1 (by omega)⟩), hS.keep⟩
    | exact ⟨congrArg Value.bool (fin _ ⟨fun h => absurd h (by decide), fun h => absurd h.2.1 hg15⟩), hS.keep⟩
    | exact ⟨congrArg Value.bool (fin _ ⟨fun h => absurd h (by decide), fun h => absurd h.1 (by rw [hg11]; decide)⟩), hS.keep⟩
theorem run_c (hG : Bits M) (c : Cfg) (origin : Int) (l : List Act) (s : Value) (hl : Rd M encA s l) (hz : l.length ≤ 800) (hab : ∀ a ∈ l, a.bytes.size ≤ 140737488351232) (hE : newE c origin = 0) (hC : mayC c = 0) (hS : St M w Ls) :
    CallsR Tryz.prog 12 [cfgV c, .int .i64 origin, s].toArray w fun v w' => ∃ M' p H, v = .pointer (some ⟨p, 0, none⟩) ∧ Mle M M' ∧ IsN M' p ((Nod.new c origin).acts l) H ∧ St M' w' (H :: Ls) := by
  obtain ⟨sa, sc, rfl⟩ := (hl.holds hS).slice
  have hi0 := Nod.new_inv hC origin
  refine calls_of (c := _) (rs := _) (n := 30) Tryz.func12 rfl rfl rfl rfl rfl ?_
  refine wc_seq ?_
  refine wc_region ?_
  refine a_box rfl hS rfl fun b3 w hS => ?_
  refine wl (y_assign rfl) rfl ?_
  refine wl_nil ?_
  refine wc_seq ?_
  refine wc_region ?_
  refine wl ((y_loadS st_23 sz_23 rfl (vs := [.int .i64 c.clients, .int .i64 c.window, .int .i64 c.push, .int .i64 c.pull, .int .i64 c.mtu, .int .i64 c.last]) (hS.cells rfl) rfl).val (show _ = cfgV c from rfl)) rfl ?_
  refine wl (y_move rfl) rfl ?_
  refine wl_call (.cons rfl (.cons rfl .nil)) (nnew_c c origin hS) rfl ?_
  rintro v w ⟨M1, hM1, ⟨h0, _⟩ | ⟨_, p, H, rfl, hn, hS⟩⟩
  · exact absurd hE h0
  refine wl (y_move rfl) rfl ?_
  refine wl (y_extract (vs := [_, _]) rfl rfl) rfl ?_
  refine wl (y_extract (vs := [_, _]) rfl rfl) rfl ?_
  refine wl (y_assign rfl) rfl ?_
  refine wl (y_assign rfl) rfl ?_
  refine wl_nil ?_
  refine wc_seq ?_
  refine wc_seq ?_
  refine wc_region ?_
  refine wl (y_move rfl) rfl ?_
  refine wl (y_pnil Tryz.underlying27 rfl rfl) rfl ?_
  refine wl_nil ?_
  refine wc_ifF rfl (rfl) ?_
  refine wc_skip ?_
  refine wc_seq ?_
  refine wc_seq ?_
  refine wc_region ?_
  refine wl (y_move rfl) rfl ?_
  refine wl (y_len_sl Tryz.underlying24 rfl) rfl ?_
  refine wl (y_move rfl) rfl ?_
  refine wl_nil ?_
  refine wc_block ?_
  refine wc_loop (α := Nat × Mem × Chunk) (fun ⟨i, _, _⟩ => [(7, .pointer (some ⟨p, 0, none⟩)), (19, .slice sa l.length sc), (20, .int .i64 l.length), (21, .int .i64 i)]) (fun ⟨i, M2, H2⟩ w => i ≤ l.length ∧ Mle M M2 ∧ IsN M2 p ((Nod.new c origin).acts (l.take i)) H2 ∧ St M2 w (H2 :: Ls)) (fun ⟨i, _, _⟩ => l.length - i) (0, M1, H) (sub_cons rfl (sub_cons rfl (sub_cons rfl (sub_cons rfl sub_nil)))) ⟨by omega, hM1, hn, hS.keep⟩ ?_
  clear hS hn
  rintro ⟨i, M2, H2⟩ w ⟨hi, hM2, hn, hS⟩
  refine wc_seq ?_
  refine wc_region ?_
  refine wl (y_lss rfl rfl) rfl ?_
  refine wl_nil ?_
  refine wc_seq ?_
  refine wc_if rfl (fun hc22 => ?_) (fun hc22 => ?_)
  · try simp only [zq1, zq2, zq3, zq4, zq5, zq6, zq7] at hc22
    refine wc_skip ?_
    refine wc_seq ?_
    refine wc_block ?_
    refine wc_seq ?_
    have hi' : i < l.length := by omega
    obtain ⟨a, hai⟩ : ∃ a, l[i]? = some a := ⟨_, List.getElem?_eq_getElem hi'⟩
    have hinv := Nod.acts_inv hi0 (l.take i) fun x hx => hab x (List.mem_of_mem_take hx)
    rw [List.length_take] at hinv
    have htk : (Nod.new c origin).acts (l.take (i + 1)) = ((Nod.new c origin).acts (l.take i)).act a := by
      unfold Nod.acts
      rw [List.take_add_one, hai, List.foldl_append]; rfl
    obtain ⟨bb, off, c', hse, hce⟩ := ((hl.mono hM2).holds hS).at hai
    simp only [Value.slice.injEq] at hse
    have hSk := hS
    obtain ⟨rfl, _, rfl⟩ := hse
    replace hS := hSk
    refine wc_region ?_
    refine wl (y_ixa_sl Tryz.underlying24 sz_61 rfl rfl (by omega) (by omega)) rfl ?_
    refine wl ((y_loadS st_61 sz_61 rfl (vs := encA.f a) hce rfl).val (show _ = aV a from rfl)) rfl ?_
    refine a_alloc z_61 hS rfl fun b10 w hS => ?_
    refine a_storeS (vs := [_, _, _, _, _, _]) sz_61 rfl rfl rfl rfl hS (Nat.le_of_ble_eq_true rfl) fun w hS => ?_
    refine wl_nil ?_
    refine wc_region ?_
    refine wl (y_move rfl) rfl ?_
    refine wl ((y_loadS st_61 sz_61 rfl (vs := encA.f a) (hS.cells rfl) rfl).val (show _ = aV a from rfl)) rfl ?_
    refine wl_call (.cons rfl (.cons rfl .nil)) (do_c (hG.mono hM2) a (hab a (List.mem_of_getElem? hai)) hinv (by omega) hn (hS.pull H2)) rfl ?_
    rintro _ w ⟨M3, H3, hM3, rfl, hn3, hS⟩
    refine wl_nil ?_
    refine wc_region ?_
    refine wl (y_add rfl rfl (w64 (by omega) (by omega))) rfl ?_
    refine wl (y_move rfl) rfl ?_
    refine wl_nil ?_
    exact ⟨(i + 1, M3, H3), by simp only; omega, sub_cons rfl (sub_cons rfl (sub_cons rfl (sub_cons rfl sub_nil))), by omega, hM2.trans hM3, by rw [htk]; exact hn3, hS.keep⟩
  · try simp only [zq1, zq2, zq3, zq4, zq5, zq6, zq7] at hc22
    obtain rfl : i = l.length := by omega
    rw [List.take_length] at hn
    refine wc_exit ?_
    refine wc_seq ?_
    refine wc_region ?_
    refine wl (y_move rfl) rfl ?_
    refine wl (y_assign rfl) rfl ?_
    refine wl_nil ?_
    refine wc_ret ?_
    refine wret (vs := [_]) (.tmp rfl .nil) ?_
    exact ⟨M2, p, H2, rfl, hM2, hn, hS⟩
end
end Go.Proofs.YtndahppmjdbifaaGreatDoor.Nod

set_option linter.unusedVariables false
set_option linter.unusedSimpArgs false
namespace Go.Proofs.YtndahppmjdbifaaGreatDoor.Nod
open Go Go.Proofs Go.Proofs.YtndahppmjdbifaaGreatDoor.Eng Go.Proofs.YtndahppmjdbifaaGreatDoor.Pre Go.Proofs.YtndahppmjdbifaaGreatDoor.Pak Go.Proofs.YtndahppmjdbifaaGreatDoor.Val Go.Proofs.YtndahppmjdbifaaGreatDoor.Rou Go.Proofs.YtndahppmjdbifaaGreatDoor.Fra Go.Proofs.YtndahppmjdbifaaGreatDoor.Snd Go.Proofs.YtndahppmjdbifaaGreatDoor.Lnk Go.Proofs.YtndahppmjdbifaaGreatDoor.Jnl Go.Proofs.YtndahppmjdbifaaGreatDoor.Cli Go.Proofs.YtndahppmjdbifaaGreatDoor.Sto
/-! ### the answers that are looked at ahead of each law -/
def cfg0 : Cfg := ⟨2, 2, 4, 2, 100, 2⟩
def u0 : Upd := ⟨⟨#[107]⟩, 1, 5, ByteArray.empty⟩
def aw1 : Nod := (Nod.new cfg0 1).upd u0
def aw2 : Nod := aw1.push
def aw3 : Nod := aw2.tick
def aw4 : Nod := aw3.reset
def aw5 : Nod := aw4.reset
def aw6 : Nod := aw5.tick
def aw7 : Nod := aw6.hear ⟨#[120]⟩
def aw8 : Nod := aw7.pull
theorem aw_may : mayC cfg0 = 0 := by kernel_rfl
theorem aw_e1 : newE cfg0 1 = 0 := by kernel_rfl
theorem aw_e3 : newE cfg0 3 = 11 := by kernel_rfl
theorem aw_e0 : newE ⟨0, 0, 0, 0, 0, 0⟩ 1 = 1 := by kernel_rfl
theorem aw_push : (aw1.own.pushR aw1.j).n = 1 ∧ aw1.own.pushE aw1.j = 0 := ⟨by kernel_rfl, by kernel_rfl⟩
theorem aw_tick : (aw2.tickP.map fun x => (x.frm, x.to_)) = [(1, 0)] := by kernel_rfl
theorem aw_reset : aw3.resetE = 0 := by kernel_rfl
theorem aw_reset2 : aw4.resetE = 8 := by kernel_rfl
theorem aw_tick2 : aw5.tickP.length = 1 := by kernel_rfl
theorem aw_look : aw6.look = ⟨2, 0, 1, 0, 0, 1⟩ := by kernel_rfl
theorem aw_read : (aw6.own.read ⟨#[107]⟩).n = 5 := by kernel_rfl
theorem aw_hear : aw6.hearE ⟨#[120]⟩ = 6 := by kernel_rfl
theorem aw_pull : aw7.pullN = 0 := by kernel_rfl
theorem aw_journal : (behind 0 aw8.j.l).length = 1 := by kernel_rfl
theorem aw_pend : aw8.own.pending.length = 1 := by kernel_rfl
end Go.Proofs.YtndahppmjdbifaaGreatDoor.Nod

set_option linter.unusedVariables false
set_option linter.unusedSimpArgs false
namespace Go.Proofs.YtndahppmjdbifaaGreatDoor.Nod
open Go Go.Proofs Go.Proofs.YtndahppmjdbifaaGreatDoor.Eng Go.Proofs.YtndahppmjdbifaaGreatDoor.Pre Go.Proofs.YtndahppmjdbifaaGreatDoor.Pak Go.Proofs.YtndahppmjdbifaaGreatDoor.Val Go.Proofs.YtndahppmjdbifaaGreatDoor.Rou Go.Proofs.YtndahppmjdbifaaGreatDoor.Fra Go.Proofs.YtndahppmjdbifaaGreatDoor.Snd Go.Proofs.YtndahppmjdbifaaGreatDoor.Lnk Go.Proofs.YtndahppmjdbifaaGreatDoor.Jnl Go.Proofs.YtndahppmjdbifaaGreatDoor.Cli Go.Proofs.YtndahppmjdbifaaGreatDoor.Sto
theorem look_eq (x y : Look) : (decide (x.ep = y.ep) && (decide (x.known = y.known) && (decide (x.pending = y.pending) && (decide (x.opn = y.opn) && (decide (x.came = y.came) && (decide (x.unacked = y.unacked) && true)))))) = decide (x = y) := by
  rw [Bool.eq_iff_iff]
  simp only [Bool.and_true, Bool.and_eq_true, decide_eq_true_iff]
  cases x; cases y; simp
section
variable {M : Mem} {w : World} {Ls : List Chunk}
theorem config_c (hS : St M w Ls) : CallsR Tryz.prog 48 [].toArray w fun v w' => v = cfgV cfg0 ∧ St M w' Ls := by
  refine calls_of (c := _) (rs := _) (n := 2) Tryz.func48 rfl rfl rfl rfl rfl ?_
  refine wc_seq ?_
  refine wc_region ?_
  refine a_alloc z_23 hS rfl fun b0 w hS => ?_
  refine wl_nil ?_
  refine wc_seq ?_
  refine wc_region ?_
  refine wl (y_build (is := [0, 1, 2, 3, 4, 5]) (xs := [_, _, _, _, _, _]) (out := [_, _, _, _, _, _]) plc_23 z_23 (.cons rfl (.cons rfl (.cons rfl (.cons rfl (.cons rfl (.cons rfl .nil)))))) rfl) rfl ?_
  refine a_storeS (vs := [_, _, _, _, _, _]) sz_23 rfl rfl rfl rfl hS (Nat.le_of_ble_eq_true rfl) fun w hS => ?_
  refine wl_nil ?_
  refine wc_ret ?_
  refine wret (vs := [_]) (.cell rfl (loadVar_struct st_23 sz_23 (vs := [_, _, _, _, _, _]) rfl (hS.cells rfl)) .nil) ?_
  exact ⟨rfl, hS.keep⟩
theorem awake_c (hG : Bits M) (hS : St M w Ls) : CallsR Tryz.prog 10 [].toArray w fun v w' => ∃ M', Mle M M' ∧ v = .bool true ∧ St M' w' Ls := by
  have i1 : aw1.inv 0 := Nod.upd_inv (Nod.new_inv aw_may 1) u0
  have i2 : aw2.inv 1 := Nod.push_inv i1
  have i3 : aw3.inv 1 := Nod.tick_inv i2
  have i4 : aw4.inv 1 := Nod.reset_inv i3
  have i5 : aw5.inv 1 := Nod.reset_inv i4
  have i6 : aw6.inv 1 := Nod.tick_inv i5
  have i7 : aw7.inv 1 := Nod.hear_inv i6 ⟨#[120]⟩ (by decide)
  have i8 : aw8.inv 2 := Nod.pull_inv i7
  refine calls_of (c := _) (rs := _) (n := 129) Tryz.func10 rfl rfl rfl rfl rfl ?_
  refine wc_seq ?_
  refine wc_region ?_
  refine wl (y_assign rfl) rfl ?_
  refine wl_nil ?_
  refine wc_seq ?_
  refine wc_region ?_
  refine wl_call .nil (config_c hS) rfl ?_
  rintro _ w ⟨rfl, hS⟩
  refine wl_call (.cons rfl (.cons rfl .nil)) (nnew_c cfg0 1 hS) rfl ?_
  rintro v w ⟨M1, hM1, ⟨h0, _⟩ | ⟨_, p, H, rfl, n0, hS⟩⟩
  · exact absurd aw_e1 h0
  refine wl (y_move rfl) rfl ?_
  refine wl (y_extract (vs := [_, _]) rfl rfl) rfl ?_
  refine wl (y_extract (vs := [_, _]) rfl rfl) rfl ?_
  refine wl (y_assign rfl) rfl ?_
  refine wl (y_assign rfl) rfl ?_
  refine wl_nil ?_
  refine wc_seq ?_
  refine wc_region ?_
  refine wl_call .nil (config_c hS) rfl ?_
  rintro _ w ⟨rfl, hS⟩
  refine wl_call (.cons rfl (.cons rfl .nil)) (nnew_c cfg0 3 hS) rfl ?_
  rintro v w ⟨M2, hM2, ⟨_, rfl, hS⟩ | ⟨h0, _⟩⟩
  rotate_left
  · exact absurd (aw_e3.symm.trans h0) (by decide)
  rw [aw_e3]
  refine wl (y_move rfl) rfl ?_
  refine wl (y_extract (vs := [_, _]) rfl rfl) rfl ?_
  refine wl (y_extract (vs := [_, _]) rfl rfl) rfl ?_
  refine wl (y_assign rfl) rfl ?_
  refine wl (y_assign rfl) rfl ?_
  refine wl_nil ?_
  refine wc_seq ?_
  refine wc_region ?_
  refine wl (y_build (is := []) (xs := []) (out := [_, _, _, _, _, _]) plc_23 z_23 .nil rfl) rfl ?_
  refine wl_call (.cons rfl (.cons rfl .nil)) (nnew_c ⟨0, 0, 0, 0, 0, 0⟩ 1 hS) rfl ?_
  rintro v w ⟨M3, hM3, ⟨_, rfl, hS⟩ | ⟨h0, _⟩⟩
  rotate_left
  · exact absurd (aw_e0.symm.trans h0) (by decide)
  rw [aw_e0]
  have hM := hM1.trans (hM2.trans hM3)
  replace n0 := n0.mono (hM2.trans hM3)
  refine wl (y_move rfl) rfl ?_
  refine wl (y_extract (vs := [_, _]) rfl rfl) rfl ?_
  refine wl (y_extract (vs := [_, _]) rfl rfl) rfl ?_
  refine wl (y_assign rfl) rfl ?_
  refine wl (y_assign rfl) rfl ?_
  refine wl_nil ?_
  refine wc_seq ?_
  refine wc_seq ?_
  refine wc_region ?_
  refine wl (y_move rfl) rfl ?_
  refine wl ((y_neq rfl rfl).val (u := .bool false) rfl) rfl ?_
  refine wl (y_move rfl) rfl ?_
  refine wl_on rfl rfl ?_
  refine wl (y_move rfl) rfl ?_
  refine wl_on rfl rfl ?_
  refine wl ((y_pnil Tryz.underlying27 rfl rfl).val (u := .bool false) rfl) rfl ?_
  refine wl (y_pickF rfl rfl) rfl ?_
  refine wl (y_move rfl) rfl ?_
  refine wl_on rfl rfl ?_
  refine wl (y_move rfl) rfl ?_
  refine wl_on rfl rfl ?_
  refine wl ((y_neq rfl rfl).val (u := .bool false) rfl) rfl ?_
  refine wl (y_pickF rfl rfl) rfl ?_
  refine wl (y_move rfl) rfl ?_
  refine wl_on rfl rfl ?_
  refine wl (y_move rfl) rfl ?_
  refine wl_on rfl rfl ?_
  refine wl ((y_neq rfl rfl).val (u := .bool false) rfl) rfl ?_
  refine wl (y_pickF rfl rfl) rfl ?_
  refine wl_nil ?_
  refine wc_ifF rfl rfl ?_
  refine wc_skip ?_
  refine wc_seq ?_
  refine wc_region ?_
  refine wl (y_move rfl) rfl ?_
  refine wl (y_build (is := [0, 1, 2]) (xs := [_, _, _]) (out := [_, _, _, _]) plc_59 z_59 (.cons rfl (.cons rfl (.cons rfl .nil))) rfl) rfl ?_
  refine wl_call (.cons rfl (.cons rfl .nil)) (nupd_c (hG.mono hM) u0 (by decide) (by decide) n0 (hS.pull H)) rfl ?_
  rintro _ w ⟨M4, H4, hM4, rfl, n1, hS⟩
  refine wl_nil ?_
  refine wc_seq ?_
  refine wc_region ?_
  refine wl (y_move rfl) rfl ?_
  refine wl_call (.cons rfl .nil) (npush_c (m := aw1) (by have := i1.small (by omega); unfold Nod.small at this; omega) (by have := i1.small (by omega); unfold Nod.small at this; omega) (by have := i1.small (by omega); unfold Nod.small at this; omega) n1 (hS.pull H4)) rfl ?_
  rintro _ w ⟨M5, H5, hM5, rfl, n2, hS⟩
  rw [aw_push.1, aw_push.2]
  refine wl (y_move rfl) rfl ?_
  refine wl (y_extract (vs := [_, _]) rfl rfl) rfl ?_
  refine wl (y_extract (vs := [_, _]) rfl rfl) rfl ?_
  refine wl (y_assign rfl) rfl ?_
  refine wl (y_assign rfl) rfl ?_
  refine wl_nil ?_
  refine wc_seq ?_
  refine wc_region ?_
  refine wl (y_move rfl) rfl ?_
  refine wl_call (.cons rfl .nil) (ntick_c (m := aw2) (((hG.mono hM).mono hM4).mono hM5) i2.k (i2.small (by omega)) i2.frames n2 (hS.pull H5)) rfl ?_
  rintro _ w ⟨M6, H6, Hp, hM6, hp, n3, hS⟩
  have hp0 := aw_tick
  have hpl : aw2.tickP.length = 1 := by have := congrArg List.length hp0; simpa using this
  obtain ⟨x0, hx0⟩ : ∃ x, aw2.tickP[0]? = some x := ⟨_, List.getElem?_eq_getElem (by omega)⟩
  have hx1 : x0.frm = 1 ∧ x0.to_ = 0 := by
    have := congrArg (fun l => l[0]?) hp0
    simp only [List.getElem?_map, hx0, Option.map_some] at this
    simpa using this
  obtain ⟨pa, pc, rfl⟩ := hp.slice
  obtain ⟨bb, off, c', hse, _⟩ := (hp.holds (hS.pull Hp)).at hx0
  simp only [Value.slice.injEq] at hse
  have hSk := hS
  obtain ⟨rfl, _, rfl⟩ := hse
  replace hS := hSk
  rw [hpl]
  refine wl (y_assign rfl) rfl ?_
  refine wl_nil ?_
  refine wc_seq ?_
  refine wc_region ?_
  refine wl (y_move rfl) rfl ?_
  refine wl_call (.cons rfl .nil) (nreset_c (m := aw3) (by have := mayC_ok i3.c; omega) (by have := i3.small (by omega); unfold Nod.small at this; omega) n3 (hS.pull H6)) rfl ?_
  rintro _ w ⟨M7, H7, hM7, rfl, n4, hS⟩
  rw [aw_reset]
  refine wl (y_assign rfl) rfl ?_
  refine wl_nil ?_
  refine wc_seq ?_
  refine wc_region ?_
  refine wl (y_move rfl) rfl ?_
  refine wl_call (.cons rfl .nil) (nreset_c (m := aw4) (by have := mayC_ok i4.c; omega) (by have := i4.small (by omega); unfold Nod.small at this; omega) n4 (hS.pull H7)) rfl ?_
  rintro _ w ⟨M8, H8, hM8, rfl, n5, hS⟩
  rw [aw_reset2]
  refine wl (y_assign rfl) rfl ?_
  refine wl_nil ?_
  refine wc_seq ?_
  refine wc_region ?_
  refine wl (y_move rfl) rfl ?_
  refine wl_call (.cons rfl .nil) (ntick_c (m := aw5) (((((((hG.mono hM).mono hM4).mono hM5).mono hM6).mono hM7).mono hM8)) i5.k (i5.small (by omega)) i5.frames n5 (hS.pull H8)) rfl ?_
  rintro _ w ⟨M9, H9, Hq, hM9, hq, n6, hS⟩
  obtain ⟨qa, qc, rfl⟩ := hq.slice
  rw [aw_tick2]
  refine wl (y_assign rfl) rfl ?_
  refine wl_nil ?_
  refine wc_seq ?_
  refine wc_region ?_
  refine wl (y_move rfl) rfl ?_
  refine wl ((y_eql rfl rfl).val (u := .bool true) rfl) rfl ?_
  refine wl (y_move rfl) rfl ?_
  refine wl_on rfl rfl ?_
  refine wl (y_move rfl) rfl ?_
  refine wl_on rfl rfl ?_
  refine wl ((y_eql rfl rfl).val (u := .bool true) rfl) rfl ?_
  refine wl (y_pickT rfl rfl) rfl ?_
  refine wl (y_move rfl) rfl ?_
  refine wl_on rfl rfl ?_
  refine wl (y_move rfl) rfl ?_
  refine wl_on rfl rfl ?_
  refine wl (y_len_sl Tryz.underlying37 rfl) rfl ?_
  refine wl_on rfl rfl ?_
  refine wl ((y_eql rfl rfl).val (u := .bool true) rfl) rfl ?_
  refine wl (y_pickT rfl rfl) rfl ?_
  refine wl (y_move rfl) rfl ?_
  refine wl_on rfl rfl ?_
  refine wl (y_move rfl) rfl ?_
  refine wl_on rfl rfl ?_
  refine wl (y_ixa_sl Tryz.underlying37 sz_40 rfl rfl (by omega) (by omega)) rfl ?_
  refine wl_on rfl rfl ?_
  refine wl (y_fld fl_40_0 rfl) rfl ?_
  refine wl_on rfl rfl ?_
  refine wl (y_load pl_3 rfl ((hp.holds (hS.pull Hp)).cellAt hx0 (j := 0) rfl)) rfl ?_
  refine wl_on rfl rfl ?_
  refine wl ((y_eql rfl rfl).val (u := .bool true) (congrArg Value.bool (decide_eq_true hx1.1))) rfl ?_
  refine wl (y_pickT rfl rfl) rfl ?_
  refine wl (y_move rfl) rfl ?_
  refine wl_on rfl rfl ?_
  refine wl (y_move rfl) rfl ?_
  refine wl_on rfl rfl ?_
  refine wl (y_ixa_sl Tryz.underlying37 sz_40 rfl rfl (by omega) (by omega)) rfl ?_
  refine wl_on rfl rfl ?_
  refine wl (y_fld fl_40_1 rfl) rfl ?_
  refine wl_on rfl rfl ?_
  refine wl (y_load pl_3 rfl ((hp.holds (hS.pull Hp)).cellAt hx0 (j := 1) rfl)) rfl ?_
  refine wl_on rfl rfl ?_
  refine wl ((y_eql rfl rfl).val (u := .bool true) (congrArg Value.bool (decide_eq_true hx1.2))) rfl ?_
  refine wl (y_pickT rfl rfl) rfl ?_
  refine wl (y_move rfl) rfl ?_
  refine wl_on rfl rfl ?_
  refine wl (y_move rfl) rfl ?_
  refine wl_on rfl rfl ?_
  refine wl ((y_eql rfl rfl).val (u := .bool true) rfl) rfl ?_
  refine wl (y_pickT rfl rfl) rfl ?_
  refine wl (y_move rfl) rfl ?_
  refine wl_on rfl rfl ?_
  refine wl (y_move rfl) rfl ?_
  refine wl_on rfl rfl ?_
  refine wl ((y_eql rfl rfl).val (u := .bool true) rfl) rfl ?_
  refine wl (y_pickT rfl rfl) rfl ?_
  refine wl (y_move rfl) rfl ?_
  refine wl_on rfl rfl ?_
  refine wl (y_move rfl) rfl ?_
  refine wl_on rfl rfl ?_
  refine wl (y_len_sl Tryz.underlying37 rfl) rfl ?_
  refine wl_on rfl rfl ?_
  refine wl ((y_eql rfl rfl).val (u := .bool true) rfl) rfl ?_
  refine wl (y_pickT rfl rfl) rfl ?_
  refine wl (y_move rfl) rfl ?_
  refine wl_on rfl rfl ?_
  refine wl (y_move rfl) rfl ?_
  refine wl_on rfl rfl ?_
  refine wl_call (.cons rfl .nil) (nlook_c (m := aw6) (i6.small (by omega)) n6 (hS.pull H9)) rfl ?_
  rintro _ w ⟨M10, hM10, rfl, n6, hS⟩
  rw [aw_look]
  refine wl_on rfl rfl ?_
  refine wl (y_build (is := [0, 2, 5]) (xs := [_, _, _]) (out := [_, _, _, _, _, _]) plc_30 z_30 (.cons rfl (.cons rfl (.cons rfl .nil))) rfl) rfl ?_
  refine wl_on rfl rfl ?_
  refine wl ((y_eqS Tryz.eqGuardType30 rfl rfl (eq_30 _ _ _ _ _ _ _ _ _ _ _ _)).val (u := .bool true) rfl) rfl ?_
  refine wl (y_pickT rfl rfl) rfl ?_
  refine wl (y_move rfl) rfl ?_
  refine wl_on rfl rfl ?_
  refine wl (y_move rfl) rfl ?_
  refine wl_on rfl rfl ?_
  refine wl_call (.cons rfl (.cons rfl .nil)) (nread_c (m := aw6) ⟨#[107]⟩ (i6.small (by omega)) n6 hS) rfl ?_
  rintro _ w ⟨rfl, hS⟩
  refine wl_on rfl rfl ?_
  refine wl (y_field fl_65_1 pl_2 rfl rfl) rfl ?_
  refine wl_on rfl rfl ?_
  refine wl ((y_eql rfl rfl).val (u := .bool true) (congrArg Value.bool (decide_eq_true aw_read))) rfl ?_
  refine wl (y_pickT rfl rfl) rfl ?_
  refine wl (y_move rfl) rfl ?_
  refine wl_on rfl rfl ?_
  refine wl (y_move rfl) rfl ?_
  refine wl_on rfl rfl ?_
  refine wl_call (.cons rfl (.cons rfl .nil)) (nhear_c (m := aw6) ((((((((hG.mono hM).mono hM4).mono hM5).mono hM6).mono hM7).mono hM8).mono hM9).mono hM10) ⟨#[120]⟩ (by decide) i6.k n6 hS) rfl ?_
  rintro _ w ⟨H11, rfl, n7, hS⟩
  rw [aw_hear]
  refine wl_on rfl rfl ?_
  refine wl ((y_eql rfl rfl).val (u := .bool true) rfl) rfl ?_
  refine wl (y_pickT rfl rfl) rfl ?_
  refine wl (y_move rfl) rfl ?_
  refine wl_on rfl rfl ?_
  refine wl (y_move rfl) rfl ?_
  refine wl_on rfl rfl ?_
  refine wl_call (.cons rfl .nil) (npull_c (m := aw7) ((((((((hG.mono hM).mono hM4).mono hM5).mono hM6).mono hM7).mono hM8).mono hM9).mono hM10) i7.k (i7.small (by omega)) i7.rd n7 hS) rfl ?_
  rintro _ w ⟨M12, H12, hM12, rfl, n8, hS⟩
  rw [aw_pull]
  refine wl_on rfl rfl ?_
  refine wl ((y_eql rfl rfl).val (u := .bool true) rfl) rfl ?_
  refine wl (y_pickT rfl rfl) rfl ?_
  refine wl (y_move rfl) rfl ?_
  refine wl_on rfl rfl ?_
  refine wl (y_move rfl) rfl ?_
  refine wl_on rfl rfl ?_
  refine wl_call (.cons rfl .nil) (njournal_c (m := aw8) (by have := i8.small (by omega); unfold Nod.small at this; omega) n8 hS) rfl ?_
  rintro v w ⟨M13, ys, H13, hM13, hoj, hrj, n8, hS⟩
  have hjl : ys.length = 1 := hrj.len.trans aw_journal
  obtain ⟨ja, jc, rfl⟩ := hoj.slice
  refine wl_on rfl rfl ?_
  refine wl (y_len_sl Tryz.underlying32 rfl) rfl ?_
  refine wl_on rfl rfl ?_
  refine wl ((y_eql rfl rfl).val (u := .bool true) (congrArg Value.bool (decide_eq_true (by rw [hjl]; rfl)))) rfl ?_
  refine wl (y_pickT rfl rfl) rfl ?_
  refine wl (y_move rfl) rfl ?_
  refine wl_on rfl rfl ?_
  refine wl (y_move rfl) rfl ?_
  refine wl_on rfl rfl ?_
  refine wl_call (.cons rfl .nil) (nconf_c (m := aw8) n8 (hS.pull H12)) rfl ?_
  rintro _ w ⟨rfl, hS⟩
  rw [decide_eq_false (fun h => by have := aw_pend; rw [h.1] at this; cases this)]
  refine wl_on rfl rfl ?_
  refine wl (y_not rfl) rfl ?_
  refine wl (y_pickT rfl rfl) rfl ?_
  refine wl (y_assign rfl) rfl ?_
  refine wl_nil ?_
  refine wc_ret ?_
  refine wret (vs := [_]) (.tmp rfl .nil) ?_
  exact ⟨M13, (((((((((hM.trans hM4).trans hM5).trans hM6).trans hM7).trans hM8).trans hM9).trans hM10).trans hM12).trans hM13), rfl, hS.keep⟩
end
end Go.Proofs.YtndahppmjdbifaaGreatDoor.Nod

set_option linter.unusedVariables false
set_option linter.unusedSimpArgs false
namespace Go.Proofs.YtndahppmjdbifaaGreatDoor.Nod
open Go Go.Proofs Go.Proofs.YtndahppmjdbifaaGreatDoor.Eng Go.Proofs.YtndahppmjdbifaaGreatDoor.Pre Go.Proofs.YtndahppmjdbifaaGreatDoor.Pak Go.Proofs.YtndahppmjdbifaaGreatDoor.Val Go.Proofs.YtndahppmjdbifaaGreatDoor.Rou Go.Proofs.YtndahppmjdbifaaGreatDoor.Fra Go.Proofs.YtndahppmjdbifaaGreatDoor.Snd Go.Proofs.YtndahppmjdbifaaGreatDoor.Lnk Go.Proofs.YtndahppmjdbifaaGreatDoor.Jnl Go.Proofs.YtndahppmjdbifaaGreatDoor.Cli Go.Proofs.YtndahppmjdbifaaGreatDoor.Sto
abbrev cfgL (c : Cfg) : List Value := [.int .i64 c.clients, .int .i64 c.window, .int .i64 c.push, .int .i64 c.pull, .int .i64 c.mtu, .int .i64 c.last]
theorem mayB_ok {c : Cfg} {origin : Int} {l : List Act} (h : mayB c origin l = true) : l.length ≤ 50 ∧ (∀ a ∈ l, a.bytes.size ≤ 400) ∧ mayC c = 0 ∧ newE c origin = 0 ∧ 1 ≤ origin ∧ origin ≤ c.clients := by
  unfold mayB at h
  obtain ⟨h1, h2, h3, h4⟩ := of_decide_eq_true h
  obtain ⟨g1, g2, g3⟩ := greatB_ok h1
  refine ⟨g1, fun a ha => (greatA_ok (g3 a ha)).1, h2, ?_, h3, h4⟩
  unfold newE
  rw [if_neg (by omega), if_neg (by omega)]
theorem val_eq (x y : Valu) : (decide (x.kind = y.kind) && (decide (x.n = y.n) && (decide (x.s = y.s) && true))) = decide (x = y) := by
  rw [Bool.eq_iff_iff]
  simp only [Bool.and_true, Bool.and_eq_true, decide_eq_true_iff]
  cases x; cases y; simp
section
variable {M : Mem} {w : World} {Ls : List Chunk}
theorem NodeSame_c (hG : Bits M) (c : Cfg) (origin : Int) (l : List Act) (s : Value) (hl : Rd M encA s l) (hS : St M w Ls) :
    CallsR Tryz.prog 7 [cfgV c, .int .i64 origin, s].toArray w fun v w' => ∃ M', Mle M M' ∧ v = .bool true ∧ St M' w' Ls := by
  obtain ⟨sa, sc, rfl⟩ := (hl.holds hS).slice
  refine calls_of (c := _) (rs := _) (n := 66) Tryz.func7 rfl rfl rfl rfl rfl ?_
  refine wc_seq ?_
  refine wc_region ?_
  refine a_box rfl hS rfl fun b3 w hS => ?_
  refine wl (y_assign rfl) rfl ?_
  refine wl_nil ?_
  refine wc_seq ?_
  refine wc_seq ?_
  refine wc_region ?_
  refine wl_call .nil (awake_c hG hS) rfl ?_
  rintro _ w ⟨M1, hM1, rfl, hS⟩
  refine wl (y_not rfl) rfl ?_
  refine wl (y_move rfl) rfl ?_
  refine wl_on rfl rfl ?_
  refine wl ((y_loadS st_23 sz_23 rfl (vs := cfgL c) (hS.cells rfl) rfl).val (show _ = cfgV c from rfl)) rfl ?_
  refine wl_on rfl rfl ?_
  refine wl (y_move rfl) rfl ?_
  refine wl_on rfl rfl ?_
  refine wl (y_move rfl) rfl ?_
  refine wl_on rfl rfl ?_
  refine wl_call (.cons rfl (.cons rfl (.cons rfl .nil))) (may_c c origin l _ (hl.mono hM1) hS) rfl ?_
  rintro _ w ⟨rfl, hS⟩
  refine wl_on rfl rfl ?_
  refine wl (y_not rfl) rfl ?_
  refine wl (y_pickF rfl rfl) rfl ?_
  refine wl_nil ?_
  refine wc_if rfl (fun hc17 => ?_) (fun hc17 => ?_)
  · try simp only [zq1, zq2, zq3, zq4, zq5, zq6, zq7] at hc17
    refine wc_seq ?_
    refine wc_region ?_
    refine wl_call .nil (awake_c (hG.mono hM1) hS) rfl ?_
    rintro _ w ⟨M2, hM2, rfl, hS⟩
    refine wl (y_assign rfl) rfl ?_
    refine wl_nil ?_
    refine wc_ret ?_
    refine wret (vs := [_]) (.tmp rfl .nil) ?_
    first
    | exact ⟨M11, ((((((((((hM1.trans hM2).trans hM3).trans hM4).trans hM5).trans hM6).trans hM7).trans hM8).trans hM9).trans hM10).trans hM11), rfl, hS.keep⟩
    | exact ⟨M2, hM1.trans hM2, rfl, hS.keep⟩
  · try simp only [zq1, zq2, zq3, zq4, zq5, zq6, zq7] at hc17
    obtain ⟨g1, g2, g3, g4, g5, g6⟩ := mayB_ok hc17
    have hab : ∀ a ∈ l, a.bytes.size ≤ 140737488351232 := fun a ha => by have := g2 a ha; omega
    have hinv : ((Nod.new c origin).acts l).inv l.length := by simpa using Nod.acts_inv (Nod.new_inv g3 origin) l hab
    generalize hn : (Nod.new c origin).acts l = m at hinv
    have hsm := hinv.small (by omega)
    have hsm' := hsm
    obtain ⟨s1, s2, s3, s4⟩ := hsm'
    have htl := pkts_length (origin := m.origin) (to_ := 0) (mtu := m.c.mtu) (l := m.tick.k.frames)
    have hfl := frames_length m.tick.k (Nod.tick_inv hinv).k
    have hinv' := Nod.tick_inv hinv
    have hsm2 := hinv'.small (by omega)
    refine wc_skip ?_
    refine wc_seq ?_
    refine wc_draw (l0 := (lb 10 0)) (fun w => CellsAt w b3 0 (cfgL c)) [] wide_ rfl rfl fun w hw => ?_
    replace hS := hS.same hw; clear hw
    refine dr_pure (i := 1) (lb 10 2) rfl rfl (by kernel_rfl) (fun w => y_move rfl) ?_
    refine dr_pure (i := 2) (lb 10 6) rfl rfl (by kernel_rfl) (fun w => y_move rfl) ?_
    refine dr_pure (i := 5) (lb 10 38) rfl rfl (by kernel_rfl) (fun w => y_move rfl) ?_
    refine dr_pure (i := 6) (lb 10 102) rfl rfl (by kernel_rfl) (fun w => y_move rfl) ?_
    refine dr_read (i := 0) (lb 10 103) rfl rfl (by kernel_rfl) (hS.cells rfl) (fun w hS => (y_loadS st_23 sz_23 rfl hS rfl).val (show _ = cfgV c from rfl)) ?_
    refine dr_read (i := 4) (lb 10 119) rfl rfl (by kernel_rfl) (hS.cells rfl) (fun w hS => (y_loadS st_23 sz_23 rfl hS rfl).val (show _ = cfgV c from rfl)) ?_
    refine dr_do (i := 3) (lb 10 127) rfl (by kernel_rfl) ?_
    refine wl_call (.cons rfl (.cons rfl (.cons rfl .nil))) (run_c (hG.mono hM1) c origin l _ (hl.mono hM1) (by omega) hab g4 g3 hS) rfl ?_
    rintro v w ⟨M2, p, H, rfl, hM2, n1, hS⟩
    rw [hn] at n1
    refine wl_nil ⟨fun _ _ => hS.cells rfl, ?_⟩
    refine dr_do (i := 7) (lb 10 255) rfl (by kernel_rfl) ?_
    refine wl_call (.cons rfl (.cons rfl (.cons rfl .nil))) (run_c ((hG.mono hM1).mono hM2) c origin l _ ((hl.mono hM1).mono hM2) (by omega) hab g4 g3 hS) rfl ?_
    rintro v w ⟨M3, q, K, rfl, hM3, k1, hS⟩
    rw [hn] at k1
    replace n1 := n1.mono hM3
    refine wl_nil ⟨fun _ _ => hS.cells rfl, ?_⟩
    refine dr_pure (i := 8) (lb 10 511) rfl rfl (by kernel_rfl) (fun w => y_assign rfl) ?_
    refine dr_pure (i := 9) (lb 10 1023) rfl rfl (by kernel_rfl) (fun w => y_assign rfl) ?_
    refine dr_done (by kernel_rfl) ?_
    refine wc_seq ?_
    refine wc_seq ?_
    refine wc_region ?_
    refine wl (y_move rfl) rfl ?_
    refine wl ((y_pnil Tryz.underlying27 rfl rfl).val (u := .bool false) rfl) rfl ?_
    refine wl (y_move rfl) rfl ?_
    refine wl_on rfl rfl ?_
    refine wl (y_move rfl) rfl ?_
    refine wl_on rfl rfl ?_
    refine wl ((y_pnil Tryz.underlying27 rfl rfl).val (u := .bool false) rfl) rfl ?_
    refine wl (y_pickF rfl rfl) rfl ?_
    refine wl_nil ?_
    refine wc_ifF rfl rfl ?_
    refine wc_skip ?_
    refine wc_seq ?_
    refine wc_region ?_
    refine wl (y_move rfl) rfl ?_
    refine wl_call (.cons rfl .nil) (nlook_c hsm n1 (hS.pull H)) rfl ?_
    rintro _ w ⟨M4, hM4, rfl, n1, hS⟩
    replace k1 := k1.mono hM4
    refine wl (y_move rfl) rfl ?_
    refine wl_call (.cons rfl .nil) (nlook_c hsm k1 (hS.pull K)) rfl ?_
    rintro _ w ⟨M5, hM5, rfl, k1, hS⟩
    replace n1 := n1.mono hM5
    refine wl ((y_eqS Tryz.eqGuardType30 rfl rfl (eq_30 _ _ _ _ _ _ _ _ _ _ _ _)).val (u := .bool true) (congrArg Value.bool ((look_eq m.look m.look).trans (decide_eq_true rfl)))) rfl ?_
    refine wl (y_move rfl) rfl ?_
    refine wl_on rfl rfl ?_
    refine wl (y_move rfl) rfl ?_
    refine wl_on rfl rfl ?_
    refine wl_call (.cons rfl .nil) (ntick_c (((((hG.mono hM1).mono hM2).mono hM3).mono hM4).mono hM5) hinv.k hsm hinv.frames n1 (hS.pull H)) rfl ?_
    rintro _ w ⟨M6, H6, Hp, hM6, hp, n2, hS⟩
    replace k1 := k1.mono hM6
    refine wl_on rfl rfl ?_
    refine wl (y_move rfl) rfl ?_
    refine wl_on rfl rfl ?_
    refine wl_call (.cons rfl .nil) (ntick_c ((((((hG.mono hM1).mono hM2).mono hM3).mono hM4).mono hM5).mono hM6) hinv.k hsm hinv.frames k1 (hS.pull K)) rfl ?_
    rintro _ w ⟨M7, K7, Kp, hM7, kp, k2, hS⟩
    replace n2 := n2.mono hM7
    refine wl_on rfl rfl ?_
    refine wl_call (.cons rfl (.cons rfl .nil)) (psame_c (by unfold Nod.tickP; omega) hp kp (hS.keep (T := Hp :: Kp :: H6 :: K7 :: Ls))) rfl ?_
    rintro _ w ⟨rfl, hS⟩
    rw [decide_eq_true rfl]
    refine wl (y_pickT rfl rfl) rfl ?_
    refine wl (y_move rfl) rfl ?_
    refine wl_on rfl rfl ?_
    refine wl (y_move rfl) rfl ?_
    refine wl_on rfl rfl ?_
    refine wl_call (.cons rfl .nil) (nknown_c (by have := hsm2.1; omega) n2 (hS.pull H6)) rfl ?_
    rintro v w ⟨M8, ys, Hy, hM8, hoy, hry, n2, hS⟩
    replace k2 := k2.mono hM8
    refine wl_on rfl rfl ?_
    refine wl (y_move rfl) rfl ?_
    refine wl_on rfl rfl ?_
    refine wl_call (.cons rfl .nil) (nknown_c (by have := hsm2.1; omega) k2 (hS.pull K7)) rfl ?_
    rintro v w ⟨M9, zs, Hz, hM9, hoz, hrz, k2, hS⟩
    replace n2 := n2.mono hM9
    refine wl_on rfl rfl ?_
    refine wl_call (.cons rfl (.cons rfl .nil)) (rsameall_c (by have := hsm2.1; omega) hoy (hry.mono hM9) hoz hrz (hS.keep (T := Hy :: Hz :: H6 :: K7 :: Ls))) rfl ?_
    rintro _ w ⟨rfl, hS⟩
    rw [decide_eq_true rfl]
    refine wl (y_pickT rfl rfl) rfl ?_
    refine wl (y_move rfl) rfl ?_
    refine wl_on rfl rfl ?_
    refine wl (y_move rfl) rfl ?_
    refine wl_on rfl rfl ?_
    refine wl_call (.cons rfl .nil) (njournal_c (by have := hsm2.2.2.2; omega) n2 (hS.pull H6)) rfl ?_
    rintro v w ⟨M10, ys2, Hy2, hM10, hoy2, hry2, n2, hS⟩
    replace k2 := k2.mono hM10
    refine wl_on rfl rfl ?_
    refine wl (y_move rfl) rfl ?_
    refine wl_on rfl rfl ?_
    refine wl_call (.cons rfl .nil) (njournal_c (by have := hsm2.2.2.2; omega) k2 (hS.pull K7)) rfl ?_
    rintro v w ⟨M11, zs2, Hz2, hM11, hoz2, hrz2, k2, hS⟩
    replace n2 := n2.mono hM11
    refine wl_on rfl rfl ?_
    refine wl_call (.cons rfl (.cons rfl .nil)) (rsameall_c (by have := hsm2.2.2.2; have := behind_length 0 m.tick.j.l; omega) hoy2 (hry2.mono hM11) hoz2 hrz2 (hS.keep (T := Hy2 :: Hz2 :: H6 :: K7 :: Ls))) rfl ?_
    rintro _ w ⟨rfl, hS⟩
    rw [decide_eq_true rfl]
    refine wl (y_pickT rfl rfl) rfl ?_
    refine wl (y_move rfl) rfl ?_
    refine wl_on rfl rfl ?_
    refine wl (y_move rfl) rfl ?_
    refine wl_on rfl rfl ?_
    refine wl_call (.cons rfl (.cons rfl .nil)) (nread_c ⟨#[97]⟩ hsm2 n2 (hS.pull H6)) rfl ?_
    rintro _ w ⟨rfl, hS⟩
    refine wl_on rfl rfl ?_
    refine wl (y_move rfl) rfl ?_
    refine wl_on rfl rfl ?_
    refine wl_call (.cons rfl (.cons rfl .nil)) (nread_c ⟨#[97]⟩ hsm2 k2 (hS.pull K7)) rfl ?_
    rintro _ w ⟨rfl, hS⟩
    refine wl_on rfl rfl ?_
    refine wl ((y_eqS Tryz.eqGuardType65 rfl rfl (eq_65 _ _ _ _ _ _)).val (u := .bool true) (congrArg Value.bool ((val_eq (m.tick.own.read ⟨#[97]⟩) (m.tick.own.read ⟨#[97]⟩)).trans (decide_eq_true rfl)))) rfl ?_
    refine wl (y_pickT rfl rfl) rfl ?_
    refine wl (y_assign rfl) rfl ?_
    refine wl_nil ?_
    refine wc_ret ?_
    refine wret (vs := [_]) (.tmp rfl .nil) ?_
    first
    | exact ⟨M11, ((((((((((hM1.trans hM2).trans hM3).trans hM4).trans hM5).trans hM6).trans hM7).trans hM8).trans hM9).trans hM10).trans hM11), rfl, hS.keep⟩
    | exact ⟨M2, hM1.trans hM2, rfl, hS.keep⟩
end
end Go.Proofs.YtndahppmjdbifaaGreatDoor.Nod

set_option linter.unusedVariables false
set_option linter.unusedSimpArgs false
namespace Go.Proofs.YtndahppmjdbifaaGreatDoor.Eng
open Go Go.RowKit

/-! ### the start of a law's call -/
def mem0 (w : World) : Mem := ⟨fun b => w.heap[b]?, w.os, w.output, w.tape⟩
theorem st0 (w : World) : St (mem0 w) w [] := ⟨fun b o h => h, by simp, by simp, by simp, rfl, rfl, rfl⟩
theorem below_of {M : Mem} {w w' : World} {Ls : List Chunk} (h : St M w' Ls) (hm : Mle (mem0 w) M) : Below w.heap.size w w' := by
  have hk : ∀ k, k < w.heap.size → w'.heap[k]? = w.heap[k]? := by
    intro k hk
    have h1 : w.heap[k]? = some w.heap[k] := by simp [hk]
    rw [h1]
    exact h.imm k _ (hm.1 k _ h1)
  refine ⟨h.io.1.trans hm.2.1, h.io.2.2.trans hm.2.2.2, h.io.2.1.trans hm.2.2.1, ?_, hk⟩
  rcases Nat.lt_or_ge 0 w.heap.size with h0 | h0
  · have := hk (w.heap.size - 1) (by omega)
    rcases Nat.lt_or_ge (w.heap.size - 1) w'.heap.size with h1 | h1
    · omega
    · rw [Array.getElem?_eq_none h1] at this
      have h2 : w.heap[w.heap.size - 1]? = some (w.heap[w.heap.size - 1]'(by omega)) := by simp [h0]
      rw [h2] at this; cases this
  · omega

theorem trodAll_below {H : Type} {enc : TypeId × Value → H} {P : Program} (hl : laidOutB P = true) {W W' : World} (hb : Below W.heap.size W W') :
    ∀ {ts : List TypeId} {vs : List Value} {ds : List (DataW H)} {ps : List MemPlace}, ts.all (fun t => P.readableRec t && decide (t < P.types.size)) = true → (∀ x ∈ ps, x.block < W.heap.size) →
    DataW.TrodAll enc P W 0 (fun _ => true) true ts vs ds ps → DataW.TrodAll enc P W' 0 (fun b => decide (b < W.heap.size)) true ts vs ds ps
  | [], vs, ds, ps, _, _, h => by
    obtain ⟨rfl, rfl, rfl⟩ := ChangeShapes.trodAll_nil h
    exact ChangeShapes.trodAll_mk0
  | t :: ts, vs, ds, ps, ht, hlt, h => by
    obtain ⟨v, vs', d, ds', p, q, rfl, rfl, rfl, h1, h2⟩ := ChangeShapes.trodAll_cons h
    simp only [List.all_cons, Bool.and_eq_true, decide_eq_true_eq] at ht
    exact Go.trodAll_cons_mk (Below.trod hl ht.1.1 ht.1.2 h1 hb fun x hx => hlt x (List.mem_append_left _ hx)) (trodAll_below hl hb ht.2 (fun x hx => hlt x (List.mem_append_right _ hx)) h2)

theorem u32_wf {a : Int} (h : (Lit.int .u32 a).wf = true) : ∃ x : BitVec 32, a = (x.toNat : Int) := by
  have h' := bounds_u32 h
  exact ⟨BitVec.ofNat 32 a.toNat, by rw [BitVec.toNat_ofNat]; omega⟩
theorem i64_wf {a : Int} (h : (Lit.int .i64 a).wf = true) : -9223372036854775808 ≤ a ∧ a ≤ 9223372036854775807 := bounds_i64 h
/-- A law's end: it told true; of what was there nothing turned. -/
theorem law_post {H : Type} {enc : TypeId × Value → H} {P : Program} {f : Func} {s : ChangeSpec} {W W' : World} {args : Array Value} {ds gs : List (DataW H)} {before : List MemPlace} {tb : TypeId}
    (hl : laidOutB P = true) (hp : f.params.toList.all (fun t => P.readableRec t && decide (t < P.types.size)) = true) (hv : varsRowed P s.vars = true) (hr : f.resultTypes = #[tb]) (hb : P.underlying tb = some .bool)
    (hW : DataW.Whole enc P f.params.toList s.vars false W args.toList ds gs before) (hspec : s.fn H (ds ++ gs) = { results := [.lit (.bool true)], args := ds, vars := gs }) (hB : Below W.heap.size W W') :
    s.post enc P f false true false false W args (.bool true) W' := by
  have hlt := hW.lt
  obtain ⟨p, q, hA, hV, rfl, hfz, hnd⟩ := hW
  refine ⟨ds, gs, p ++ q, [], p, q, ⟨p, q, hA, hV, rfl, hfz, hnd⟩, ?_, ?_, ?_, hB.frame _, fun h => by cases h⟩
  · rw [hspec, hr]
    exact Go.trodAll_cons_mk (shut_bool hb true) ChangeShapes.trodAll_mk0
  · rw [hspec]
    exact trodAll_below hl hB hp (fun x hx => hlt x (List.mem_append_left _ hx)) hA
  · rw [hspec]
    exact Below.trodVars hl hB hv hV
end Go.Proofs.YtndahppmjdbifaaGreatDoor.Eng

set_option linter.unusedVariables false
set_option linter.unusedSimpArgs false
namespace Go.Proofs.YtndahppmjdbifaaGreatDoor.Eng
open Go Go.RowKit Go.WideShapes

/-! ### what the arguments of a law hold: structs of numbers, bools and texts, and slices of these -/
inductive Lf
  | int (k : IntKind)
  | str
  | boo
def LfOk : Lf → Value → Prop
  | .int k, v => ∃ n, v = .int k n ∧ (Lit.int k n).wf = true
  | .str, v => ∃ s : ByteArray, v = .string s ∧ s.size ≤ maxLen
  | .boo, v => ∃ b, v = .bool b
/-- the leaves of types that lie at offsets -/
inductive Lvs (P : Program) : List (TypeId × Nat) → List (Nat × Lf) → Prop
  | nil : Lvs P [] []
  | int {t o : Nat} {k : IntKind} {rest : List (TypeId × Nat)} {ls : List (Nat × Lf)} : P.underlying t = some (.int k) → Lvs P rest ls → Lvs P ((t, o) :: rest) ((o, .int k) :: ls)
  | str {t o : Nat} {rest : List (TypeId × Nat)} {ls : List (Nat × Lf)} : P.underlying t = some .string → Lvs P rest ls → Lvs P ((t, o) :: rest) ((o, .str) :: ls)
  | boo {t o : Nat} {rest : List (TypeId × Nat)} {ls : List (Nat × Lf)} : P.underlying t = some .bool → Lvs P rest ls → Lvs P ((t, o) :: rest) ((o, .boo) :: ls)
  | st {t o : Nat} {fs : List Field} {rest : List (TypeId × Nat)} {ls : List (Nat × Lf)} : P.underlying t = some (.struct fs.toArray) → fs.all (fun f => Nat.ble (f.offset + P.cellsOf f.type) (P.cellsOf t)) = true → Lvs P (fs.map (fun f => (f.type, o + f.offset)) ++ rest) ls → Lvs P ((t, o) :: rest) ls
theorem cut_one {cs : List Value} {o c : Nat} {v : Value} (h : (cs.drop o).take c = [v]) : cs[o]? = some v := by
  have h1 : ((cs.drop o).take c)[0]? = some v := by rw [h]; rfl
  rw [List.getElem?_take] at h1
  split at h1
  · simpa using h1
  · cases h1
section
variable {H : Type} {enc : TypeId × Value → H} {P : Program} {w : World} {base : Nat} {spare : Nat → Bool} {held : Bool}
theorem Lvs.of {L : List (TypeId × Nat)} {ls : List (Nat × Lf)} (hl : Lvs P L ls) {cs : List Value} (h : ∀ p ∈ L, ∃ fuel x, DataW.trod enc P w base spare held fuel p.1 ((cs.drop p.2).take (P.cellsOf p.1)) = some x) : ∀ q ∈ ls, ∃ v, cs[q.1]? = some v ∧ LfOk q.2 v := by
  induction hl with
  | nil => intro q hq; cases hq
  | int ht _ ih =>
    intro q hq
    rcases List.mem_cons.1 hq with rfl | hq
    · obtain ⟨fuel, x, hx⟩ := h _ List.mem_cons_self
      obtain ⟨n, h1, _, h3⟩ := DataW.trod_int ht hx
      exact ⟨_, cut_one h1, n, rfl, h3⟩
    · exact ih (fun p hp => h p (List.mem_cons_of_mem _ hp)) q hq
  | str ht _ ih =>
    intro q hq
    rcases List.mem_cons.1 hq with rfl | hq
    · obtain ⟨fuel, x, hx⟩ := h _ List.mem_cons_self
      obtain ⟨s, h1, _, h3⟩ := DataW.trod_string ht hx
      exact ⟨_, cut_one h1, s, rfl, h3⟩
    · exact ih (fun p hp => h p (List.mem_cons_of_mem _ hp)) q hq
  | boo ht _ ih =>
    intro q hq
    rcases List.mem_cons.1 hq with rfl | hq
    · obtain ⟨fuel, x, hx⟩ := h _ List.mem_cons_self
      obtain ⟨b, h1, _⟩ := DataW.trod_bool ht hx
      exact ⟨_, cut_one h1, b, rfl⟩
    · exact ih (fun p hp => h p (List.mem_cons_of_mem _ hp)) q hq
  | @st t o fs rest ls ht hf _ ih =>
    refine ih fun p hp => ?_
    rcases List.mem_append.1 hp with hp | hp
    · obtain ⟨fuel, x, hx⟩ := h _ List.mem_cons_self
      obtain ⟨xs, n, _, _, _, hlen, hall⟩ := DataW.trod_struct ht hx
      obtain ⟨f, hfm, rfl⟩ := List.mem_map.1 hp
      obtain ⟨i, hi⟩ := List.getElem?_of_mem hfm
      have hle : f.offset + P.cellsOf f.type ≤ P.cellsOf t := Nat.le_of_ble_eq_true (List.all_eq_true.1 hf f hfm)
      have h1 := hall i f (by simpa using hi)
      have hil : i < xs.length := by rw [hlen]; simpa using (List.getElem?_eq_some_iff.1 hi).1
      rw [List.getElem?_eq_getElem hil] at h1
      refine ⟨n, xs[i], ?_⟩
      rw [← h1]
      congr 1
      simp only []
      rw [List.drop_take, List.take_take, List.drop_drop, Nat.min_eq_left (by omega)]
    · exact h p (List.mem_cons_of_mem _ hp)
/-- an argument that is a struct -/
theorem open_st {r : Reach} {b0 t : Nat} {fs : Array Field} {v : Value} {d : DataW H} {p : List MemPlace} {ls : List (Nat × Lf)} (ht : P.underlying t = some (.struct fs)) (hL : Lvs P [(t, 0)] ls) (hv : Value.okWide P w r b0 t v) (h : DataW.Trod enc P w base spare held t v d p) :
    ∃ cs : List Value, v = .agg cs.toArray ∧ cs.length = P.cellsOf t ∧ ∀ q ∈ ls, ∃ u, cs[q.1]? = some u ∧ LfOk q.2 u := by
  obtain ⟨cs, rfl, hsz⟩ := okWide_struct ht hv
  obtain ⟨fuel, hf⟩ := h
  have hf' : DataW.trod enc P w base spare held fuel t cs.toList = some (d, p) := hf
  refine ⟨cs.toList, by simp, by simpa using hsz, hL.of (enc := enc) (w := w) (base := base) (spare := spare) (held := held) ?_⟩
  intro q hq
  simp only [List.mem_singleton] at hq
  subst hq
  refine ⟨fuel, (d, p), ?_⟩
  simp only [List.drop_zero]
  rw [List.take_of_length_le (by simpa using Nat.le_of_eq hsz)]
  exact hf'
theorem spot_none {a : Addr} {v : Value} (h : w.cell? a = some v) : a = ⟨a.block, a.off, none⟩ ∧ ∃ cs e fz, w.heap[a.block]? = some (.cells cs e fz) ∧ cs[a.off]? = some v := by
  unfold World.cell? at h
  split at h
  · rename_i cs e fz hh
    split at h
    · cases h
    · rename_i hs
      refine ⟨?_, cs, e, fz, hh, h⟩
      cases a; simp at hs; simp [hs]
  · cases h
theorem Enc.flat_inv {α : Type} {A : Enc α} : ∀ {xs : List α} {j : Nat} {v : Value}, (xs.flatMap A.f)[j]? = some v → ∃ i x r, xs[i]? = some x ∧ (A.f x)[r]? = some v ∧ j = i * A.k + r
  | [], j, v, h => by simp at h
  | x :: xs, j, v, h => by
    simp only [List.flatMap_cons] at h
    by_cases hj : j < (A.f x).length
    · rw [List.getElem?_append_left hj] at h
      exact ⟨0, x, j, rfl, h, by simp⟩
    · rw [List.getElem?_append_right (by omega)] at h
      obtain ⟨i, y, r, h1, h2, h3⟩ := Enc.flat_inv h
      refine ⟨i + 1, y, r, by simpa using h1, h2, ?_⟩
      rw [A.len] at h3 hj
      rw [Nat.add_mul, Nat.one_mul]
      omega
/-- a slice of structs -/
theorem open_sl' {α : Type} (A : Enc α) {t e fuel : Nat} {v : Value} {x : DataW H × List MemPlace} {ls : List (Nat × Lf)} (ht : P.underlying t = some (.slice e)) (hk : P.cellsOf e = A.k) (hk0 : 0 < A.k) (hL : Lvs P [(e, 0)] ls)
    (hA : ∀ cs : List Value, cs.length = A.k → (∀ q ∈ ls, ∃ u, cs[q.1]? = some u ∧ LfOk q.2 u) → ∃ x, A.f x = cs)
    (h : DataW.trod enc P w base (fun _ => true) held fuel t [v] = some x) :
    ∃ xs : List α, Rd (mem0 w) A v xs ∧ xs.length ≤ maxLen := by
  obtain ⟨a, len, cap, hvs⟩ := Joins.slice_form ht h
  simp only [List.cons.injEq, and_true] at hvs
  subst hvs
  have hf' := h
  rcases Deep.open_slice ht hf' with ⟨hcs, _⟩ | ⟨a', len', cap', m, n, D, Pl, hcs, hb, hlc, hcm, hm, _, hel⟩
  · simp only [List.cons.injEq, Value.slice.injEq, and_true] at hcs
    obtain ⟨rfl, rfl, rfl⟩ := hcs
    exact ⟨[], ⟨_, _, rfl, .inl rfl⟩, Nat.zero_le _⟩
  · simp only [List.cons.injEq, Value.slice.injEq, and_true] at hcs
    obtain ⟨rfl, rfl, rfl⟩ := hcs
    simp only [if_true] at hm
    subst hm
    have one : ∀ i, i < len → ∃ x, w.cells? base (a'.add (i * A.k)) A.k = some (A.f x) := by
      intro i hi
      obtain ⟨cs', h1, h2⟩ := hel i (by omega)
      rw [hk] at h1
      obtain ⟨_, hlen, _⟩ := World.cells?_some h1
      obtain ⟨x, rfl⟩ := hA cs' hlen (hL.of (enc := enc) (w := w) (base := base) (spare := fun _ => true) (held := held) fun q hq => by
        simp only [List.mem_singleton] at hq
        subst hq
        refine ⟨n, (D i, Pl i), ?_⟩
        simp only [List.drop_zero]
        rw [List.take_of_length_le (by rw [hk]; exact Nat.le_of_eq hlen)]
        exact h2)
      exact ⟨x, h1⟩
    have build : ∀ n, n ≤ len → ∃ xs : List α, xs.length = n ∧ ∀ i x, xs[i]? = some x → w.cells? base (a'.add (i * A.k)) A.k = some (A.f x) := by
      intro n
      induction n with
      | zero => exact fun _ => ⟨[], rfl, fun i x hx => by simp at hx⟩
      | succ n ih =>
        intro hn
        obtain ⟨xs, h1, h2⟩ := ih (by omega)
        obtain ⟨x, hx⟩ := one n (by omega)
        refine ⟨xs ++ [x], by simp [h1], fun i y hy => ?_⟩
        rcases Nat.lt_or_ge i n with hi | hi
        · rw [List.getElem?_append_left (by omega)] at hy; exact h2 i y hy
        · rw [List.getElem?_append_right (by omega)] at hy
          have : i - xs.length = 0 := by
            rcases Nat.eq_zero_or_pos (i - xs.length) with h | h
            · exact h
            · rw [List.getElem?_eq_none (by simp; omega)] at hy; cases hy
          rw [this] at hy
          simp only [List.getElem?_cons_zero, Option.some.injEq] at hy
          subst hy
          rw [show i = n by omega]; exact hx
    obtain ⟨xs, hxl, hx⟩ := build len (Nat.le_refl _)
    refine ⟨xs, ⟨some a', _, by rw [hxl], ?_⟩, by omega⟩
    cases xs with
    | nil => exact .inl rfl
    | cons x0 xs0 =>
      right
      have h0 := hx 0 x0 rfl
      rw [Nat.zero_mul] at h0
      obtain ⟨_, _, hc0⟩ := World.cells?_some h0
      have hv0 : ∃ v0, (A.f x0)[0]? = some v0 := ⟨_, List.getElem?_eq_getElem (by rw [A.len]; exact hk0)⟩
      obtain ⟨v0, hv0⟩ := hv0
      have hcell := (hc0 0 hk0).trans hv0
      have hadd0 : (a'.add 0).add 0 = a' := by simp [Addr.add]
      rw [hadd0] at hcell
      obtain ⟨hsp, cs, e', fz, hh, _⟩ := spot_none hcell
      refine ⟨a'.block, a'.off, cs, e', fz, by rw [← hsp], hh, fun j v hj => ?_⟩
      obtain ⟨i, x, r, h1, h2, rfl⟩ := Enc.flat_inv hj
      have hi := hx i x h1
      obtain ⟨_, _, hci⟩ := World.cells?_some hi
      have hr : r < A.k := by rw [← A.len x]; exact (List.getElem?_eq_some_iff.1 h2).1
      have hc := (hci r hr).trans h2
      rw [hsp, Addr.add_mk, Addr.add_mk] at hc
      unfold World.cell? at hc
      rw [hh] at hc
      simp only [Option.isSome_none, Bool.false_eq_true, if_false] at hc
      rw [← hc]
      congr 1
      omega
/-- an argument that is a slice of structs -/
theorem open_sl {α : Type} (A : Enc α) {r : Reach} {b0 t e : Nat} {v : Value} {d : DataW H} {p : List MemPlace} {ls : List (Nat × Lf)} (ht : P.underlying t = some (.slice e)) (hk : P.cellsOf e = A.k) (hk0 : 0 < A.k) (hL : Lvs P [(e, 0)] ls)
    (hA : ∀ cs : List Value, cs.length = A.k → (∀ q ∈ ls, ∃ u, cs[q.1]? = some u ∧ LfOk q.2 u) → ∃ x, A.f x = cs)
    (hv : Value.okWide P w r b0 t v) (h : DataW.Trod enc P w base (fun _ => true) held t v d p) :
    ∃ xs : List α, Rd (mem0 w) A v xs ∧ xs.length ≤ maxLen := by
  obtain ⟨a, len, cap, rfl⟩ := okWide_slice ht hv
  obtain ⟨fuel, hf⟩ := h
  exact open_sl' A ht hk hk0 hL hA (show DataW.trod enc P w base (fun _ => true) held fuel t [.slice a len cap] = some (d, p) from hf)
end
end Go.Proofs.YtndahppmjdbifaaGreatDoor.Eng

set_option linter.unusedVariables false
set_option linter.unusedSimpArgs false
set_option maxRecDepth 100000
namespace Go.Proofs.YtndahppmjdbifaaGreatDoor.Nod
open Go Go.Proofs Go.RowKit Go.Proofs.YtndahppmjdbifaaGreatDoor.Eng Go.Proofs.YtndahppmjdbifaaGreatDoor.Pre Go.Proofs.YtndahppmjdbifaaGreatDoor.Val
/-- the lengths of a number's spelling, as the program's text lays them -/
def laidBits : List (String × DataW Unit) := [("chapbook/prefix.bits", Rows.laid_chapbook_prefix_bits)]
theorem gBits : Tryz.prog.globalNamed "chapbook/prefix.bits" = some 0 := by kernel_rfl
theorem tBits : (Tryz.prog.globals[0]?).map (·.type) = some 263 := by kernel_rfl
theorem cellsBits : Tryz.prog.cellsOf 263 = 4 := by kernel_rfl
theorem cellsU64 : Tryz.prog.cellsOf 252 = 1 := by kernel_rfl
theorem bits_of {W : World} (h : laidMetH Tryz.prog laidBits W) : Bits (mem0 W) := by
  rw [MakeChecks.laidMetH_plain _ _ _ (by kernel_rfl)] at h
  obtain ⟨ps, ⟨g0, t0, cs0, f0, p0, q0, hg0, ht0, hv0, hd0, _, _⟩, _, _⟩ := h
  obtain rfl := Option.some.inj (gBits.symm.trans hg0)
  obtain rfl := Option.some.inj (tBits.symm.trans ht0)
  obtain ⟨xs, m1, rfl, hx1, hlen, hn, hel⟩ := DataW.trod_array Tryz.underlying263 hd0
  rw [cellsBits] at hlen
  have hcells : ∃ T fz, W.heap[0]? = some (.cells cs0 T fz) := by
    simp only [World.var?, hg0, Option.bind_some] at hv0
    split at hv0
    · rename_i c e fz hh; cases hv0; exact ⟨e, fz, hh⟩
    · cases hv0
  obtain ⟨T, fz, hh⟩ := hcells
  refine ⟨T, fz, ?_⟩
  have hone : ∀ i, i < 4 → ∃ n x, cs0.toList[i]? = some (.int .u64 n) ∧ xs[i]? = some x ∧ x.1 = .lit (.int .u64 n) := by
    intro i hi
    have h1 := hel i hi
    rw [List.getElem?_eq_getElem (by omega)] at h1
    obtain ⟨n, e1, e2, _⟩ := DataW.trod_int Tryz.underlying252 h1
    rw [cellsU64, Nat.mul_one] at e1
    exact ⟨n, _, cut_one e1, List.getElem?_eq_getElem (by omega), by rw [e2]⟩
  simp only [Prod.mk.injEq, Rows.laid_chapbook_prefix_bits, DataW.agg.injEq] at hx1
  obtain ⟨n0, x0, a0, b0, c0⟩ := hone 0 (by decide)
  obtain ⟨n1, x1, a1, b1, c1⟩ := hone 1 (by decide)
  obtain ⟨n2, x2, a2, b2, c2⟩ := hone 2 (by decide)
  obtain ⟨n3, x3, a3, b3, c3⟩ := hone 3 (by decide)
  have hm := hx1.1
  have k0 := congrArg (fun l => l[0]?) hm
  have k1 := congrArg (fun l => l[1]?) hm
  have k2 := congrArg (fun l => l[2]?) hm
  have k3 := congrArg (fun l => l[3]?) hm
  simp only [List.getElem?_map, b0, b1, b2, b3, Option.map_some, c0, c1, c2, c3, List.getElem?_cons_zero, List.getElem?_cons_succ, Option.some.injEq, DataW.lit.injEq, Lit.int.injEq, true_and] at k0 k1 k2 k3
  subst k0 k1 k2 k3
  show W.heap[0]? = _
  rw [hh]
  congr 2
  obtain ⟨l⟩ := cs0
  simp only at hlen a0 a1 a2 a3
  match l, hlen with
  | [y0, y1, y2, y3], _ =>
    simp only [List.getElem?_cons_zero, List.getElem?_cons_succ, Option.some.injEq] at a0 a1 a2 a3
    subst a0 a1 a2 a3
    rfl
theorem bits_met (os : Os) (args : Array Value) : laidMetH Tryz.prog laidBits ((World.doorLaid Tryz.prog 400 os).forCall (fun _ _ => 0) ⟨#[], args, []⟩).memory :=
  laidMetH_of_parts3 (fuel := 8) (laidMet_of_run' 8 (by kernel_rfl) (by kernel_rfl)) (by kernel_rfl) (by kernel_rfl)
section
variable {H : Type} {enc : TypeId × Value → H} {w : World} {base : Nat} {held : Bool}
theorem lvs_cfg : Lvs Tryz.prog [(23, 0)] [(0, .int .i64), (1, .int .i64), (2, .int .i64), (3, .int .i64), (4, .int .i64), (5, .int .i64)] :=
  .st Tryz.underlying23 (by kernel_rfl) (.int Tryz.underlying3 (.int Tryz.underlying3 (.int Tryz.underlying3 (.int Tryz.underlying3 (.int Tryz.underlying3 (.int Tryz.underlying3 .nil))))))
theorem open_cfg {r : Reach} {b0 : Nat} {v : Value} {d : DataW H} {p : List MemPlace} {spare : Nat → Bool} (hv : Value.okWide Tryz.prog w r b0 23 v) (h : DataW.Trod enc Tryz.prog w base spare held 23 v d p) : ∃ c, v = cfgV c := by
  obtain ⟨cs, rfl, hl, hq⟩ := open_st Tryz.underlying23 lvs_cfg hv h
  rw [show Tryz.prog.cellsOf 23 = 6 by kernel_rfl] at hl
  match cs, hl with
  | [y0, y1, y2, y3, y4, y5], _ =>
    simp only [List.mem_cons, List.not_mem_nil, or_false, forall_eq_or_imp, forall_eq, List.getElem?_cons_zero, List.getElem?_cons_succ, Option.some.injEq, exists_eq_left', LfOk] at hq
    obtain ⟨⟨n0, rfl, _⟩, ⟨n1, rfl, _⟩, ⟨n2, rfl, _⟩, ⟨n3, rfl, _⟩, ⟨n4, rfl, _⟩, ⟨n5, rfl, _⟩⟩ := hq
    exact ⟨⟨n0, n1, n2, n3, n4, n5⟩, rfl⟩
theorem lvs_act : Lvs Tryz.prog [(61, 0)] [(0, .int .i64), (1, .str), (2, .int .i64), (3, .int .i64), (4, .str), (5, .str)] :=
  .st Tryz.underlying61 (by kernel_rfl) (.int Tryz.underlying3 (.st Tryz.underlying59 (by kernel_rfl) (.str Tryz.underlying9 (.int Tryz.underlying3 (.int Tryz.underlying2 (.str Tryz.underlying9 (.str Tryz.underlying9 .nil)))))))
theorem act_of (cs : List Value) (hl : cs.length = encA.k) (hq : ∀ q ∈ [(0, Lf.int .i64), (1, .str), (2, .int .i64), (3, .int .i64), (4, .str), (5, .str)], ∃ u, cs[q.1]? = some u ∧ LfOk q.2 u) : ∃ x, encA.f x = cs := by
  replace hl : cs.length = 6 := hl
  match cs, hl with
  | [y0, y1, y2, y3, y4, y5], _ =>
    simp only [List.mem_cons, List.not_mem_nil, or_false, forall_eq_or_imp, forall_eq, List.getElem?_cons_zero, List.getElem?_cons_succ, Option.some.injEq, exists_eq_left', LfOk] at hq
    obtain ⟨⟨n0, rfl, _⟩, ⟨n1, rfl, _⟩, ⟨n2, rfl, _⟩, ⟨n3, rfl, _⟩, ⟨n4, rfl, _⟩, ⟨n5, rfl, _⟩⟩ := hq
    exact ⟨⟨n0, ⟨n1, n2, n3, n4⟩, n5⟩, rfl⟩
theorem cellsAct : Tryz.prog.cellsOf 61 = 6 := by kernel_rfl
theorem open_acts {r : Reach} {b0 : Nat} {v : Value} {d : DataW H} {p : List MemPlace} (hv : Value.okWide Tryz.prog w r b0 24 v) (h : DataW.Trod enc Tryz.prog w base (fun _ => true) held 24 v d p) : ∃ l, Rd (mem0 w) encA v l := by
  obtain ⟨xs, hx, _⟩ := open_sl encA Tryz.underlying24 cellsAct (by decide) lvs_act act_of hv h
  exact ⟨xs, hx⟩
theorem open_strange {r : Reach} {b0 : Nat} {v : Value} {d : DataW H} {p : List MemPlace} (hv : Value.okWide Tryz.prog w r b0 51 v) (h : DataW.Trod enc Tryz.prog w base (fun _ => true) held 51 v d p) : ∃ l s u, v = .agg [u, .string s].toArray ∧ Rd (mem0 w) encA u l := by
  obtain ⟨v0, v1, y0, y1, n, rfl, _, _, h0, h1⟩ := Joins.open_agg2 Tryz.underlying51 (by kernel_rfl) (by kernel_rfl) hv h
  obtain ⟨s, hs, _⟩ := DataW.trod_string Tryz.underlying9 h1
  simp only [List.cons.injEq, and_true] at hs
  subst hs
  obtain ⟨xs, hx, _⟩ := open_sl' encA Tryz.underlying24 cellsAct (by decide) lvs_act act_of h0
  exact ⟨xs, s, v0, rfl, hx⟩
end
end Go.Proofs.YtndahppmjdbifaaGreatDoor.Nod

/-
  NodeSame holds: two nodes that do and hear the same send the same, and stand alike. No condition beyond the row's own: prefix.bits holds what the program's text lays.
-/
namespace Go.Proofs.YtndahppmjdbifaaGreatDoor.nodeSame
open Go Go.Proofs Go.ChangeShapes Go.WideShapes Go.ChangeAt Go.RowKit Go.Proofs.YtndahppmjdbifaaGreatDoor.Eng Go.Proofs.YtndahppmjdbifaaGreatDoor.Pre Go.Proofs.YtndahppmjdbifaaGreatDoor.Nod
open Go.ChangeMaps (open_string shut_string)
set_option linter.unusedVariables false
theorem own : ownKnob Tryz.prog.godebug = none := by kernel_rfl
theorem laid_ : laidOutB Tryz.prog = true := by kernel_rfl
theorem walk (w : World) (hG : Bits (mem0 w)) (a0 : Cfg) (a1 : Int) (w1 : (Lit.int .i64 a1).wf = true) (a2 : List Nod.Act) (v2 : Value) (g2 : Rd (mem0 w) encA v2 a2) :
    Calls Tryz.prog 7 #[cfgV a0, .int .i64 a1, v2] w fun e w' => e = .returned (.bool true) ∧ Below w.heap.size w w' := by
  obtain ⟨b2, c2, rfl⟩ := (g2.holds (st0 w)).slice
  exact (NodeSame_c hG a0 a1 a2 _ g2 (st0 w)).2.mono fun e w' ⟨v, he, M, hM, hv, hS⟩ => ⟨by rw [he, hv], below_of hS hM⟩
set_option maxRecDepth 100000 in
theorem lifted (os : Os) (started : os.Started) (H : Type) (enc : TypeId × Value → H) :
    ReturnsInHanded {} Tryz.checked os 7 .any (fun w args => (Rows.nodeSameSpec.pre enc Tryz.prog Tryz.f7 [] false w args ∧ laidMetH Tryz.prog laidBits w) ∧ sizedMet enc Tryz.prog Tryz.f7 (OpenSpec.ofChange Rows.nodeSameSpec) false w args)
      (Rows.nodeSameSpec.post enc Tryz.prog Tryz.f7 false true false false) := by
  refine returnsInHanded_of_change_and (C := Tryz.checked) (X := fun w _ => laidMetH Tryz.prog laidBits w) (fun _ _ _ hh h => h.of_heap hh) own started (by kernel_rfl) Tryz.func7
    (ChangeSpec.witness_shaped (enc := enc) (C := Tryz.checked) (os := os) (X := fun w _ => laidMetH Tryz.prog laidBits w) false (World.doorLaid Tryz.prog 400 os) #[.agg #[.int .i64 0, .int .i64 0, .int .i64 0, .int .i64 0, .int .i64 0, .int .i64 0], .int .i64 0, .slice none 0 0] 8 rfl (World.shaped_of_RefB (by kernel_rfl) (by kernel_rfl)) (by kernel_rfl) (by kernel_rfl) (by kernel_rfl) (bits_met os _)) ?_
  intro W base args ds gs before hval0 hW _ _ hL _
  have hval : ∀ (j : Nat) t v, Tryz.f7.params[j]? = some t → args[j]? = some v → Value.okWide Tryz.prog W .any base t v := hval0
  have hW' := hW
  obtain ⟨p, q, hA0, hV, rfl, hfz, hnd⟩ := hW
  have hA : DataW.TrodAll enc Tryz.prog W 0 (fun _ => true) true Tryz.f7.params.toList args.toList ds p := hA0
  rw [Tryz.params7] at hA hval
  obtain ⟨v0, vs0, d0, ds0, p0, q0, hargs, rfl, rfl, h0, r0⟩ := trodAll_cons hA
  obtain ⟨v1, vs1, d1, ds1, p1, q1, rfl, rfl, rfl, h1, r1⟩ := trodAll_cons r0
  obtain ⟨v2, vs2, d2, ds2, p2, q2, rfl, rfl, rfl, h2, r2⟩ := trodAll_cons r1
  obtain ⟨rfl, rfl, rfl⟩ := trodAll_nil r2
  obtain rfl : args = #[v0, v1, v2] := by cases args; simp_all
  obtain ⟨rfl, rfl⟩ := trodVars_none hV
  obtain ⟨a0, rfl⟩ := open_cfg (hval 0 23 v0 rfl rfl) h0
  obtain ⟨a1, rfl, rfl, rfl, w1⟩ := open_int Tryz.underlying3 (hval 1 3 v1 rfl rfl) h1
  obtain ⟨a2, g2⟩ := open_acts (hval 2 24 v2 rfl rfl) h2
  refine (walk W (bits_of hL) a0 a1 w1 a2 v2 g2).mono fun e W' ⟨he, hg⟩ => ?_
  subst he
  exact ⟨_, rfl, law_post laid_ (by kernel_rfl) (by kernel_rfl) rfl Tryz.underlying4 hW' rfl hg⟩

theorem over : Rows.nodeSameRow.holds Tryz.pinned (OpenSpec.ofChange Rows.nodeSameSpec) :=
  OpenClaim.holds_of_wide 7 Tryz.f7 rfl rfl rfl rfl rfl rfl rfl ⟨rfl, rfl, rfl, rfl, rfl⟩ rfl rfl rfl rfl rfl (by kernel_rfl) Tryz.func7 (by kernel_rfl)
    (of_decide_eq_true (by kernel_rfl)) (by unfold Func.isWrapper; first | (rw [if_pos (by decide +kernel)]; kernel_rfl) | (rw [if_neg (by decide +kernel)]; exact ⟨rfl, rfl⟩))
    (fun os started H enc _ => lifted os started H enc)

set_option maxRecDepth 100000 in
theorem proved : Rows.NodeSameCardSaid :=
  Claim7.holds_tied_plain_at .later [] [.data] true (true, "67b0996c903ca52b6a14ede8c9960722141bb73d263f4f25cb690ebd8fa2589f") false
    over (fun _ h => by cases h) (by kernel_rfl) (fun _ h => by cases h) nodeSame_row_tie rfl ⟨rfl, rfl⟩ (by kernel_rfl) rfl
    (fun f fn hf hfn => by
      obtain rfl : f = 7 := Option.some.inj ((show Tryz.prog.funcNamed "chapbook/chapbooklaw18.NodeSame" = some 7 by kernel_rfl).symm.trans hf) |>.symm
      obtain rfl : fn = Tryz.f7 := (Option.some.inj (Tryz.func7.symm.trans hfn)).symm
      exact ⟨by kernel_rfl, fun j t ht => by
        rw [Tryz.params7] at ht
        have hm : t ∈ [23, 3, 24] := by
          have hm0 := Array.mem_of_getElem? ht
          simp only [List.mem_toArray, List.mem_cons, List.not_mem_nil, or_false] at hm0 ⊢
          omega
        have hall : ([23, 3, 24].all fun u => !Tryz.prog.wantsStandIn u) = true := by kernel_rfl
        have hx : Tryz.prog.wantsStandIn t = false := by simpa using List.all_eq_true.1 hall t hm
        exact hx⟩)
    (by kernel_rfl)
#print axioms proved
end Go.Proofs.YtndahppmjdbifaaGreatDoor.nodeSame

