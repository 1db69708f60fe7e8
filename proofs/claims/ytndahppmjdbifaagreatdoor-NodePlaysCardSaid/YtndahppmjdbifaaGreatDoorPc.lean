/-
  Part 3 of the proof: ClpC, CltC, NodC, NopC, NotC, NlkC, NplC, NtkC, StoC, RepC, NinM, LhpC, SamC, LawC, AwaM, AwaC, NsaC, NpsC, RefA, RefB, RefC, NstC, GetL, FrpL, FrqL, NpkC, RefD, RefE, Eng12.
-/
import Derived.Test.YtndahppmjdbifaaGreatDoorPb
import Derived.KernelRfl
set_option linter.unusedVariables false
set_option linter.unusedSimpArgs false
namespace Go.Proofs.YtndahppmjdbifaaGreatDoor.Cli
open Go Go.Proofs Eng Pre Val Rou Jnl Snd
section
variable {M : Mem} {w : World} {Ls : List Chunk}
theorem cpush_c {p jp : Nat} {m : Cli} {j : Jnl} {H Hj : Chunk} (hpl : m.pending.length ≤ 137438953) (hjl : j.l.length ≤ 137438953472) (hl : m.opn.length ≤ 13743895) (hb : IsC M p jp m H) (hj : IsJ M jp j Hj) (hS : St M w (H :: Hj :: Ls)) :
    CallsR Tryz.prog 91 [.pointer (some ⟨p, 0, none⟩)].toArray w fun v w' => ∃ M' s' H' Hj', Mle M M' ∧ Rd M' encU s' (m.pushR j).ups ∧ v = .tuple [rvS (m.pushR j) s', .int .i64 (m.pushE j)].toArray ∧ IsC M' p jp (m.pushC j) H' ∧ IsJ M' jp (m.pushJ j) Hj' ∧ St M' w' (H' :: Hj' :: Ls) := by
  have hb0 := hb
  obtain ⟨xs, sk, Hk, ys, sp, Hp, so, h1, h2, h3, h4, h5, rfl⟩ := hb
  have e4 := h4.len
  replace hS := hS.un2
  obtain ⟨oa, oc, rfl⟩ := (h5.holds hS).slice
  obtain ⟨pa, pc, rfl⟩ := h3.slice
  have hne : ∀ e : Nat, m.pushE j = e → e ≠ 0 → m.pushR j = ⟨0, 0, []⟩ ∧ m.pushC j = m ∧ m.pushJ j = j := by
    intro e he h0
    unfold Cli.pushR Cli.pushC Cli.pushJ
    rw [if_neg (by omega), if_neg (by omega), if_neg (by omega)]
    exact ⟨rfl, rfl, rfl⟩
  refine zC 57 Tryz.func91 rfl (zQ (zR (a_alloc z_48 hS rfl fun b2 w hS => zA rfl (zE (zQ (zB (zQ (zR (zM rfl (zN rfl (zF fl_168_6 rfl (wl (y_load pl_46 rfl (hS.c (v := .slice oa m.opn.length oc))) rfl (wl (y_len_sl Tryz.underlying46 rfl) rfl (wl (y_eql rfl rfl) rfl (zA rfl (zE (zIf rfl (fun hc6 => ?_) fun hc6 => ?_)))))))))))))))))
  · have he : m.pushE j = 11 := by unfold Cli.pushE; rw [if_pos (by omega)]
    obtain ⟨q1, q2, q3⟩ := hne _ he (by decide)
    rw [he, q1, q2, q3]
    refine zQ (zR (wl (y_build (is := []) (xs := []) (out := [_, _, _]) plc_48 z_48 .nil rfl) rfl (zG (vs := [_, _, _]) sz_48 rfl hS fun w hS => zA rfl (zE (zV (wret (vs := [_, _]) (.cell rfl (loadVar_struct st_48 sz_48 (vs := [_, _, _]) rfl (hS.cells rfl)) (.tmp rfl .nil)) ?_))))))
    first
    | exact ⟨M, _, _, _, Mle.refl _, Rd.nil, rfl, hb0, hj, hS.keep⟩
    | exact ⟨M1, _, _, _, hM1, Rd.nil, rfl, hb0.mono hM1, hj1, hS.keep⟩
    | (simp only [zL, cells_agg, setCells] at hS
       exact ⟨M2, _, _, _, hM1.trans hM2, hs1.mono hM2, rfl, ⟨_, _, _, _, _, _, _, h1, h2.mono (hM1.trans hM2), ho3, ((h4.mono hM1).mono hM2).append (.cons (x := ⟨(j.next m.opn).o, (j.next m.opn).n, sa2, m.opn.length, sc2⟩) ⟨rfl, rfl, hs2, show m.opn.length ≤ 137438953472 by omega⟩ .nil), Rd.nil (a := none) (c := 0), rfl⟩, hj1.mono hM2, hS.keep⟩)
  refine zQ ?_
  refine zW hS (fun w => w.cell? ⟨p, 5, none⟩ = some (.slice pa ys.length pc) ∧ w.cell? ⟨p, 3, none⟩ = some (.int .i64 m.push)) [] wide_ rfl fun w hS => zPm 0 1 rfl (zPn 1 3 rfl (zPf 2 7 fl_168_5 rfl (zPm 5 39 rfl (zPn 6 103 rfl (zPf 7 231 fl_168_3 rfl (zD 3 239 rfl ⟨hS.c, hS.c⟩ (fun w hS => y_load pl_32 rfl hS.1) (zP 4 255 rfl (fun w => y_len_sl Tryz.underlying32 rfl) (zD 8 511 rfl ⟨hS.c, hS.c⟩ (fun w hS => y_load pl_3 rfl hS.2) (zP 9 1023 rfl (fun w => y_geq rfl rfl) (zPa 10 2047 rfl (zH (zIf rfl (fun hc14 => ?_) fun hc14 => ?_))))))))))))
  · have he : m.pushE j = 7 := by unfold Cli.pushE; rw [if_neg (by omega), if_pos (by omega)]
    obtain ⟨q1, q2, q3⟩ := hne _ he (by decide)
    rw [he, q1, q2, q3]
    refine zQ (zR (wl (y_build (is := []) (xs := []) (out := [_, _, _]) plc_48 z_48 .nil rfl) rfl (zG (vs := [_, _, _]) sz_48 rfl hS fun w hS => zA rfl (zE (zV (wret (vs := [_, _]) (.cell rfl (loadVar_struct st_48 sz_48 (vs := [_, _, _]) rfl (hS.cells rfl)) (.tmp rfl .nil)) ?_))))))
    first
    | exact ⟨M, _, _, _, Mle.refl _, Rd.nil, rfl, hb0, hj, hS.keep⟩
    | exact ⟨M1, _, _, _, hM1, Rd.nil, rfl, hb0.mono hM1, hj1, hS.keep⟩
    | (simp only [zL, cells_agg, setCells] at hS
       exact ⟨M2, _, _, _, hM1.trans hM2, hs1.mono hM2, rfl, ⟨_, _, _, _, _, _, _, h1, h2.mono (hM1.trans hM2), ho3, ((h4.mono hM1).mono hM2).append (.cons (x := ⟨(j.next m.opn).o, (j.next m.opn).n, sa2, m.opn.length, sc2⟩) ⟨rfl, rfl, hs2, show m.opn.length ≤ 137438953472 by omega⟩ .nil), Rd.nil (a := none) (c := 0), rfl⟩, hj1.mono hM2, hS.keep⟩)
  have hea : m.pushE j = j.addE m.opn := by unfold Cli.pushE; rw [if_neg (by omega), if_neg (by omega)]
  refine zK (zQ (zW hS (fun w => w.cell? ⟨p, 0, none⟩ = some (.pointer (some ⟨jp, 0, none⟩)) ∧ w.cell? ⟨p, 6, none⟩ = some (.slice oa m.opn.length oc)) [13, 14] wide_ rfl fun w hS => zPm 0 1 rfl (zPn 1 3 rfl (zPf 2 7 fl_168_0 rfl (zPm 4 23 rfl (zPn 5 55 rfl (zPf 6 119 fl_168_6 rfl (zD 3 127 rfl ⟨hS.c, hS.c⟩ (fun w hS => y_load pl_93 rfl hS.1) (zD 7 255 rfl ⟨hS.c, hS.c⟩ (fun w hS => y_load pl_46 rfl hS.2) (dr_do2 (i := 8) (j := 12) (lb 15 511) (lb 15 4351) rfl rfl (by kernel_rfl) ?_ ?_))))))))))
  · refine wl_call (.cons rfl (.cons rfl .nil)) (jadd_c m.opn _ h5 (by omega) hjl hj (hS.pull Hj)) rfl ?_
    rintro _ w ⟨M1, s1, Hj1, hM1, hs1, rfl, hj1, hS⟩
    obtain ⟨sa1, sc1, rfl⟩ := (hs1.holds hS).slice
    refine zE ⟨fun _ _ => ⟨hS.c, hS.c⟩, zPm 9 1023 rfl (zPx 10 2047 rfl (zPx 11 4095 rfl (zU 12 8191 rfl (a_alloc z_48 hS rfl fun b4 w hS => zE ⟨fun _ _ => ⟨hS.c, hS.c⟩, zU 13 16383 rfl (zG (vs := [_, _, _]) sz_48 rfl hS fun w hS => zE ⟨fun h => absurd (by decide) h, zPa 14 32767 rfl (zH (zQ (zQ (zR (zM rfl (wl (y_neq rfl rfl) rfl (zE (zIf rfl (fun hc39 => ?_) fun hc39 => ?_))))))))⟩)⟩))))⟩
    · obtain ⟨q1, q2, q3⟩ := hne _ hea (by omega)
      have hja : j.add m.opn = j := by unfold Jnl.add; rw [if_neg (by omega)]
      rw [hja] at hj1
      rw [hea, q1, q2, q3]
      refine zQ (zR (wl (y_build (is := []) (xs := []) (out := [_, _, _]) plc_48 z_48 .nil rfl) rfl (zM rfl (zG (vs := [_, _, _]) sz_48 rfl hS fun w hS => zA rfl (zE (zV (wret (vs := [_, _]) (.cell rfl (loadVar_struct st_48 sz_48 (vs := [_, _, _]) rfl (hS.cells rfl)) (.tmp rfl .nil)) ?_)))))))
      first
      | exact ⟨M, _, _, _, Mle.refl _, Rd.nil, rfl, hb0, hj, hS.keep⟩
      | exact ⟨M1, _, _, _, hM1, Rd.nil, rfl, hb0.mono hM1, hj1, hS.keep⟩
      | (simp only [zL, cells_agg, setCells] at hS
         exact ⟨M2, _, _, _, hM1.trans hM2, hs1.mono hM2, rfl, ⟨_, _, _, _, _, _, _, h1, h2.mono (hM1.trans hM2), ho3, ((h4.mono hM1).mono hM2).append (.cons (x := ⟨(j.next m.opn).o, (j.next m.opn).n, sa2, m.opn.length, sc2⟩) ⟨rfl, rfl, hs2, show m.opn.length ≤ 137438953472 by omega⟩ .nil), Rd.nil (a := none) (c := 0), rfl⟩, hj1.mono hM2, hS.keep⟩)
    have hz : j.addE m.opn = 0 := by omega
    rw [if_pos hz] at hs1
    rw [if_pos hz, if_pos hz] at hS
    have q1 : m.pushR j = j.next m.opn := by unfold Cli.pushR; rw [if_pos (by omega)]
    have q2 : m.pushC j = { m with opn := [], pending := m.pending ++ [j.next m.opn] } := by unfold Cli.pushC; rw [if_pos (by omega)]
    have q3 : m.pushJ j = j.add m.opn := by unfold Cli.pushJ; rw [if_pos (by omega)]
    rw [hea, q1, q2, q3, hz]
    refine zK (zQ (zR (zM rfl (zN rfl (zF fl_168_6 rfl (zS sz_46 rfl hS fun w hS => zE (zQ (zW hS (fun w => w.cell? ⟨p, 5, none⟩ = some (.slice pa ys.length pc) ∧ CellsAt w b4 0 [.int .i64 (j.next m.opn).o, .int .i64 (j.next m.opn).n, .slice sa1 m.opn.length sc1]) [8, 11] wide_ rfl fun w hS => zPm 0 1 rfl (zPm 1 3 rfl (zPn 2 7 rfl (zPf 3 15 fl_168_5 rfl (zD 4 31 rfl ⟨hS.c, hS.cells rfl⟩ (fun w hS => y_load pl_32 rfl hS.1) (zD 5 63 rfl ⟨hS.c, hS.cells rfl⟩ (fun w hS => y_loadS st_48 sz_48 rfl hS.2 rfl) (zU 6 127 rfl (wl_call (.cons rfl .nil) (rcopy_c (j.next m.opn) (.slice sa1 m.opn.length sc1) (show m.opn.length ≤ 137438953472 by omega) hs1 hS) rfl ?_)))))))))))))))
    rintro _ w ⟨M2, s2, rfl, hM2, hs2, hS⟩
    obtain ⟨sa2, sc2, rfl⟩ := (hs2.holds hS).slice
    refine zE ⟨fun _ _ => ⟨hS.c, hS.cells rfl⟩, zU 7 255 rfl (a_bslice encRV [⟨(j.next m.opn).o, (j.next m.opn).n, sa2, m.opn.length, sc2⟩] Tryz.underlying32 sz_48 z_48 rfl (.cons rfl .nil) rfl rfl rfl (by decide) hS rfl fun u Hu w hou hS => zE ⟨fun _ _ => ⟨hS.c, hS.cells rfl⟩, zU 8 511 rfl (a_append Tryz.underlying32 Tryz.underlying32 sz_48 z_48 rfl by_48 (by decide) rfl rfl h3 (hou.holds hS) hS (by simp; omega) rfl fun s3 H3 w ho3 hS => ?_)⟩)⟩
    obtain ⟨sa3, sc3, rfl⟩ := ho3.slice
    refine zE ⟨fun h => absurd (by decide) h, zPn 9 1023 rfl (zPf 10 2047 fl_168_5 rfl (zU 11 4095 rfl (zS sz_32 rfl hS fun w hS => zE ⟨fun h => absurd (by decide) h, zH (zQ (zR (wl (y_loadS st_48 sz_48 rfl (hS.cells (vs := [_, _, _]) rfl) rfl) rfl (zG (vs := [_, _, _]) sz_48 rfl hS fun w hS => zA rfl (zE (zV (wret (vs := [_, _]) (.cell rfl (loadVar_struct st_48 sz_48 (vs := [_, _, _]) rfl (hS.cells rfl)) (.tmp rfl .nil)) ?_)))))))⟩)))⟩
    first
    | exact ⟨M, _, _, _, Mle.refl _, Rd.nil, rfl, hb0, hj, hS.keep⟩
    | exact ⟨M1, _, _, _, hM1, Rd.nil, rfl, hb0.mono hM1, hj1, hS.keep⟩
    | (simp only [zL, cells_agg, setCells] at hS
       exact ⟨M2, _, _, _, hM1.trans hM2, hs1.mono hM2, rfl, ⟨_, _, _, _, _, _, _, h1, h2.mono (hM1.trans hM2), ho3, ((h4.mono hM1).mono hM2).append (.cons (x := ⟨(j.next m.opn).o, (j.next m.opn).n, sa2, m.opn.length, sc2⟩) ⟨rfl, rfl, hs2, show m.opn.length ≤ 137438953472 by omega⟩ .nil), Rd.nil (a := none) (c := 0), rfl⟩, hj1.mono hM2, hS.keep⟩)
  refine a_alloc z_48 hS rfl fun b4 w hS => ?_
  refine zE ⟨fun _ _ => ⟨hS.c, hS.c⟩, zU 8 4607 rfl (wl_call (.cons rfl (.cons rfl .nil)) (jadd_c m.opn _ h5 (by omega) hjl hj (hS.pull Hj)) rfl ?_)⟩
  rintro _ w ⟨M1, s1, Hj1, hM1, hs1, rfl, hj1, hS⟩
  obtain ⟨sa1, sc1, rfl⟩ := (hs1.holds hS).slice
  refine zE ⟨fun _ _ => ⟨hS.c, hS.c⟩, zPm 9 5119 rfl (zPx 10 6143 rfl (zPx 11 8191 rfl (zU 13 16383 rfl (zG (vs := [_, _, _]) sz_48 rfl hS fun w hS => zE ⟨fun h => absurd (by decide) h, zPa 14 32767 rfl (zH (zQ (zQ (zR (zM rfl (wl (y_neq rfl rfl) rfl (zE (zIf rfl (fun hc39 => ?_) fun hc39 => ?_))))))))⟩))))⟩
  · obtain ⟨q1, q2, q3⟩ := hne _ hea (by omega)
    have hja : j.add m.opn = j := by unfold Jnl.add; rw [if_neg (by omega)]
    rw [hja] at hj1
    rw [hea, q1, q2, q3]
    refine zQ (zR (wl (y_build (is := []) (xs := []) (out := [_, _, _]) plc_48 z_48 .nil rfl) rfl (zM rfl (zG (vs := [_, _, _]) sz_48 rfl hS fun w hS => zA rfl (zE (zV (wret (vs := [_, _]) (.cell rfl (loadVar_struct st_48 sz_48 (vs := [_, _, _]) rfl (hS.cells rfl)) (.tmp rfl .nil)) ?_)))))))
    first
    | exact ⟨M, _, _, _, Mle.refl _, Rd.nil, rfl, hb0, hj, hS.keep⟩
    | exact ⟨M1, _, _, _, hM1, Rd.nil, rfl, hb0.mono hM1, hj1, hS.keep⟩
    | (simp only [zL, cells_agg, setCells] at hS
       exact ⟨M2, _, _, _, hM1.trans hM2, hs1.mono hM2, rfl, ⟨_, _, _, _, _, _, _, h1, h2.mono (hM1.trans hM2), ho3, ((h4.mono hM1).mono hM2).append (.cons (x := ⟨(j.next m.opn).o, (j.next m.opn).n, sa2, m.opn.length, sc2⟩) ⟨rfl, rfl, hs2, show m.opn.length ≤ 137438953472 by omega⟩ .nil), Rd.nil (a := none) (c := 0), rfl⟩, hj1.mono hM2, hS.keep⟩)
  have hz : j.addE m.opn = 0 := by omega
  rw [if_pos hz] at hs1
  rw [if_pos hz, if_pos hz] at hS
  have q1 : m.pushR j = j.next m.opn := by unfold Cli.pushR; rw [if_pos (by omega)]
  have q2 : m.pushC j = { m with opn := [], pending := m.pending ++ [j.next m.opn] } := by unfold Cli.pushC; rw [if_pos (by omega)]
  have q3 : m.pushJ j = j.add m.opn := by unfold Cli.pushJ; rw [if_pos (by omega)]
  rw [hea, q1, q2, q3, hz]
  refine zK (zQ (zR (zM rfl (zN rfl (zF fl_168_6 rfl (zS sz_46 rfl hS fun w hS => zE (zQ (zW hS (fun w => w.cell? ⟨p, 5, none⟩ = some (.slice pa ys.length pc) ∧ CellsAt w b4 0 [.int .i64 (j.next m.opn).o, .int .i64 (j.next m.opn).n, .slice sa1 m.opn.length sc1]) [8, 11] wide_ rfl fun w hS => zPm 0 1 rfl (zPm 1 3 rfl (zPn 2 7 rfl (zPf 3 15 fl_168_5 rfl (zD 4 31 rfl ⟨hS.c, hS.cells rfl⟩ (fun w hS => y_load pl_32 rfl hS.1) (zD 5 63 rfl ⟨hS.c, hS.cells rfl⟩ (fun w hS => y_loadS st_48 sz_48 rfl hS.2 rfl) (zU 6 127 rfl (wl_call (.cons rfl .nil) (rcopy_c (j.next m.opn) (.slice sa1 m.opn.length sc1) (show m.opn.length ≤ 137438953472 by omega) hs1 hS) rfl ?_)))))))))))))))
  rintro _ w ⟨M2, s2, rfl, hM2, hs2, hS⟩
  obtain ⟨sa2, sc2, rfl⟩ := (hs2.holds hS).slice
  refine zE ⟨fun _ _ => ⟨hS.c, hS.cells rfl⟩, zU 7 255 rfl (a_bslice encRV [⟨(j.next m.opn).o, (j.next m.opn).n, sa2, m.opn.length, sc2⟩] Tryz.underlying32 sz_48 z_48 rfl (.cons rfl .nil) rfl rfl rfl (by decide) hS rfl fun u Hu w hou hS => zE ⟨fun _ _ => ⟨hS.c, hS.cells rfl⟩, zU 8 511 rfl (a_append Tryz.underlying32 Tryz.underlying32 sz_48 z_48 rfl by_48 (by decide) rfl rfl h3 (hou.holds hS) hS (by simp; omega) rfl fun s3 H3 w ho3 hS => ?_)⟩)⟩
  obtain ⟨sa3, sc3, rfl⟩ := ho3.slice
  refine zE ⟨fun h => absurd (by decide) h, zPn 9 1023 rfl (zPf 10 2047 fl_168_5 rfl (zU 11 4095 rfl (zS sz_32 rfl hS fun w hS => zE ⟨fun h => absurd (by decide) h, zH (zQ (zR (wl (y_loadS st_48 sz_48 rfl (hS.cells (vs := [_, _, _]) rfl) rfl) rfl (zG (vs := [_, _, _]) sz_48 rfl hS fun w hS => zA rfl (zE (zV (wret (vs := [_, _]) (.cell rfl (loadVar_struct st_48 sz_48 (vs := [_, _, _]) rfl (hS.cells rfl)) (.tmp rfl .nil)) ?_)))))))⟩)))⟩
  first
  | exact ⟨M, _, _, _, Mle.refl _, Rd.nil, rfl, hb0, hj, hS.keep⟩
  | exact ⟨M1, _, _, _, hM1, Rd.nil, rfl, hb0.mono hM1, hj1, hS.keep⟩
  | (simp only [zL, cells_agg, setCells] at hS
     exact ⟨M2, _, _, _, hM1.trans hM2, hs1.mono hM2, rfl, ⟨_, _, _, _, _, _, _, h1, h2.mono (hM1.trans hM2), ho3, ((h4.mono hM1).mono hM2).append (.cons (x := ⟨(j.next m.opn).o, (j.next m.opn).n, sa2, m.opn.length, sc2⟩) ⟨rfl, rfl, hs2, show m.opn.length ≤ 137438953472 by omega⟩ .nil), Rd.nil (a := none) (c := 0), rfl⟩, hj1.mono hM2, hS.keep⟩)
end
end Go.Proofs.YtndahppmjdbifaaGreatDoor.Cli
set_option linter.unusedVariables false
set_option linter.unusedSimpArgs false
namespace Go.Proofs.YtndahppmjdbifaaGreatDoor.Cli
open Go Go.Proofs Eng Pre Val Rou Jnl Snd
theorem _root_.Go.Proofs.YtndahppmjdbifaaGreatDoor.Eng.Holds.cellAt {α : Type} {A : Enc α} {w : World} {b off m c i j : Nat} {xs : List α} {x : α} {v : Value} (h : Holds w A (.slice (some ⟨b, off, none⟩) m c) xs) (hx : xs[i]? = some x) (hv : (A.f x)[j]? = some v) : w.cell? ⟨b, off + i * A.k + j, none⟩ = some v := by
  obtain ⟨b', off', c', hse, hce⟩ := h.at hx
  simp only [Value.slice.injEq, Option.some.injEq, Addr.mk.injEq] at hse
  obtain ⟨⟨rfl, rfl, _⟩, _⟩ := hse
  exact hce j v hv
section
variable {M : Mem} {w : World} {Ls : List Chunk}
theorem cresume_c {p jp : Nat} {m : Cli} {j : Jnl} {H Hj : Chunk} (hjl : j.l.length ≤ 137438953472) (hb : IsC M p jp m H) (hj : IsJ M jp j Hj) (hS : St M w (H :: Hj :: Ls)) :
    CallsR Tryz.prog 57 [.pointer (some ⟨p, 0, none⟩)].toArray w fun v w' => ∃ M' H', Mle M M' ∧ v = .tuple #[] ∧ IsC M' p jp (m.resume j) H' ∧ IsJ M' jp j Hj ∧ St M' w' (H' :: Hj :: Ls) := by
  obtain ⟨xs, sk, Hk, ys, sp, Hp, so, h1, h2, h3, h4, h5, rfl⟩ := hb
  replace hS := hS.un2
  refine zC 16 Tryz.func57 rfl (zR (zM rfl (zM rfl (zM rfl (zM rfl (zN rfl (zF fl_168_0 rfl (wl (y_load pl_93 rfl (hS.c (v := .pointer (some ⟨jp, 0, none⟩)))) rfl (wl_call (.cons rfl (.cons rfl .nil)) (jfrom_c 0 hjl hj (hS.pull Hj)) rfl ?_)))))))))
  rintro v w ⟨M1, zs, Hz, hM, ho, hr, hj1, hS⟩
  obtain ⟨za, zc, rfl⟩ := ho.slice
  refine zN rfl (zF fl_168_4 rfl (zS sz_32 rfl hS fun w hS => zN rfl (zF fl_168_6 rfl (zS sz_46 rfl hS fun w hS => zN rfl (zF fl_168_5 rfl (zS sz_32 rfl hS fun w hS => zE (wretN (vs := []) .nil ?_)))))))
  simp only [zL, cells_agg, setCells] at hS
  exact ⟨M1, _, hM, rfl, ⟨[], .slice none 0 0, [], zs, _, Hz, .slice none 0 0, .nil, .nil, ho, hr, .nil, rfl⟩, hj1, by have h := hS.keep (T := ((p, cliO jp m (.slice none 0 0) (.slice za zs.length zc) (.slice none 0 0)) :: Hz) :: Hj :: Ls); exact h⟩
theorem ctake_c {p jp : Nat} {m : Cli} {H : Chunk} (r : Rnd) (s : Value) (hul : r.ups.length ≤ 137438953472) (hs : Rd M encU s r.ups) (hkl : m.known.length ≤ 137438953) (hb : IsC M p jp m H) (hS : St M w (H :: Ls)) :
    CallsR Tryz.prog 82 [.pointer (some ⟨p, 0, none⟩), rvS r s].toArray w fun v w' => ∃ M' H', Mle M M' ∧ v = .int .i64 (m.takE r) ∧ IsC M' p jp (m.take r) H' ∧ St M' w' (H' :: Ls) := by
  have hb0 := hb
  have hs0 := hs
  obtain ⟨xs, sk, Hk, ys, sp, Hp, so, h1, h2, h3, h4, h5, rfl⟩ := hb
  have e2 := h2.len
  have e4 := h4.len
  replace hS := hS.un2
  obtain ⟨sa, sc, rfl⟩ := (hs.holds hS).slice
  obtain ⟨ka, kc, rfl⟩ := h1.slice
  obtain ⟨pa, pc, rfl⟩ := h3.slice
  by_cases ho : r.o = m.origin
  · cases hp : m.pending with
    | nil =>
      have he : m.takE r = 10 := by unfold Cli.takE; rw [if_pos ho, hp]
      have hq : m.take r = m := by unfold Cli.take; rw [if_neg (by omega)]
      rw [hp] at e4
      rw [he, hq]
      refine zC 49 Tryz.func82 rfl (zQ (zR (a_box rfl hS rfl fun b3 w hS => zA rfl (zE (zQ (zQ (zW hS (fun w => w.cell? ⟨b3, 0, none⟩ = some (.int .i64 r.o) ∧ w.cell? ⟨p, 1, none⟩ = some (.int .i64 m.origin)) [] wide_ rfl fun w hS => zPf 0 1 fl_48_0 rfl (zPm 2 5 rfl (zPn 3 13 rfl (zPf 4 29 fl_168_1 rfl (zD 1 31 rfl ⟨hS.c, hS.c⟩ (fun w hS => y_load pl_3 rfl hS.1) (zD 5 63 rfl ⟨hS.c, hS.c⟩ (fun w hS => y_load pl_3 rfl hS.2) (zP 6 127 rfl (fun w => y_eql rfl rfl) (zH (wc_ifT rfl (decide_eq_true ho) (zQ (zQ (zW hS (fun w => w.cell? ⟨p, 5, none⟩ = some (.slice pa ys.length pc)) [] wide_ rfl fun w hS => zPm 0 1 rfl (zPn 1 3 rfl (zPf 2 7 fl_168_5 rfl (zD 3 15 rfl (hS.cell rfl) (fun w hS => y_load pl_32 rfl hS) (zP 4 31 rfl (fun w => y_len_sl Tryz.underlying32 rfl) (zP 5 63 rfl (fun w => (y_eql rfl rfl).val (u := .bool true) (congrArg Value.bool (decide_eq_true (by simpa using e4)))) (zPm 6 127 rfl (zDO 7 255 rfl (zDO 8 511 rfl (zDO 9 1023 rfl (zDO 14 17407 rfl (zDO 10 18431 rfl (zDO 11 20479 rfl (zDO 12 24575 rfl (zDO 13 32767 rfl (zDO 15 65535 rfl (zDO 16 131071 rfl (zP 17 262143 rfl (fun w => y_pickT rfl rfl) (zH (wc_ifT rfl (rfl) (zQ (zR (zA rfl (zE (zV (z1 rfl ?_)))))))))))))))))))))))))))))))))))))))))))
      exact ⟨M, _, Mle.refl _, rfl, hb0, hS.keep⟩
    | cons x0 rest =>
      have hx := h4.at (i := 0) (r := x0) (by rw [hp] <;> rfl)
      obtain ⟨y0, hy0, hyr⟩ := hx
      have hd := hyr.2.1
      rw [hp] at e4
      simp only [List.length_cons] at e4
      obtain ⟨bb, off, c', hse, hce⟩ := (h3.holds (hS.pull Hp)).at hy0
      simp only [Value.slice.injEq] at hse
      have hSk := hS
      obtain ⟨rfl, _, rfl⟩ := hse
      replace hS := hSk
      refine zC 49 Tryz.func82 rfl (zQ (zR (a_box rfl hS rfl fun b3 w hS => zA rfl (zE (zQ (zQ (zW hS (fun w => w.cell? ⟨b3, 0, none⟩ = some (.int .i64 r.o) ∧ w.cell? ⟨p, 1, none⟩ = some (.int .i64 m.origin)) [] wide_ rfl fun w hS => zPf 0 1 fl_48_0 rfl (zPm 2 5 rfl (zPn 3 13 rfl (zPf 4 29 fl_168_1 rfl (zD 1 31 rfl ⟨hS.c, hS.c⟩ (fun w hS => y_load pl_3 rfl hS.1) (zD 5 63 rfl ⟨hS.c, hS.c⟩ (fun w hS => y_load pl_3 rfl hS.2) (zP 6 127 rfl (fun w => y_eql rfl rfl) (zH (wc_ifT rfl (decide_eq_true ho) (zQ (zQ (zW hS (fun w => w.cell? ⟨p, 5, none⟩ = some (.slice (some ⟨bb, off, none⟩) ys.length pc) ∧ Holds w encRV (.slice (some ⟨bb, off, none⟩) ys.length pc) ys ∧ w.cell? ⟨b3, 1, none⟩ = some (.int .i64 r.n)) [] wide_ rfl fun w hS => zPm 0 1 rfl (zPn 1 3 rfl (zPf 2 7 fl_168_5 rfl (zD 3 15 rfl ⟨hS.c, h3.holds (hS.pull Hp), hS.c⟩ (fun w hS => y_load pl_32 rfl hS.1) (zP 4 31 rfl (fun w => y_len_sl Tryz.underlying32 rfl) (zP 5 63 rfl (fun w => (y_eql rfl rfl).val (u := .bool false) (congrArg Value.bool (decide_eq_false (by omega)))) (zPm 6 127 rfl (zPG 7 255 rfl (fun w => y_move rfl) (zPG 8 511 rfl (fun w => y_nil rfl) (zPG 9 1023 rfl (fun w => y_fld fl_168_5 rfl) (zPG 14 17407 rfl (fun w => y_fld fl_48_1 rfl) (zDG 10 18431 rfl ⟨hS.c, h3.holds (hS.pull Hp), hS.c⟩ (fun w hS => y_load pl_32 rfl hS.1) (zPG 11 20479 rfl (fun w => y_ixa_sl Tryz.underlying32 sz_48 rfl rfl (by omega) (by omega)) (zPG 12 24575 rfl (fun w => y_fld fl_48_1 rfl) (zDG 13 32767 rfl ⟨hS.c, h3.holds (hS.pull Hp), hS.c⟩ (fun w hS => y_load pl_3 rfl (hS.2.1.cellAt hy0 (j := 1) rfl)) (zDG 15 65535 rfl ⟨hS.c, h3.holds (hS.pull Hp), hS.c⟩ (fun w hS => y_load pl_3 rfl hS.2.2) (zPG 16 131071 rfl (fun w => y_neq rfl rfl) (zP 17 262143 rfl (fun w => y_pickF rfl rfl) (zH (zIf rfl (fun hc29 => ?_) fun hc29 => ?_)))))))))))))))))))))))))))))))))))))
      · have he : m.takE r = 10 := by unfold Cli.takE; rw [if_pos ho, hp]; simp only []; rw [if_neg (by omega)]
        have hq : m.take r = m := by unfold Cli.take; rw [if_neg (by omega)]
        rw [he, hq]
        refine zQ (zR (zA rfl (zE (zV (z1 rfl ?_)))))
        first
        | exact ⟨M, _, Mle.refl _, rfl, hb0, hS.keep⟩
        | (simp only [zL, cells_agg, setCells] at hS
           exact ⟨M2, _, hM2, rfl, ⟨_, _, H3, _, _, Hp, so, ho3, (h2.mono hM2).append (.cons (x := ⟨r.o, r.n, sa2, r.ups.length, sc2⟩) ⟨rfl, rfl, hs2, hul⟩ .nil), hcut, hdr.mono hM2, h5.mono hM2, rfl⟩, hS.keep⟩)
      have he : m.takE r = 0 := by unfold Cli.takE; rw [if_pos ho, hp]; simp only []; rw [if_pos (by omega)]
      have hq : m.take r = { m with known := m.known ++ [r], pending := rest } := by unfold Cli.take; rw [if_pos he, if_pos ho, hp] <;> rfl
      rw [he, hq]
      have hcut := cutFrom (k := 1) h3 (by omega)
      have hdr := h4.drop 1
      rw [hp, show (x0 :: rest).drop 1 = rest from rfl] at hdr
      generalize hcv : cutV _ _ _ _ _ = sq at hcut
      obtain ⟨qa, qc, rfl⟩ := hcut.slice
      refine zK (zR (zM rfl (zM rfl (zN rfl (zF fl_168_5 rfl (wl (y_load pl_32 rfl (hS.cell rfl)) rfl (wl ((y_slFrom (lv := 1) Tryz.underlying32 sz_48 rfl rfl (by omega) (by omega) (by omega)).val hcv) rfl (zN rfl (zF fl_168_5 rfl (zS sz_32 rfl hS fun w hS => zE (zQ (zW hS (fun w => w.cell? ⟨p, 4, none⟩ = some (.slice ka xs.length kc) ∧ CellsAt w b3 0 [.int .i64 r.o, .int .i64 r.n, .slice sa r.ups.length sc]) [8, 11] wide_ rfl fun w hS => zPm 0 1 rfl (zPm 1 3 rfl (zPn 2 7 rfl (zPf 3 15 fl_168_4 rfl (zD 4 31 rfl ⟨hS.c, hS.cells rfl⟩ (fun w hS => y_load pl_32 rfl hS.1) (zD 5 63 rfl ⟨hS.c, hS.cells rfl⟩ (fun w hS => y_loadS st_48 sz_48 rfl hS.2 rfl) (zU 6 127 rfl (wl_call (.cons rfl .nil) (rcopy_c r (.slice sa r.ups.length sc) hul hs0 hS) rfl ?_)))))))))))))))))))
      rintro _ w ⟨M2, s2, rfl, hM2, hs2, hS⟩
      obtain ⟨sa2, sc2, rfl⟩ := (hs2.holds hS).slice
      refine zE ⟨fun _ _ => ⟨hS.c, hS.cells rfl⟩, zU 7 255 rfl (a_bslice encRV [⟨r.o, r.n, sa2, r.ups.length, sc2⟩] Tryz.underlying32 sz_48 z_48 rfl (.cons rfl .nil) rfl rfl rfl (by decide) hS rfl fun u Hu w hou hS => zE ⟨fun _ _ => ⟨hS.c, hS.cells rfl⟩, zU 8 511 rfl (a_append Tryz.underlying32 Tryz.underlying32 sz_48 z_48 rfl by_48 (by decide) rfl rfl h1 (hou.holds hS) hS (by simp; omega) rfl fun s3 H3 w ho3 hS => ?_)⟩)⟩
      obtain ⟨sa3, sc3, rfl⟩ := ho3.slice
      refine zE ⟨fun h => absurd (by decide) h, zPn 9 1023 rfl (zPf 10 2047 fl_168_4 rfl (zU 11 4095 rfl (zS sz_32 rfl hS fun w hS => zE ⟨fun h => absurd (by decide) h, zH (zQ (zR (zA rfl (zE (zV (z1 rfl ?_))))))⟩)))⟩
      first
      | exact ⟨M, _, Mle.refl _, rfl, hb0, hS.keep⟩
      | (simp only [zL, cells_agg, setCells] at hS
         exact ⟨M2, _, hM2, rfl, ⟨_, _, H3, _, _, Hp, so, ho3, (h2.mono hM2).append (.cons (x := ⟨r.o, r.n, sa2, r.ups.length, sc2⟩) ⟨rfl, rfl, hs2, hul⟩ .nil), hcut, hdr.mono hM2, h5.mono hM2, rfl⟩, hS.keep⟩)
  have he : m.takE r = 0 := by unfold Cli.takE; rw [if_neg ho]
  have hq : m.take r = { m with known := m.known ++ [r] } := by unfold Cli.take; rw [if_pos he, if_neg ho]
  rw [he, hq]
  refine zC 49 Tryz.func82 rfl (zQ (zR (a_box rfl hS rfl fun b3 w hS => zA rfl (zE (zQ (zQ (zW hS (fun w => w.cell? ⟨b3, 0, none⟩ = some (.int .i64 r.o) ∧ w.cell? ⟨p, 1, none⟩ = some (.int .i64 m.origin)) [] wide_ rfl fun w hS => zPf 0 1 fl_48_0 rfl (zPm 2 5 rfl (zPn 3 13 rfl (zPf 4 29 fl_168_1 rfl (zD 1 31 rfl ⟨hS.c, hS.c⟩ (fun w hS => y_load pl_3 rfl hS.1) (zD 5 63 rfl ⟨hS.c, hS.c⟩ (fun w hS => y_load pl_3 rfl hS.2) (zP 6 127 rfl (fun w => y_eql rfl rfl) (zH (wc_ifF rfl (decide_eq_false ho) (zK (zQ (zW hS (fun w => w.cell? ⟨p, 4, none⟩ = some (.slice ka xs.length kc) ∧ CellsAt w b3 0 [.int .i64 r.o, .int .i64 r.n, .slice sa r.ups.length sc]) [8, 11] wide_ rfl fun w hS => zPm 0 1 rfl (zPm 1 3 rfl (zPn 2 7 rfl (zPf 3 15 fl_168_4 rfl (zD 4 31 rfl ⟨hS.c, hS.cells rfl⟩ (fun w hS => y_load pl_32 rfl hS.1) (zD 5 63 rfl ⟨hS.c, hS.cells rfl⟩ (fun w hS => y_loadS st_48 sz_48 rfl hS.2 rfl) (zU 6 127 rfl (wl_call (.cons rfl .nil) (rcopy_c r (.slice sa r.ups.length sc) hul hs0 hS) rfl ?_)))))))))))))))))))))))))
  rintro _ w ⟨M2, s2, rfl, hM2, hs2, hS⟩
  obtain ⟨sa2, sc2, rfl⟩ := (hs2.holds hS).slice
  refine zE ⟨fun _ _ => ⟨hS.c, hS.cells rfl⟩, zU 7 255 rfl (a_bslice encRV [⟨r.o, r.n, sa2, r.ups.length, sc2⟩] Tryz.underlying32 sz_48 z_48 rfl (.cons rfl .nil) rfl rfl rfl (by decide) hS rfl fun u Hu w hou hS => zE ⟨fun _ _ => ⟨hS.c, hS.cells rfl⟩, zU 8 511 rfl (a_append Tryz.underlying32 Tryz.underlying32 sz_48 z_48 rfl by_48 (by decide) rfl rfl h1 (hou.holds hS) hS (by simp; omega) rfl fun s3 H3 w ho3 hS => ?_)⟩)⟩
  obtain ⟨sa3, sc3, rfl⟩ := ho3.slice
  refine zE ⟨fun h => absurd (by decide) h, zPn 9 1023 rfl (zPf 10 2047 fl_168_4 rfl (zU 11 4095 rfl (zS sz_32 rfl hS fun w hS => zE ⟨fun h => absurd (by decide) h, zH (zQ (zR (zA rfl (zE (zV (z1 rfl ?_))))))⟩)))⟩
  simp only [zL, cells_agg, setCells] at hS
  exact ⟨M2, _, hM2, rfl, ⟨_, _, H3, _, _, Hp, so, ho3, (h2.mono hM2).append (.cons (x := ⟨r.o, r.n, sa2, r.ups.length, sc2⟩) ⟨rfl, rfl, hs2, hul⟩ .nil), h3, h4.mono hM2, h5.mono hM2, rfl⟩, hS.keep⟩
end
end Go.Proofs.YtndahppmjdbifaaGreatDoor.Cli
set_option linter.unusedVariables false
set_option linter.unusedSimpArgs false
namespace Go.Proofs.YtndahppmjdbifaaGreatDoor.Nod
open Go Go.Proofs Eng Pre Val Rou Fra Go.Proofs.YtndahppmjdbifaaGreatDoor.Snd Go.Proofs.YtndahppmjdbifaaGreatDoor.Lnk Jnl Go.Proofs.YtndahppmjdbifaaGreatDoor.Cli
structure Cfg where
  clients : Int
  window : Int
  push : Int
  pull : Int
  mtu : Int
  last : Int
def cfgV (c : Cfg) : Value := .agg [.int .i64 c.clients, .int .i64 c.window, .int .i64 c.push, .int .i64 c.pull, .int .i64 c.mtu, .int .i64 c.last].toArray
def mayC (c : Cfg) : Nat := if 1 ≤ c.clients ∧ c.clients ≤ 64 ∧ 1 ≤ c.window ∧ c.window ≤ 16 ∧ 1 ≤ c.push ∧ c.push ≤ 16 ∧ 1 ≤ c.pull ∧ c.pull ≤ 16 ∧ 64 ≤ c.mtu ∧ c.mtu ≤ 1400 ∧ 1 ≤ c.last ∧ c.last ≤ 1099511627776 then 0 else 1
structure Nod where
  c : Cfg
  origin : Int
  j : Jnl
  k : Lnk
  own : Cli
  offered : Nat
def Nod.new (c : Cfg) (origin : Int) : Nod := ⟨c, origin, Jnl.new origin c.last, Lnk.new 1 c.window c.pull false, Cli.new (Jnl.new origin c.last) origin c.mtu c.push, 0⟩
def Nod.upd (m : Nod) (u : Upd) : Nod := { m with own := m.own.upd u }
def Nod.push (m : Nod) : Nod := { m with own := m.own.pushC m.j, j := m.own.pushJ m.j }
def Nod.resetE (m : Nod) : Nat := if (m.k.ep : Int) ≥ m.c.last then 8 else 0
def Nod.reset (m : Nod) : Nod := if m.resetE = 0 then { m with k := Lnk.new (m.k.ep + 1) m.c.window m.c.pull false, offered := 0, own := m.own.resume m.j } else m
@[irreducible] def Nod.hearE (m : Nod) (b : ByteArray) : Nat := if fgetE b ≠ 0 then fgetE b else if (fget b).ep ≠ m.k.ep then 9 else 0
def Nod.hear (m : Nod) (b : ByteArray) : Nod := if m.hearE b = 0 then { m with k := m.k.hear (fget b) } else m
abbrev nodQ (c : Cfg) (origin : Int) (jp kp cp : Nat) (off : Int) : Obj := .cells #[.int .i64 c.clients, .int .i64 c.window, .int .i64 c.push, .int .i64 c.pull, .int .i64 c.mtu, .int .i64 c.last, .int .i64 origin, .pointer (some ⟨jp, 0, none⟩), .pointer (some ⟨kp, 0, none⟩), .pointer (some ⟨cp, 0, none⟩), .int .i64 off] 97
abbrev nodO (jp kp cp : Nat) (m : Nod) : Obj := nodQ m.c m.origin jp kp cp m.offered
def IsN (M : Mem) (p : Nat) (m : Nod) (H : Chunk) : Prop :=
  ∃ jp kp cp Hj Hk Hc, IsJ M jp m.j Hj ∧ IsL kp m.k Hk ∧ IsC M cp jp m.own Hc ∧ H = (p, nodO jp kp cp m) :: (Hj ++ (Hk ++ Hc))
theorem IsN.mono {M M' : Mem} {p : Nat} {m : Nod} {H : Chunk} (h : IsN M p m H) (hm : Mle M M') : IsN M' p m H := by
  obtain ⟨jp, kp, cp, Hj, Hk, Hc, h1, h2, h3, h4⟩ := h
  exact ⟨jp, kp, cp, Hj, Hk, Hc, h1.mono hm, h2, h3.mono hm, h4⟩
theorem _root_.Go.Proofs.YtndahppmjdbifaaGreatDoor.Eng.St.un3 {M : Mem} {w : World} {Ls : List Chunk} {A B C : Chunk} {x : Nat × Obj} (h : St M w ((x :: (A ++ (B ++ C))) :: Ls)) : St M w ([x] :: A :: B :: C :: Ls) := h.perm (by simp)
section
variable {M : Mem} {w : World} {Ls : List Chunk}
theorem sin_c (n lo hi : Int) (hS : St M w Ls) : CallsR Tryz.prog 111 [.int .i64 n, .int .i64 lo, .int .i64 hi].toArray w fun v w' => v = .bool (decide (lo ≤ n ∧ n ≤ hi)) ∧ St M w' Ls := by
  refine zC 15 Tryz.func111 rfl (zQ (zR (zA rfl (zE (zQ (zR (zM rfl (zM rfl (wl (y_geq rfl rfl) rfl (zM rfl (zWc (s := 10) rfl (fun hg10 => ?_) fun hg10 => ?_)))))))))))
  · refine zI rfl ?_
    refine zM rfl (zI rfl (zM rfl (zI rfl (wl (y_leq rfl rfl) rfl (wl (y_pickT rfl rfl) rfl (zA rfl (zE (zV (z1 rfl ?_)))))))))
    first
    | exact ⟨congrArg Value.bool (decide_eq_decide.2 ⟨fun h => ⟨by omega, h⟩, fun h => h.2⟩), hS⟩
    | exact ⟨congrArg Value.bool (decide_eq_false (fun h => by omega)).symm, hS⟩
  refine zO rfl ?_
  refine zO rfl (zO rfl (wl (y_pickF rfl rfl) rfl (zA rfl (zE (zV (z1 rfl ?_))))))
  first
  | exact ⟨congrArg Value.bool (decide_eq_decide.2 ⟨fun h => ⟨by omega, h⟩, fun h => h.2⟩), hS⟩
  | exact ⟨congrArg Value.bool (decide_eq_false (fun h => by omega)).symm, hS⟩
theorem smay_c (c : Cfg) (hS : St M w Ls) : CallsR Tryz.prog 77 [cfgV c].toArray w fun v w' => v = .int .i64 (mayC c) ∧ St M w' Ls := by
  refine zC 37 Tryz.func77 rfl (zQ (zR (a_box rfl hS rfl fun b1 w hS => zA rfl (zE (zQ (zQ (zR (zF fl_23_0 rfl (wl (y_load pl_3 rfl (hS.cell rfl)) rfl (wl_call (.cons rfl (.cons rfl (.cons rfl .nil))) (sin_c c.clients 1 64 hS) rfl ?_))))))))))
  rintro _ w ⟨rfl, hS⟩
  refine wl (y_not rfl) rfl (zM rfl (zWc (s := 7) rfl (fun hg7 => ?_) fun hg7 => ?_))
  · refine zO rfl ?_
    refine zO rfl (zO rfl (zO rfl (wl (y_pickT rfl rfl) rfl (zM rfl (zO rfl (zO rfl (zO rfl (zO rfl (wl (y_pickT rfl rfl) rfl (zM rfl (zO rfl (zO rfl (zO rfl (zO rfl (wl (y_pickT rfl rfl) rfl (zM rfl (zO rfl (zO rfl (zO rfl (zO rfl (wl (y_pickT rfl rfl) rfl (zM rfl (zO rfl (zO rfl (zO rfl (zO rfl (wl (y_pickT rfl rfl) rfl (zE (wc_ifT rfl rfl (zQ (zR (zA rfl (zE (zV (z1 rfl ?_)))))))))))))))))))))))))))))))))))
    first
    | exact ⟨congrArg (Value.int .i64) (by unfold mayC; rw [if_neg (by omega)] <;> rfl), hS.keep⟩
    | exact ⟨congrArg (Value.int .i64) (by unfold mayC; rw [if_pos (by omega)] <;> rfl), hS.keep⟩
  refine zI rfl ?_
  refine zF fl_23_1 rfl (zI rfl (wl (y_load pl_3 rfl (hS.cell rfl)) rfl (zI rfl (wl_call (.cons rfl (.cons rfl (.cons rfl .nil))) (sin_c c.window 1 16 hS) rfl ?_))))
  rintro _ w ⟨rfl, hS⟩
  refine zI rfl (wl (y_not rfl) rfl (wl (y_pickF rfl rfl) rfl (zM rfl (zWc (s := 13) rfl (fun hg13 => ?_) fun hg13 => ?_))))
  · refine zO rfl ?_
    refine zO rfl (zO rfl (zO rfl (wl (y_pickT rfl rfl) rfl (zM rfl (zO rfl (zO rfl (zO rfl (zO rfl (wl (y_pickT rfl rfl) rfl (zM rfl (zO rfl (zO rfl (zO rfl (zO rfl (wl (y_pickT rfl rfl) rfl (zM rfl (zO rfl (zO rfl (zO rfl (zO rfl (wl (y_pickT rfl rfl) rfl (zE (wc_ifT rfl rfl (zQ (zR (zA rfl (zE (zV (z1 rfl ?_)))))))))))))))))))))))))))))
    first
    | exact ⟨congrArg (Value.int .i64) (by unfold mayC; rw [if_neg (by omega)] <;> rfl), hS.keep⟩
    | exact ⟨congrArg (Value.int .i64) (by unfold mayC; rw [if_pos (by omega)] <;> rfl), hS.keep⟩
  refine zI rfl ?_
  refine zF fl_23_2 rfl (zI rfl (wl (y_load pl_3 rfl (hS.cell rfl)) rfl (zI rfl (wl_call (.cons rfl (.cons rfl (.cons rfl .nil))) (sin_c c.push 1 16 hS) rfl ?_))))
  rintro _ w ⟨rfl, hS⟩
  refine zI rfl (wl (y_not rfl) rfl (wl (y_pickF rfl rfl) rfl (zM rfl (zWc (s := 19) rfl (fun hg19 => ?_) fun hg19 => ?_))))
  · refine zO rfl ?_
    refine zO rfl (zO rfl (zO rfl (wl (y_pickT rfl rfl) rfl (zM rfl (zO rfl (zO rfl (zO rfl (zO rfl (wl (y_pickT rfl rfl) rfl (zM rfl (zO rfl (zO rfl (zO rfl (zO rfl (wl (y_pickT rfl rfl) rfl (zE (wc_ifT rfl rfl (zQ (zR (zA rfl (zE (zV (z1 rfl ?_)))))))))))))))))))))))
    first
    | exact ⟨congrArg (Value.int .i64) (by unfold mayC; rw [if_neg (by omega)] <;> rfl), hS.keep⟩
    | exact ⟨congrArg (Value.int .i64) (by unfold mayC; rw [if_pos (by omega)] <;> rfl), hS.keep⟩
  refine zI rfl ?_
  refine zF fl_23_3 rfl (zI rfl (wl (y_load pl_3 rfl (hS.cell rfl)) rfl (zI rfl (wl_call (.cons rfl (.cons rfl (.cons rfl .nil))) (sin_c c.pull 1 16 hS) rfl ?_))))
  rintro _ w ⟨rfl, hS⟩
  refine zI rfl (wl (y_not rfl) rfl (wl (y_pickF rfl rfl) rfl (zM rfl (zWc (s := 25) rfl (fun hg25 => ?_) fun hg25 => ?_))))
  · refine zO rfl ?_
    refine zO rfl (zO rfl (zO rfl (wl (y_pickT rfl rfl) rfl (zM rfl (zO rfl (zO rfl (zO rfl (zO rfl (wl (y_pickT rfl rfl) rfl (zE (wc_ifT rfl rfl (zQ (zR (zA rfl (zE (zV (z1 rfl ?_)))))))))))))))))
    first
    | exact ⟨congrArg (Value.int .i64) (by unfold mayC; rw [if_neg (by omega)] <;> rfl), hS.keep⟩
    | exact ⟨congrArg (Value.int .i64) (by unfold mayC; rw [if_pos (by omega)] <;> rfl), hS.keep⟩
  refine zI rfl ?_
  refine zF fl_23_4 rfl (zI rfl (wl (y_load pl_3 rfl (hS.cell rfl)) rfl (zI rfl (wl_call (.cons rfl (.cons rfl (.cons rfl .nil))) (sin_c c.mtu 64 1400 hS) rfl ?_))))
  rintro _ w ⟨rfl, hS⟩
  refine zI rfl (wl (y_not rfl) rfl (wl (y_pickF rfl rfl) rfl (zM rfl (zWc (s := 31) rfl (fun hg31 => ?_) fun hg31 => ?_))))
  · refine zO rfl ?_
    refine zO rfl (zO rfl (zO rfl (wl (y_pickT rfl rfl) rfl (zE (wc_ifT rfl rfl (zQ (zR (zA rfl (zE (zV (z1 rfl ?_)))))))))))
    first
    | exact ⟨congrArg (Value.int .i64) (by unfold mayC; rw [if_neg (by omega)] <;> rfl), hS.keep⟩
    | exact ⟨congrArg (Value.int .i64) (by unfold mayC; rw [if_pos (by omega)] <;> rfl), hS.keep⟩
  refine zI rfl ?_
  refine zF fl_23_5 rfl (zI rfl (wl (y_load pl_3 rfl (hS.cell rfl)) rfl (zI rfl (wl_call (.cons rfl (.cons rfl (.cons rfl .nil))) (sin_c c.last 1 1099511627776 hS) rfl ?_))))
  rintro _ w ⟨rfl, hS⟩
  refine zI rfl (wl (y_not rfl) rfl (wl (y_pickF rfl rfl) rfl (zE (zIf rfl (fun hc36 => ?_) fun hc36 => ?_))))
  · refine zQ ?_
    refine zR (zA rfl (zE (zV (z1 rfl ?_))))
    first
    | exact ⟨congrArg (Value.int .i64) (by unfold mayC; rw [if_neg (by omega)] <;> rfl), hS.keep⟩
    | exact ⟨congrArg (Value.int .i64) (by unfold mayC; rw [if_pos (by omega)] <;> rfl), hS.keep⟩
  refine zK ?_
  refine zQ (zR (zA rfl (zE (zV (z1 rfl ?_)))))
  first
  | exact ⟨congrArg (Value.int .i64) (by unfold mayC; rw [if_neg (by omega)] <;> rfl), hS.keep⟩
  | exact ⟨congrArg (Value.int .i64) (by unfold mayC; rw [if_pos (by omega)] <;> rfl), hS.keep⟩
end
end Go.Proofs.YtndahppmjdbifaaGreatDoor.Nod
set_option linter.unusedVariables false
set_option linter.unusedSimpArgs false
namespace Go.Proofs.YtndahppmjdbifaaGreatDoor.Nod
open Go Go.Proofs Eng Pre Val Rou Fra Go.Proofs.YtndahppmjdbifaaGreatDoor.Snd Go.Proofs.YtndahppmjdbifaaGreatDoor.Lnk Jnl Go.Proofs.YtndahppmjdbifaaGreatDoor.Cli
@[irreducible] def newE (c : Cfg) (origin : Int) : Nat := if mayC c ≠ 0 then mayC c else if origin < 1 ∨ origin > c.clients then 11 else 0
section
variable {M : Mem} {w : World} {Ls : List Chunk}
theorem nbegin_c {p : Nat} {c : Cfg} {origin off : Int} {a k b : Value} (ep : Int) (hS : St M w ([(p, .cells #[.int .i64 c.clients, .int .i64 c.window, .int .i64 c.push, .int .i64 c.pull, .int .i64 c.mtu, .int .i64 c.last, .int .i64 origin, a, k, b, .int .i64 off] 97)] :: Ls)) :
    CallsR Tryz.prog 56 [.pointer (some ⟨p, 0, none⟩), .int .i64 ep].toArray w fun v w' => ∃ kp Hk, v = .tuple #[] ∧ IsL kp (Lnk.new ep c.window c.pull false) Hk ∧ St M w' ([(p, .cells #[.int .i64 c.clients, .int .i64 c.window, .int .i64 c.push, .int .i64 c.pull, .int .i64 c.mtu, .int .i64 c.last, .int .i64 origin, a, .pointer (some ⟨kp, 0, none⟩), b, .int .i64 0] 97)] :: Hk :: Ls) := by
  refine zC 22 Tryz.func56 rfl (zQ (zW hS (fun w => w.cell? ⟨p, 1, none⟩ = some (.int .i64 c.window) ∧ w.cell? ⟨p, 3, none⟩ = some (.int .i64 c.pull)) [12, 15] wide_ rfl fun w hS => zPm 0 1 rfl (zPm 1 3 rfl (zPm 2 7 rfl (zPn 3 15 rfl (zPf 4 31 fl_97_0 rfl (zPf 5 63 fl_23_1 rfl (zPm 7 191 rfl (zPn 8 447 rfl (zPf 9 959 fl_97_0 rfl (zPf 10 1983 fl_23_3 rfl (zD 6 2047 rfl ⟨hS.c, hS.c⟩ (fun w hS => y_load pl_3 rfl hS.1) (zD 11 4095 rfl ⟨hS.c, hS.c⟩ (fun w hS => y_load pl_3 rfl hS.2) (zU 12 8191 rfl (wl_call (.cons rfl (.cons rfl (.cons rfl (.cons rfl .nil)))) (lnew_c ep c.window c.pull false hS) rfl ?_)))))))))))))))
  rintro _ w ⟨kp, Hk, rfl, hl, hS⟩
  refine zE ⟨fun h => absurd (by decide) h, zPn 13 16383 rfl (zPf 14 32767 fl_97_3 rfl (zU 15 65535 rfl (zS sz_94 rfl hS fun w hS => zE ⟨fun h => absurd (by decide) h, zH (zR (zM rfl (zN rfl (zF fl_97_5 rfl (zS sz_3 rfl hS fun w hS => zE (wretN (vs := []) .nil ?_))))))⟩)))⟩
  simp only [zL, cells_agg, setCells] at hS
  exact ⟨kp, Hk, rfl, hl, hS.keep⟩
theorem nnew_c (c : Cfg) (origin : Int) (hS : St M w Ls) :
    CallsR Tryz.prog 23 [cfgV c, .int .i64 origin].toArray w fun v w' => ∃ M', Mle M M' ∧ ((newE c origin ≠ 0 ∧ v = .tuple [.pointer none, .int .i64 (newE c origin)].toArray ∧ St M' w' Ls) ∨ (newE c origin = 0 ∧ ∃ p H, v = .tuple [.pointer (some ⟨p, 0, none⟩), .int .i64 0].toArray ∧ IsN M' p (Nod.new c origin) H ∧ St M' w' (H :: Ls))) := by
  refine zC 41 Tryz.func23 rfl (zQ (zR (a_box rfl hS rfl fun b2 w hS => zA rfl (zA rfl (zE (zQ (zQ (zR (wl ((y_loadS st_23 sz_23 rfl (vs := [.int .i64 c.clients, .int .i64 c.window, .int .i64 c.push, .int .i64 c.pull, .int .i64 c.mtu, .int .i64 c.last]) (hS.cells rfl) rfl).val (show _ = cfgV c from rfl)) rfl (wl_call (.cons rfl .nil) (smay_c c hS) rfl ?_))))))))))
  rintro _ w ⟨rfl, hS⟩
  refine zA rfl (zE (zQ (zR (zM rfl (wl (y_neq rfl rfl) rfl (zE (zIf rfl (fun hc12 => ?_) fun hc12 => ?_)))))))
  · have he : newE c origin = mayC c := by unfold newE; rw [if_pos (by omega)]
    have hz : newE c origin ≠ 0 := by omega
    refine zQ (zR (zM rfl (zA rfl (zA rfl (zE (zV (z2 rfl ?_)))))))
    first
    | exact ⟨M, Mle.refl _, .inl ⟨hz, by rw [he] <;> rfl, hS.keep⟩⟩
    | exact ⟨M, Mle.refl _, .inl ⟨by rw [he]; decide, by rw [he] <;> rfl, hS.keep⟩⟩
    | exact ⟨M1, hM, .inr ⟨he, _, _, rfl, ⟨jp, kp, cp, Hj, Hk, Hc, hj1, hk, hc, rfl⟩, (by have h := hS.keep (T := ((b37, nodQ c origin jp kp cp 0) :: (Hj ++ (Hk ++ Hc))) :: Ls); exact h)⟩⟩
  refine zK ?_
  refine zQ (zQ (zR (zM rfl (wl (y_lss rfl rfl) rfl (zM rfl (zWc (s := 16) rfl (fun hg16 => ?_) fun hg16 => ?_))))))
  · have he : newE c origin = 11 := by unfold newE; rw [if_neg (by omega), if_pos (by omega)]
    refine zO rfl (zO rfl (zO rfl (zO rfl (wl (y_pickT rfl rfl) rfl (zE (wc_ifT rfl rfl (zQ (zR (zA rfl (zA rfl (zE (zV (z2 rfl ?_)))))))))))))
    first
    | exact ⟨M, Mle.refl _, .inl ⟨hz, by rw [he] <;> rfl, hS.keep⟩⟩
    | exact ⟨M, Mle.refl _, .inl ⟨by rw [he]; decide, by rw [he] <;> rfl, hS.keep⟩⟩
    | exact ⟨M1, hM, .inr ⟨he, _, _, rfl, ⟨jp, kp, cp, Hj, Hk, Hc, hj1, hk, hc, rfl⟩, (by have h := hS.keep (T := ((b37, nodQ c origin jp kp cp 0) :: (Hj ++ (Hk ++ Hc))) :: Ls); exact h)⟩⟩
  refine zI rfl ?_
  refine zM rfl (zI rfl (zF fl_23_0 rfl (zI rfl (wl (y_load pl_3 rfl (hS.c (v := .int .i64 c.clients))) rfl (zI rfl (wl (y_gtr rfl rfl) rfl (wl (y_pickF rfl rfl) rfl (zE (zIf rfl (fun hc21 => ?_) fun hc21 => ?_)))))))))
  · have he : newE c origin = 11 := by unfold newE; rw [if_neg (by omega), if_pos (by omega)]
    refine zQ (zR (zA rfl (zA rfl (zE (zV (z2 rfl ?_))))))
    first
    | exact ⟨M, Mle.refl _, .inl ⟨hz, by rw [he] <;> rfl, hS.keep⟩⟩
    | exact ⟨M, Mle.refl _, .inl ⟨by rw [he]; decide, by rw [he] <;> rfl, hS.keep⟩⟩
    | exact ⟨M1, hM, .inr ⟨he, _, _, rfl, ⟨jp, kp, cp, Hj, Hk, Hc, hj1, hk, hc, rfl⟩, (by have h := hS.keep (T := ((b37, nodQ c origin jp kp cp 0) :: (Hj ++ (Hk ++ Hc))) :: Ls); exact h)⟩⟩
  have he : newE c origin = 0 := by unfold newE; rw [if_neg (by omega), if_neg (by omega)]
  refine zK (zQ (zR (zM rfl (zF fl_23_5 rfl (wl (y_load pl_3 rfl (hS.c (v := .int .i64 c.last))) rfl (wl_call (.cons rfl (.cons rfl .nil)) (jnew_c origin c.last hS) rfl ?_))))))
  rintro _ w ⟨jp, Hj, rfl, hj, hS⟩
  refine zA rfl (zE (zQ (zW hS (fun w => CellsAt w b2 0 [.int .i64 c.clients, .int .i64 c.window, .int .i64 c.push, .int .i64 c.pull, .int .i64 c.mtu, .int .i64 c.last] ∧ w.cell? ⟨b2, 4, none⟩ = some (.int .i64 c.mtu) ∧ w.cell? ⟨b2, 2, none⟩ = some (.int .i64 c.push)) [11, 12] wide_ rfl fun w hS => zPm 1 2 rfl (zPm 2 6 rfl (zPm 3 14 rfl (zPm 4 30 rfl (zPf 5 62 fl_23_4 rfl (zPf 7 190 fl_23_2 rfl (zD 0 191 rfl ⟨hS.cells rfl, hS.c, hS.c⟩ (fun w hS => y_loadS st_23 sz_23 rfl hS.1 rfl) (zD 6 255 rfl ⟨hS.cells rfl, hS.c, hS.c⟩ (fun w hS => y_load pl_3 rfl hS.2.1) (zD 8 511 rfl ⟨hS.cells rfl, hS.c, hS.c⟩ (fun w hS => y_load pl_3 rfl hS.2.2) (zU 9 1023 rfl (wl_call (.cons rfl (.cons rfl (.cons rfl (.cons rfl .nil)))) (cnew_c origin c.mtu c.push (show (Jnl.new origin c.last).l.length ≤ _ from by unfold Jnl.new; simp) hj (hS.pull Hj)) rfl ?_)))))))))))))
  rintro _ w ⟨M1, cp, Hc, rfl, hM, hc, hj1, hS⟩
  refine zE ⟨fun _ _ => ⟨hS.cells rfl, hS.c, hS.c⟩, zP 10 2047 rfl (fun w => y_build (is := [0, 1, 2, 4]) (xs := [_, _, _, _]) (out := [_, _, _, _, _, _, _, _, _, _, _]) plc_97 z_97 (.cons rfl (.cons rfl (.cons rfl (.cons rfl .nil)))) rfl) (zU 11 4095 rfl (a_box rfl hS rfl fun b37 w hS => zE ⟨fun h => absurd (by decide) h, zPa 12 8191 rfl (zH (zQ (zR (zM rfl (wl_call (.cons rfl (.cons rfl .nil)) (nbegin_c (c := c) (origin := origin) (off := 0) 1 hS) rfl ?_)))))⟩))⟩
  rintro _ w ⟨kp, Hk, rfl, hk, hS⟩
  refine zE (zQ (zR (zM rfl (zA rfl (zA rfl (zE (zV (z2 rfl ?_))))))))
  first
  | exact ⟨M, Mle.refl _, .inl ⟨hz, by rw [he] <;> rfl, hS.keep⟩⟩
  | exact ⟨M, Mle.refl _, .inl ⟨by rw [he]; decide, by rw [he] <;> rfl, hS.keep⟩⟩
  | exact ⟨M1, hM, .inr ⟨he, _, _, rfl, ⟨jp, kp, cp, Hj, Hk, Hc, hj1, hk, hc, rfl⟩, (by have h := hS.keep (T := ((b37, nodQ c origin jp kp cp 0) :: (Hj ++ (Hk ++ Hc))) :: Ls); exact h)⟩⟩
theorem nupd_c (hG : Bits M) (u : Upd) {p : Nat} {m : Nod} {H : Chunk} (hmt : 0 ≤ m.own.mtu ∧ m.own.mtu ≤ 1400) (hl : m.own.opn.length ≤ 13743895) (hb : IsN M p m H) (hS : St M w (H :: Ls)) :
    CallsR Tryz.prog 31 [.pointer (some ⟨p, 0, none⟩), uv u].toArray w fun v w' => ∃ M' H', Mle M M' ∧ v = .int .i64 (m.own.updE u) ∧ IsN M' p (m.upd u) H' ∧ St M' w' (H' :: Ls) := by
  obtain ⟨jp, kp, cp, Hj, Hk, Hc, h1, h2, h3, rfl⟩ := hb
  replace hS := hS.un3
  refine zC 11 Tryz.func31 rfl (zQ (zR (a_box rfl hS rfl fun b3 w hS => zA rfl (zE (zQ (zW hS (fun w => CellsAt w b3 0 (encU.f u) ∧ w.cell? ⟨p, 9, none⟩ = some (.pointer (some ⟨cp, 0, none⟩))) [5] wide_ rfl fun w hS => zPm 0 1 rfl (zPn 1 3 rfl (zPf 2 7 fl_97_4 rfl (zD 3 15 rfl ⟨hS.cells rfl, hS.c⟩ (fun w hS => y_load pl_95 rfl hS.2) (zD 4 31 rfl ⟨hS.cells rfl, hS.c⟩ (fun w hS => (y_loadS st_59 sz_59 rfl hS.1 rfl).val (show _ = uv u from rfl)) (zU 5 63 rfl (wl_call (.cons rfl (.cons rfl .nil)) (cupd_c hG u hmt hl h3 (hS.pull Hc)) rfl ?_))))))))))))
  rintro _ w ⟨M1, H1, hM, rfl, h3, hS⟩
  refine zE ⟨fun h => absurd (by decide) h, zPa 6 127 rfl (zH (zV (z1 rfl ?_)))⟩
  exact ⟨M1, _, hM, rfl, ⟨jp, kp, cp, Hj, Hk, H1, h1.mono hM, h2, h3, rfl⟩, (by have h := hS.keep (T := ((p, nodO jp kp cp m) :: (Hj ++ (Hk ++ H1))) :: Ls); exact h)⟩
theorem npush_c {p : Nat} {m : Nod} {H : Chunk} (hpl : m.own.pending.length ≤ 137438953) (hjl : m.j.l.length ≤ 137438953472) (hl : m.own.opn.length ≤ 13743895) (hb : IsN M p m H) (hS : St M w (H :: Ls)) :
    CallsR Tryz.prog 33 [.pointer (some ⟨p, 0, none⟩)].toArray w fun v w' => ∃ M' H', Mle M M' ∧ v = .tuple [.int .i64 (m.own.pushR m.j).n, .int .i64 (m.own.pushE m.j)].toArray ∧ IsN M' p m.push H' ∧ St M' w' (H' :: Ls) := by
  obtain ⟨jp, kp, cp, Hj, Hk, Hc, h1, h2, h3, rfl⟩ := hb
  replace hS := hS.un3
  refine zC 17 Tryz.func33 rfl (zQ (zR (zA rfl (zA rfl (zE (zQ (zR (zM rfl (zN rfl (zF fl_97_4 rfl (wl (y_load pl_95 rfl (hS.c (v := .pointer (some ⟨cp, 0, none⟩)))) rfl (wl_call (.cons rfl .nil) (cpush_c hpl hjl hl h3 h1 (hS.keep (T := Hc :: Hj :: [(p, nodO jp kp cp m)] :: Hk :: Ls))) rfl ?_))))))))))))
  rintro _ w ⟨M1, s1, Hc1, Hj1, hM, hs1, rfl, h3, h1, hS⟩
  obtain ⟨sa1, sc1, rfl⟩ := (hs1.holds hS).slice
  refine zM rfl (zX rfl (zX rfl (a_alloc z_48 hS rfl fun b4 w hS => zG (vs := [_, _, _]) sz_48 rfl hS fun w hS => zA rfl (zE (zQ (zR (zF fl_48_1 rfl (wl (y_load pl_3 rfl (hS.c (v := .int .i64 (m.own.pushR m.j).n))) rfl (zM rfl (zA rfl (zA rfl (zE (zV (z2 rfl ?_))))))))))))))
  exact ⟨M1, _, hM, rfl, ⟨jp, kp, cp, Hj1, Hk, Hc1, h1, h2, h3, rfl⟩, (by have h := hS.keep (T := ((p, nodO jp kp cp m) :: (Hj1 ++ (Hk ++ Hc1))) :: Ls); exact h)⟩
theorem nreset_c {p : Nat} {m : Nod} {H : Chunk} (hc : m.c.last ≤ 1099511627776) (hjl : m.j.l.length ≤ 137438953472) (hb : IsN M p m H) (hS : St M w (H :: Ls)) :
    CallsR Tryz.prog 15 [.pointer (some ⟨p, 0, none⟩)].toArray w fun v w' => ∃ M' H', Mle M M' ∧ v = .int .i64 m.resetE ∧ IsN M' p m.reset H' ∧ St M' w' (H' :: Ls) := by
  have hb0 := hb
  obtain ⟨jp, kp, cp, Hj, Hk, Hc, h1, h2, h3, rfl⟩ := hb
  have hSH := hS
  replace hS := hS.un3
  refine zC 27 Tryz.func15 rfl (zQ (zR (zA rfl (zE (zQ (zQ (zW hS (fun w => w.cell? ⟨p, 8, none⟩ = some (.pointer (some ⟨kp, 0, none⟩)) ∧ w.cell? ⟨p, 5, none⟩ = some (.int .i64 m.c.last)) [] wide_ rfl fun w hS => zPm 0 1 rfl (zPn 1 3 rfl (zPf 2 7 fl_97_3 rfl (zPm 5 39 rfl (zPn 6 103 rfl (zPf 7 231 fl_97_0 rfl (zPf 8 487 fl_23_5 rfl (zD 3 495 rfl ⟨hS.c, hS.c⟩ (fun w hS => y_load pl_94 rfl hS.1) (zD 9 1007 rfl ⟨hS.c, hS.c⟩ (fun w hS => y_load pl_3 rfl hS.2) (zU 4 1023 rfl (wl_call (.cons rfl .nil) (lepoch_c h2 (hS.pull Hk)) rfl ?_)))))))))))))))))
  rintro _ w ⟨rfl, hS⟩
  refine zE ⟨fun _ _ => ⟨hS.c, hS.c⟩, zP 10 2047 rfl (fun w => y_geq rfl rfl) (zH (zIf rfl (fun hc13 => ?_) fun hc13 => ?_))⟩
  · have he : m.resetE = 8 := by unfold Nod.resetE; rw [if_pos (by omega)]
    have hq : m.reset = m := by unfold Nod.reset; rw [if_neg (by omega)]
    rw [he, hq]
    refine zQ (zR (zA rfl (zE (zV (z1 rfl ?_)))))
    first
    | exact ⟨M1, _, hM, rfl, ⟨jp, kp1, cp, Hj, Hk1, Hc1, h1, hk1, h3, rfl⟩, (by have h := hS.keep (T := ((p, nodQ m.c m.origin jp kp1 cp 0) :: (Hj ++ (Hk1 ++ Hc1))) :: Ls); exact h)⟩
    | exact ⟨M, _, Mle.refl _, rfl, hb0, hS.keep⟩
  have he : m.resetE = 0 := by unfold Nod.resetE; rw [if_neg (by omega)]
  have hq : m.reset = { m with k := Lnk.new (m.k.ep + 1) m.c.window m.c.pull false, offered := 0, own := m.own.resume m.j } := by unfold Nod.reset; rw [if_pos he]
  rw [he, hq]
  refine zK (zQ (zR (zM rfl (zM rfl (zN rfl (zF fl_97_3 rfl (wl (y_load pl_94 rfl (hS.c (v := .pointer (some ⟨kp, 0, none⟩)))) rfl (wl_call (.cons rfl .nil) (lepoch_c h2 (hS.pull Hk)) rfl ?_))))))))
  rintro _ w ⟨rfl, hS⟩
  refine wl (y_add rfl rfl (w64 (by omega) (by omega))) rfl (wl_call (.cons rfl (.cons rfl .nil)) (nbegin_c (c := m.c) (origin := m.origin) (off := m.offered) (m.k.ep + 1) (hS.pull [(p, nodO jp kp cp m)])) rfl ?_)
  rintro _ w ⟨kp1, Hk1, rfl, hk1, hS⟩
  refine zE (zQ (zR (zM rfl (zN rfl (zF fl_97_4 rfl (wl (y_load pl_95 rfl (hS.c (v := .pointer (some ⟨cp, 0, none⟩)))) rfl (wl_call (.cons rfl .nil) (cresume_c hjl h3 h1 ((hS.pull Hj).pull Hc)) rfl ?_)))))))
  rintro _ w ⟨M1, Hc1, hM, rfl, h3, h1, hS⟩
  refine zE (zQ (zR (zA rfl (zE (zV (z1 rfl ?_))))))
  first
  | exact ⟨M1, _, hM, rfl, ⟨jp, kp1, cp, Hj, Hk1, Hc1, h1, hk1, h3, rfl⟩, (by have h := hS.keep (T := ((p, nodQ m.c m.origin jp kp1 cp 0) :: (Hj ++ (Hk1 ++ Hc1))) :: Ls); exact h)⟩
  | exact ⟨M, _, Mle.refl _, rfl, hb0, hS.keep⟩
end
end Go.Proofs.YtndahppmjdbifaaGreatDoor.Nod
set_option linter.unusedVariables false
set_option linter.unusedSimpArgs false
namespace Go.Proofs.YtndahppmjdbifaaGreatDoor.Nod
open Go Go.Proofs Eng Pre Val Rou Fra Go.Proofs.YtndahppmjdbifaaGreatDoor.Snd Go.Proofs.YtndahppmjdbifaaGreatDoor.Lnk Jnl Go.Proofs.YtndahppmjdbifaaGreatDoor.Cli
section
variable {M : Mem} {w : World} {Ls : List Chunk}
theorem nhear_c (hG : Bits M) (b : ByteArray) (hbz : b.size ≤ 140737488351232) {p : Nat} {m : Nod} {H : Chunk} (hk : m.k.ok) (hb : IsN M p m H) (hS : St M w (H :: Ls)) :
    CallsR Tryz.prog 22 [.pointer (some ⟨p, 0, none⟩), .string b].toArray w fun v w' => ∃ H', v = .int .i64 (m.hearE b) ∧ IsN M p (m.hear b) H' ∧ St M w' (H' :: Ls) := by
  have hb0 := hb
  obtain ⟨jp, kp, cp, Hj, Hk, Hc, h1, h2, h3, rfl⟩ := hb
  replace hS := hS.un3
  refine zC 29 Tryz.func22 rfl (zQ (zR (zA rfl (zE (zQ (zR (zM rfl (wl_call (.cons rfl .nil) (fget_c hG b hbz hS) rfl ?_))))))))
  rintro _ w ⟨rfl, hS⟩
  refine zM rfl (zX rfl (zX rfl (a_alloc z_42 hS rfl fun b5 w hS => zG (vs := [_, _, _, _]) sz_42 rfl hS fun w hS => zA rfl (zE (zQ (zQ (zR (zM rfl (wl (y_neq rfl rfl) rfl (zE (zIf rfl (fun hc13 => ?_) fun hc13 => ?_)))))))))))
  · have he : m.hearE b = fgetE b := by unfold Nod.hearE; rw [if_pos (by omega)]
    have hq : m.hear b = m := by unfold Nod.hear; rw [if_neg (by omega)]
    rw [he, hq]
    refine zQ (zR (zM rfl (zA rfl (zE (zV (z1 rfl ?_))))))
    first
    | exact ⟨_, rfl, ⟨jp, kp, cp, Hj, Hk1, Hc, h1, hk1, h3, rfl⟩, (by have h := hS.keep (T := ((p, nodO jp kp cp m) :: (Hj ++ (Hk1 ++ Hc))) :: Ls); exact h)⟩
    | exact ⟨_, rfl, hb0, hS.keep⟩
  refine zK ?_
  refine zQ (zQ (zW hS (fun w => w.cell? ⟨b5, 0, none⟩ = some (.int .i64 (fget b).ep) ∧ w.cell? ⟨p, 8, none⟩ = some (.pointer (some ⟨kp, 0, none⟩))) [] wide_ rfl fun w hS => zPf 0 1 fl_42_0 rfl (zPm 2 5 rfl (zPn 3 13 rfl (zPf 4 29 fl_97_3 rfl (zD 1 31 rfl ⟨hS.c, hS.c⟩ (fun w hS => y_load pl_3 rfl hS.1) (zD 5 63 rfl ⟨hS.c, hS.c⟩ (fun w hS => y_load pl_94 rfl hS.2) (zU 6 127 rfl (wl_call (.cons rfl .nil) (lepoch_c h2 (hS.pull Hk)) rfl ?_)))))))))
  rintro _ w ⟨rfl, hS⟩
  refine zE ⟨fun _ _ => ⟨hS.c, hS.c⟩, zP 7 255 rfl (fun w => y_neq rfl rfl) (zH (zIf rfl (fun hc22 => ?_) fun hc22 => ?_))⟩
  · have he : m.hearE b = 9 := by unfold Nod.hearE; rw [if_neg (by omega), if_pos hc22]
    have hq : m.hear b = m := by unfold Nod.hear; rw [if_neg (by omega)]
    rw [he, hq]
    refine zQ (zR (zA rfl (zE (zV (z1 rfl ?_)))))
    first
    | exact ⟨_, rfl, ⟨jp, kp, cp, Hj, Hk1, Hc, h1, hk1, h3, rfl⟩, (by have h := hS.keep (T := ((p, nodO jp kp cp m) :: (Hj ++ (Hk1 ++ Hc))) :: Ls); exact h)⟩
    | exact ⟨_, rfl, hb0, hS.keep⟩
  have he : m.hearE b = 0 := by unfold Nod.hearE; rw [if_neg (by omega), if_neg (by omega)]
  have hq : m.hear b = { m with k := m.k.hear (fget b) } := by unfold Nod.hear; rw [if_pos he]
  rw [he, hq]
  refine zK (zQ (zW hS (fun w => w.cell? ⟨p, 8, none⟩ = some (.pointer (some ⟨kp, 0, none⟩)) ∧ CellsAt w b5 0 (encF.f (fget b))) [5] wide_ rfl fun w hS => zPm 0 1 rfl (zPn 1 3 rfl (zPf 2 7 fl_97_3 rfl (zD 3 15 rfl ⟨hS.c, hS.cells rfl⟩ (fun w hS => y_load pl_94 rfl hS.1) (zD 4 31 rfl ⟨hS.c, hS.cells rfl⟩ (fun w hS => (y_loadS st_42 sz_42 rfl hS.2 rfl).val (show _ = fv (fget b) from rfl)) (zU 5 63 rfl (wl_call (.cons rfl (.cons rfl .nil)) (lhear_c (fget b) hk h2 (hS.pull Hk)) rfl ?_))))))))
  rintro _ w ⟨Hk1, rfl, hk1, hS⟩
  refine zE ⟨fun h => absurd (by decide) h, zH (zQ (zR (zA rfl (zE (zV (z1 rfl ?_))))))⟩
  first
  | exact ⟨_, rfl, ⟨jp, kp, cp, Hj, Hk1, Hc, h1, hk1, h3, rfl⟩, (by have h := hS.keep (T := ((p, nodO jp kp cp m) :: (Hj ++ (Hk1 ++ Hc))) :: Ls); exact h)⟩
  | exact ⟨_, rfl, hb0, hS.keep⟩
theorem nknown_c {p : Nat} {m : Nod} {H : Chunk} (hl : m.own.known.length ≤ 137438953472) (hb : IsN M p m H) (hS : St M w (H :: Ls)) :
    CallsR Tryz.prog 24 [.pointer (some ⟨p, 0, none⟩)].toArray w fun v w' => ∃ M' ys H', Mle M M' ∧ Own 48 encRV v ys H' ∧ Rvs M' ys m.own.known ∧ IsN M' p m H ∧ St M' w' (H' :: H :: Ls) := by
  have hb0 := hb
  obtain ⟨jp, kp, cp, Hj, Hk, Hc, h1, h2, h3, rfl⟩ := hb
  replace hS := hS.un3
  refine zC 8 Tryz.func24 rfl (zQ (zR (zA rfl (zE (zQ (zR (zM rfl (zN rfl (zF fl_97_4 rfl (wl (y_load pl_95 rfl (hS.c (v := .pointer (some ⟨cp, 0, none⟩)))) rfl (wl_call (.cons rfl .nil) (cknown_c hl h3 (hS.pull Hc)) rfl ?_)))))))))))
  rintro v w ⟨M', zs, Hz, hM, ho, hr, _, hS⟩
  refine zA rfl (zE (zV (z1 rfl ?_)))
  exact ⟨M', zs, Hz, hM, ho, hr, hb0.mono hM, hS.keep⟩
theorem njournal_c {p : Nat} {m : Nod} {H : Chunk} (hl : m.j.l.length ≤ 137438953472) (hb : IsN M p m H) (hS : St M w (H :: Ls)) :
    CallsR Tryz.prog 14 [.pointer (some ⟨p, 0, none⟩)].toArray w fun v w' => ∃ M' ys H', Mle M M' ∧ Own 48 encRV v ys H' ∧ Rvs M' ys (behind 0 m.j.l) ∧ IsN M' p m H ∧ St M' w' (H' :: H :: Ls) := by
  have hb0 := hb
  obtain ⟨jp, kp, cp, Hj, Hk, Hc, h1, h2, h3, rfl⟩ := hb
  replace hS := hS.un3
  refine zC 8 Tryz.func14 rfl (zQ (zR (zA rfl (zE (zQ (zR (zM rfl (zN rfl (zF fl_97_2 rfl (wl (y_load pl_93 rfl (hS.c (v := .pointer (some ⟨jp, 0, none⟩)))) rfl (wl_call (.cons rfl (.cons rfl .nil)) (jfrom_c 0 hl h1 (hS.pull Hj)) rfl ?_)))))))))))
  rintro v w ⟨M', zs, Hz, hM, ho, hr, _, hS⟩
  refine zA rfl (zE (zV (z1 rfl ?_)))
  exact ⟨M', zs, Hz, hM, ho, hr, hb0.mono hM, hS.keep⟩
theorem nconf_c {p : Nat} {m : Nod} {H : Chunk} (hb : IsN M p m H) (hS : St M w (H :: Ls)) :
    CallsR Tryz.prog 43 [.pointer (some ⟨p, 0, none⟩)].toArray w fun v w' => v = .bool (decide (m.own.pending = [] ∧ m.own.opn = [])) ∧ St M w' (H :: Ls) := by
  obtain ⟨jp, kp, cp, Hj, Hk, Hc, h1, h2, h3, rfl⟩ := hb
  replace hS := hS.un3
  refine zC 8 Tryz.func43 rfl (zQ (zR (zA rfl (zE (zQ (zR (zM rfl (zN rfl (zF fl_97_4 rfl (wl (y_load pl_95 rfl (hS.c (v := .pointer (some ⟨cp, 0, none⟩)))) rfl (wl_call (.cons rfl .nil) (cconf_c h3 (hS.pull Hc)) rfl ?_)))))))))))
  rintro _ w ⟨rfl, hS⟩
  refine zA rfl (zE (zV (z1 rfl ?_)))
  exact ⟨rfl, hS.keep⟩
end
end Go.Proofs.YtndahppmjdbifaaGreatDoor.Nod
set_option linter.unusedVariables false
set_option linter.unusedSimpArgs false
namespace Go.Proofs.YtndahppmjdbifaaGreatDoor.Nod
open Go Go.Proofs Eng Pre Val Rou Fra Go.Proofs.YtndahppmjdbifaaGreatDoor.Snd Go.Proofs.YtndahppmjdbifaaGreatDoor.Lnk Jnl Go.Proofs.YtndahppmjdbifaaGreatDoor.Cli
structure Look where
  ep : Int
  known : Int
  pending : Int
  opn : Int
  came : Int
  unacked : Int
deriving DecidableEq
def lkV (x : Look) : Value := .agg [.int .i64 x.ep, .int .i64 x.known, .int .i64 x.pending, .int .i64 x.opn, .int .i64 x.came, .int .i64 x.unacked].toArray
def Nod.look (m : Nod) : Look := ⟨m.k.ep, m.own.known.length, m.own.pending.length, m.own.opn.length, m.k.r.wait, (m.k.s.all.length - m.k.s.acked : Nat)⟩
def Nod.small (m : Nod) : Prop := m.own.known.length ≤ 13743895 ∧ m.own.pending.length ≤ 13743895 ∧ m.own.opn.length ≤ 13743895 ∧ m.j.l.length ≤ 13743895
section
variable {M : Mem} {w : World} {Ls : List Chunk}
theorem nlook_c {p : Nat} {m : Nod} {H : Chunk} (hs : m.small) (hb : IsN M p m H) (hS : St M w (H :: Ls)) :
    CallsR Tryz.prog 13 [.pointer (some ⟨p, 0, none⟩)].toArray w fun v w' => ∃ M', Mle M M' ∧ v = lkV m.look ∧ IsN M' p m H ∧ St M' w' (H :: Ls) := by
  have hb0 := hb
  obtain ⟨s1, s2, s3, s4⟩ := hs
  obtain ⟨jp, kp, cp, Hj, Hk, Hc, h1, h2, h3, rfl⟩ := hb
  replace hS := hS.un3
  refine zC 37 Tryz.func13 rfl (zQ (zR (a_alloc z_30 hS rfl fun b2 w hS => zE (zQ (zW hS (fun w => w.cell? ⟨p, 8, none⟩ = some (.pointer (some ⟨kp, 0, none⟩)) ∧ w.cell? ⟨p, 9, none⟩ = some (.pointer (some ⟨cp, 0, none⟩))) [] wide_ rfl fun w hS => zPm 0 1 rfl (zPn 1 3 rfl (zPf 2 7 fl_97_3 rfl (zPm 5 39 rfl (zPn 6 103 rfl (zPf 7 231 fl_97_4 rfl (zPm 11 2279 rfl (zPn 12 6375 rfl (zPf 13 14567 fl_97_4 rfl (zPm 17 145639 rfl (zPn 18 407783 rfl (zPf 19 932071 fl_97_4 rfl (zPm 23 9320679 rfl (zPn 24 26097895 rfl (zPf 25 59652327 fl_97_3 rfl (zPm 28 328087783 rfl (zPn 29 864958695 rfl (zPf 30 1938700519 fl_97_3 rfl (zD 3 1938700527 rfl ⟨hS.c, hS.c⟩ (fun w hS => y_load pl_94 rfl hS.1) (zD 8 1938700783 rfl ⟨hS.c, hS.c⟩ (fun w hS => y_load pl_95 rfl hS.2) (zD 14 1938717167 rfl ⟨hS.c, hS.c⟩ (fun w hS => y_load pl_95 rfl hS.2) (zD 20 1939765743 rfl ⟨hS.c, hS.c⟩ (fun w hS => y_load pl_95 rfl hS.2) (zD 26 2006874607 rfl ⟨hS.c, hS.c⟩ (fun w hS => y_load pl_94 rfl hS.1) (zD 31 4154358255 rfl ⟨hS.c, hS.c⟩ (fun w hS => y_load pl_94 rfl hS.1) (zU 4 4154358271 rfl (wl_call (.cons rfl .nil) (lepoch_c h2 (hS.pull Hk)) rfl ?_))))))))))))))))))))))))))))))
  rintro _ w ⟨rfl, hS⟩
  refine zE ⟨fun _ _ => ⟨hS.c, hS.c⟩, zU 9 4154358783 rfl (wl_call (.cons rfl .nil) (cknown_c (by omega) h3 (hS.pull Hc)) rfl ?_)⟩
  rintro v w ⟨M1, zs1, Hz1, hM1, ho1, hr1, h3, hS⟩
  obtain ⟨a1, c1, rfl⟩ := ho1.slice
  have e1 := hr1.len
  refine zE ⟨fun _ _ => ⟨hS.c, hS.c⟩, zP 10 4154359807 rfl (fun w => y_len_sl Tryz.underlying32 rfl) (zU 15 4154392575 rfl (wl_call (.cons rfl .nil) (cpending_c (by omega) h3 (hS.pull Hc)) rfl ?_))⟩
  rintro v w ⟨M2, zs2, Hz2, hM2, ho2, hr2, h3, hS⟩
  obtain ⟨a2, c2, rfl⟩ := ho2.slice
  have e2 := hr2.len
  refine zE ⟨fun _ _ => ⟨hS.c, hS.c⟩, zP 16 4154458111 rfl (fun w => y_len_sl Tryz.underlying32 rfl) (zU 21 4156555263 rfl (wl_call (.cons rfl .nil) (copen_c (by omega) h3 (hS.pull Hc)) rfl ?_))⟩
  rintro v w ⟨Hz3, ho3, hS⟩
  obtain ⟨a3, c3, rfl⟩ := ho3.slice
  refine zE ⟨fun _ _ => ⟨hS.c, hS.c⟩, zP 22 4160749567 rfl (fun w => y_len_sl Tryz.underlying46 rfl) (zU 27 4294967295 rfl (wl_call (.cons rfl .nil) (lwait_c h2 (hS.pull Hk)) rfl ?_))⟩
  rintro _ w ⟨rfl, hS⟩
  refine zE ⟨fun _ _ => ⟨hS.c, hS.c⟩, zU 32 8589934591 rfl (wl_call (.cons rfl .nil) (lunacked_c h2 (hS.pull Hk)) rfl ?_)⟩
  rintro _ w ⟨rfl, hS⟩
  refine zE ⟨fun _ _ => ⟨hS.c, hS.c⟩, zP 33 17179869183 rfl (fun w => y_build (is := [0, 1, 2, 3, 4, 5]) (xs := [_, _, _, _, _, _]) (out := [_, _, _, _, _, _]) plc_30 z_30 (.cons rfl (.cons rfl (.cons rfl (.cons rfl (.cons rfl (.cons rfl .nil)))))) rfl) (zU 34 34359738367 rfl (zG (vs := [_, _, _, _, _, _]) sz_30 rfl hS fun w hS => zE ⟨fun _ _ => ⟨hS.c, hS.c⟩, zH (zV (wret (vs := [_]) (.cell rfl (loadVar_struct st_30 sz_30 (vs := [_, _, _, _, _, _]) rfl (hS.cells rfl)) .nil) ?_))⟩))⟩
  exact ⟨M2, hM1.trans hM2, by unfold lkV Nod.look; simp only; rw [← e1, ← e2] <;> rfl, hb0.mono (hM1.trans hM2), hS.keep⟩
end
end Go.Proofs.YtndahppmjdbifaaGreatDoor.Nod
set_option linter.unusedVariables false
set_option linter.unusedSimpArgs false
namespace Go.Proofs.YtndahppmjdbifaaGreatDoor.Nod
open Go Go.Proofs Eng Pre Val Rou Fra Go.Proofs.YtndahppmjdbifaaGreatDoor.Snd Go.Proofs.YtndahppmjdbifaaGreatDoor.Lnk Jnl Go.Proofs.YtndahppmjdbifaaGreatDoor.Cli
def _root_.Go.Proofs.YtndahppmjdbifaaGreatDoor.Cli.Cli.take1 (m : Cli) (d : ByteArray) : Cli := if gre d = 0 then m.take (grr d) else m
def _root_.Go.Proofs.YtndahppmjdbifaaGreatDoor.Cli.Cli.took1 (m : Cli) (d : ByteArray) : Nat := if gre d = 0 ∧ m.takE (grr d) = 0 then 1 else 0
def _root_.Go.Proofs.YtndahppmjdbifaaGreatDoor.Cli.Cli.takeL (m : Cli) : List ByteArray → Cli
  | [] => m
  | d :: l => (m.take1 d).takeL l
def _root_.Go.Proofs.YtndahppmjdbifaaGreatDoor.Cli.Cli.tookL (m : Cli) : List ByteArray → Nat
  | [] => 0
  | d :: l => m.took1 d + (m.take1 d).tookL l
def _root_.Go.Proofs.YtndahppmjdbifaaGreatDoor.Snd.Rcv.came (m : Rcv) : List ByteArray := m.all.drop m.popped
def _root_.Go.Proofs.YtndahppmjdbifaaGreatDoor.Lnk.Lnk.pops (m : Lnk) (i : Nat) : Lnk := ⟨m.ep, m.s, ⟨m.r.room, m.r.all, m.r.popped + min i m.r.wait⟩, m.win, m.room, m.pas⟩
def Nod.pull (m : Nod) : Nod := { m with own := m.own.takeL m.k.r.came, k := m.k.pops m.k.r.wait }
def Nod.pullN (m : Nod) : Nat := m.own.tookL m.k.r.came
theorem Cli.takeL_app (m : Cli) (l k : List ByteArray) : m.takeL (l ++ k) = (m.takeL l).takeL k := by
  induction l generalizing m with
  | nil => rfl
  | cons d l ih => exact ih _
theorem Cli.tookL_app (m : Cli) (l k : List ByteArray) : m.tookL (l ++ k) = m.tookL l + (m.takeL l).tookL k := by
  induction l generalizing m with
  | nil => simp [Cli.tookL, Cli.takeL]
  | cons d l ih => simp only [List.cons_append, Cli.tookL, Cli.takeL, ih, Nat.add_assoc]
theorem Cli.take_known (m : Cli) (r : Rnd) : (m.take r).known.length ≤ m.known.length + 1 := by
  unfold Cli.take; split <;> simp
theorem Cli.take1_known (m : Cli) (d : ByteArray) : (m.take1 d).known.length ≤ m.known.length + 1 := by
  unfold Cli.take1; split
  · exact Cli.take_known _ _
  omega
theorem Cli.takeL_known (m : Cli) (l : List ByteArray) : (m.takeL l).known.length ≤ m.known.length + l.length := by
  induction l generalizing m with
  | nil => simp [Cli.takeL]
  | cons d l ih => simp only [Cli.takeL, List.length_cons]; have := ih (m.take1 d); have := Cli.take1_known m d; omega
theorem Cli.tookL_le (m : Cli) (l : List ByteArray) : m.tookL l ≤ l.length := by
  induction l generalizing m with
  | nil => simp [Cli.tookL]
  | cons d l ih =>
    simp only [Cli.tookL, List.length_cons]
    have := ih (m.take1 d)
    have : m.took1 d ≤ 1 := by unfold Cli.took1; split <;> omega
    omega
theorem Rcv.came_length (m : Rcv) : m.came.length = m.wait := by unfold Rcv.came Rcv.wait; rw [List.length_drop]
theorem Lnk.pops_0 (m : Lnk) : m.pops 0 = m := by unfold Lnk.pops; simp
theorem Lnk.pops_pop (m : Lnk) (i : Nat) : (m.pops i).pop = m.pops (i + 1) := by
  unfold Lnk.pops Lnk.pop Rcv.pop Rcv.wait
  simp only
  by_cases h : m.r.popped + min i (m.r.all.length - m.r.popped) < m.r.all.length
  · rw [if_pos h]; congr 2; omega
  rw [if_neg h]; congr 2; omega
theorem Lnk.pops_ok (m : Lnk) (i : Nat) (h : m.ok) : (m.pops i).ok := by
  obtain ⟨h1, h2, h3⟩ := h
  refine ⟨h1, h2, ?_⟩
  unfold Rcv.ok Rcv.wait Lnk.pops at *
  simp only
  unfold Rcv.wait
  omega
def Rcv.pd (m : Rcv) (i : Nat) : ByteArray := (m.came[i]?).getD ⟨#[]⟩
theorem Lnk.pops_popV (m : Lnk) (i : Nat) (h : m.ok) : (m.pops i).r.popV = .tuple [.string (Rcv.pd m.r i), .bool (decide (i < m.r.wait))].toArray := by
  obtain ⟨_, _, _, _, h3, _, _⟩ := h
  unfold Rcv.popV Lnk.pops Rcv.pd Rcv.came
  simp only [List.getElem?_drop]
  by_cases hi : i < m.r.wait
  · rw [Nat.min_eq_left (by omega), decide_eq_true hi]
    unfold Rcv.wait at hi
    rw [List.getElem?_eq_getElem (by omega)]
    rfl
  rw [Nat.min_eq_right (by omega), decide_eq_false hi]
  unfold Rcv.wait at hi ⊢
  rw [List.getElem?_eq_none (by omega), List.getElem?_eq_none (by omega)]
  rfl
theorem grr_ups (b : ByteArray) (hb : b.size ≤ 140737488351232) : (grr b).ups.length ≤ 8 := by
  obtain ⟨_, _, h3, h4, _⟩ := gr_ok b hb
  unfold grr
  split
  · unfold gr4; simp only; rw [(rups_ok h3 _).2]; exact h4
  simp
section
variable {M : Mem} {w : World} {Ls : List Chunk}
theorem npull_c (hG : Bits M) {p : Nat} {m : Nod} {H : Chunk} (hk : m.k.ok) (hs : m.small) (hd : ∀ d ∈ m.k.r.all, d.size ≤ 1400) (hb : IsN M p m H) (hS : St M w (H :: Ls)) :
    CallsR Tryz.prog 26 [.pointer (some ⟨p, 0, none⟩)].toArray w fun v w' => ∃ M' H', Mle M M' ∧ v = .int .i64 m.pullN ∧ IsN M' p m.pull H' ∧ St M' w' (H' :: Ls) := by
  obtain ⟨s1, s2, s3, s4⟩ := hs
  obtain ⟨jp, kp, cp, Hj, Hk, Hc, h1, h2, h3, rfl⟩ := hb
  have hcl := Rcv.came_length m.k.r
  have hw16 : m.k.r.wait ≤ 16 := by have := hk.2.2; unfold Rcv.ok at this; omega
  have hda : ∀ d ∈ m.k.r.came, d.size ≤ 1400 := fun d hd' => hd d (List.mem_of_mem_drop hd')
  have hpv := fun i => Lnk.pops_popV m.k i hk
  replace hS := hS.un3
  refine zC 44 Tryz.func26 rfl (zQ (zR (zA rfl (zE (zQ (zR (zA rfl (zE (zQ (zQ (zR (zM rfl (zN rfl (zF fl_97_3 rfl (wl (y_load pl_94 rfl (hS.c (v := .pointer (some ⟨kp, 0, none⟩)))) rfl (wl_call (.cons rfl .nil) (lpop_c hk h2 (hS.pull Hk)) rfl ?_))))))))))))))))
  rintro _ w ⟨Hk1, rfl, hk1, hS⟩
  rw [← Lnk.pops_0 m.k, Lnk.pops_pop] at hk1
  rw [show m.k.r.popV = (m.k.pops 0).r.popV by rw [Lnk.pops_0], hpv 0]
  refine zM rfl (zX rfl (zX rfl (zA rfl (zA rfl (zE (zB (wc_loop (α := Nat × Mem × Chunk × Chunk) (fun ⟨i, _, _, _⟩ => [(0, .pointer (some ⟨p, 0, none⟩)), (3, .int .i64 (m.own.tookL (m.k.r.came.take i))), (4, .string (Rcv.pd m.k.r i)), (5, .bool (decide (i < m.k.r.wait)))]) (fun ⟨i, M1, H1, H2⟩ w => i ≤ m.k.r.wait ∧ Mle M M1 ∧ IsJ M1 jp m.j Hj ∧ IsL kp (m.k.pops (i + 1)) H1 ∧ IsC M1 cp jp (m.own.takeL (m.k.r.came.take i)) H2 ∧ St M1 w ([(p, nodO jp kp cp m)] :: Hj :: H1 :: H2 :: Ls)) (fun ⟨i, _, _, _⟩ => m.k.r.wait - i) (0, M, Hk1, Hc) (sub_cons rfl (sub_cons rfl (sub_cons rfl (subR rfl)))) ⟨by omega, Mle.refl _, h1, hk1, h3, hS.keep⟩ ?_)))))))
  clear hS h3 hk1 h1
  rintro ⟨i, M1, H1, H2⟩ w ⟨hi, hM, h1, hk1, h3, hS⟩
  refine zQ (zQ (zR (zM rfl (zE (zIf rfl (fun hc16 => ?_) fun hc16 => ?_)))))
  · obtain ⟨d, hdi⟩ : ∃ d, m.k.r.came[i]? = some d := ⟨_, List.getElem?_eq_getElem (by omega)⟩
    have hpd : Rcv.pd m.k.r i = d := by unfold Rcv.pd; rw [hdi] <;> rfl
    have hdz := hda d (List.mem_of_getElem? hdi)
    have htk : m.k.r.came.take (i + 1) = m.k.r.came.take i ++ [d] := by rw [List.take_add_one, hdi] <;> rfl
    have hT : m.own.takeL (m.k.r.came.take (i + 1)) = (m.own.takeL (m.k.r.came.take i)).take1 d := by rw [htk, Cli.takeL_app] <;> rfl
    have hN : m.own.tookL (m.k.r.came.take (i + 1)) = m.own.tookL (m.k.r.came.take i) + (m.own.takeL (m.k.r.came.take i)).took1 d := by rw [htk, Cli.tookL_app]; simp [Cli.tookL]
    have hNl := Cli.tookL_le m.own (m.k.r.came.take i)
    have hKl := Cli.takeL_known m.own (m.k.r.came.take i)
    have hul := grr_ups d (by omega)
    simp only [List.length_take] at hNl hKl
    refine zK (zQ (zB (zQ (zR (wl ((y_move rfl).val (congrArg Value.string hpd)) rfl (wl_call (.cons rfl .nil) (rget_c (hG.mono hM) d (by omega) hS) rfl ?_))))))
    rintro _ w ⟨M2, s2, rfl, hM2, hs2, hS⟩
    obtain ⟨sa2, sc2, rfl⟩ := (hs2.holds hS).slice
    refine zM rfl (zX rfl (zX rfl (a_alloc z_48 hS rfl fun b6 w hS => zG (vs := [_, _, _]) sz_48 rfl hS fun w hS => zA rfl (zE (zQ (zW hS (fun w => w.cell? ⟨p, 9, none⟩ = some (.pointer (some ⟨cp, 0, none⟩)) ∧ CellsAt w b6 0 [.int .i64 (grr d).o, .int .i64 (grr d).n, .slice sa2 (grr d).ups.length sc2]) [] wide_ rfl fun w hS => zPm 0 1 rfl (zP 1 3 rfl (fun w => y_eql rfl rfl) (zPm 2 7 rfl (zDc (s := 32) rfl (fun hg32 => ?_) fun hg32 => ?_)))))))))
    · have hT1 : (m.own.takeL (m.k.r.came.take i)).take1 d = (m.own.takeL (m.k.r.came.take i)).take (grr d) := by unfold Cli.take1; rw [if_pos (by omega)]
      rw [hT1] at hT
      refine zPG 3 15 rfl (fun w => y_move rfl) (zPG 4 31 rfl (fun w => y_nil rfl) (zPG 5 63 rfl (fun w => y_fld fl_97_4 rfl) (zDG 6 127 rfl ⟨hS.c, hS.cells rfl⟩ (fun w hS => y_load pl_95 rfl hS.1) (zDG 7 255 rfl ⟨hS.c, hS.cells rfl⟩ (fun w hS => y_loadS st_48 sz_48 rfl hS.2 rfl) (zU 8 511 rfl (zI rfl (wl_call (.cons rfl (.cons rfl .nil)) (ctake_c (grr d) (.slice sa2 (grr d).ups.length sc2) (by omega) hs2 (by omega) (h3.mono hM2) (hS.pull H2)) rfl ?_)))))))
      rintro _ w ⟨M3, H3, hM3, rfl, h3', hS⟩
      refine zE ⟨fun _ _ => ⟨hS.c, hS.cells rfl⟩, zPG 9 1023 rfl (fun w => y_eql rfl rfl) (zP 10 2047 rfl (fun w => y_pickT rfl rfl) (zH (zIf rfl (fun hc40 => ?_) fun hc40 => ?_)))⟩
      · have ht : (m.own.takeL (m.k.r.came.take i)).took1 d = 1 := by unfold Cli.took1; rw [if_pos (by omega)]
        rw [ht] at hN
        refine zR (zM rfl (wl ((y_add rfl rfl (w64 (by omega) (by omega))).val (u := .int .i64 (m.own.tookL (m.k.r.came.take (i + 1)))) (congrArg (Value.int .i64) (by omega))) rfl (zA rfl (zE (zR (zM rfl (zN rfl (zF fl_97_3 rfl (wl (y_load pl_94 rfl (hS.c (v := .pointer (some ⟨kp, 0, none⟩)))) rfl (wl_call (.cons rfl .nil) (lpop_c (Lnk.pops_ok _ _ hk) hk1 (hS.pull H1)) rfl ?_))))))))))
        rintro _ w ⟨Hk2, rfl, hk2, hS⟩
        rw [Lnk.pops_pop] at hk2
        rw [hpv (i + 1)]
        refine zM rfl (zX rfl (zX rfl (zA rfl (zA rfl (zE ?_)))))
        first
        | exact ⟨(i + 1, M3, Hk2, H3), by simp only; omega, sub_cons rfl (sub_cons rfl (sub_cons rfl (subR rfl))), by omega, hM.trans (hM2.trans hM3), h1.mono (hM2.trans hM3), hk2, by rw [hT]; exact h3', hS.keep⟩
        | exact ⟨(i + 1, M3, Hk2, H3), by simp only; omega, sub_cons rfl (sub_cons (congrArg (fun n : Nat => some (Value.int .i64 (n : Int))) hN.symm) (sub_cons rfl (subR rfl))), by omega, hM.trans (hM2.trans hM3), h1.mono (hM2.trans hM3), hk2, by rw [hT]; exact h3', hS.keep⟩
        | exact ⟨(i + 1, M2, Hk2, H2), by simp only; omega, sub_cons rfl (sub_cons (congrArg (fun n : Nat => some (Value.int .i64 (n : Int))) hN.symm) (sub_cons rfl (subR rfl))), by omega, hM.trans hM2, h1.mono hM2, hk2, by rw [hT]; exact h3.mono hM2, hS.keep⟩
      have ht : (m.own.takeL (m.k.r.came.take i)).took1 d = 0 := by unfold Cli.took1; rw [if_neg (by omega)]
      rw [ht, Nat.add_zero] at hN
      refine zK (zR (zM rfl (zN rfl (zF fl_97_3 rfl (wl (y_load pl_94 rfl (hS.c (v := .pointer (some ⟨kp, 0, none⟩)))) rfl (wl_call (.cons rfl .nil) (lpop_c (Lnk.pops_ok _ _ hk) hk1 (hS.pull H1)) rfl ?_))))))
      rintro _ w ⟨Hk2, rfl, hk2, hS⟩
      rw [Lnk.pops_pop] at hk2
      rw [hpv (i + 1)]
      refine zM rfl (zX rfl (zX rfl (zA rfl (zA rfl (zE ?_)))))
      first
      | exact ⟨(i + 1, M3, Hk2, H3), by simp only; omega, sub_cons rfl (sub_cons rfl (sub_cons rfl (subR rfl))), by omega, hM.trans (hM2.trans hM3), h1.mono (hM2.trans hM3), hk2, by rw [hT]; exact h3', hS.keep⟩
      | exact ⟨(i + 1, M3, Hk2, H3), by simp only; omega, sub_cons rfl (sub_cons (congrArg (fun n : Nat => some (Value.int .i64 (n : Int))) hN.symm) (sub_cons rfl (subR rfl))), by omega, hM.trans (hM2.trans hM3), h1.mono (hM2.trans hM3), hk2, by rw [hT]; exact h3', hS.keep⟩
      | exact ⟨(i + 1, M2, Hk2, H2), by simp only; omega, sub_cons rfl (sub_cons (congrArg (fun n : Nat => some (Value.int .i64 (n : Int))) hN.symm) (sub_cons rfl (subR rfl))), by omega, hM.trans hM2, h1.mono hM2, hk2, by rw [hT]; exact h3.mono hM2, hS.keep⟩
    have hT1 : (m.own.takeL (m.k.r.came.take i)).take1 d = (m.own.takeL (m.k.r.came.take i)) := by unfold Cli.take1; rw [if_neg (by omega)]
    have ht : (m.own.takeL (m.k.r.came.take i)).took1 d = 0 := by unfold Cli.took1; rw [if_neg (by omega)]
    rw [hT1] at hT
    rw [ht, Nat.add_zero] at hN
    refine zDO 3 15 rfl (zDO 4 31 rfl (zDO 5 63 rfl (zDO 6 127 rfl (zDO 7 255 rfl (zDO 8 511 rfl (zDO 9 1023 rfl (zP 10 2047 rfl (fun w => y_pickF rfl rfl) (zH (wc_ifF rfl rfl (zK (zR (zM rfl (zN rfl (zF fl_97_3 rfl (wl (y_load pl_94 rfl (hS.c (v := .pointer (some ⟨kp, 0, none⟩)))) rfl (wl_call (.cons rfl .nil) (lpop_c (Lnk.pops_ok _ _ hk) hk1 (hS.pull H1)) rfl ?_))))))))))))))))
    rintro _ w ⟨Hk2, rfl, hk2, hS⟩
    rw [Lnk.pops_pop] at hk2
    rw [hpv (i + 1)]
    refine zM rfl (zX rfl (zX rfl (zA rfl (zA rfl (zE ?_)))))
    first
    | exact ⟨(i + 1, M3, Hk2, H3), by simp only; omega, sub_cons rfl (sub_cons rfl (sub_cons rfl (subR rfl))), by omega, hM.trans (hM2.trans hM3), h1.mono (hM2.trans hM3), hk2, by rw [hT]; exact h3', hS.keep⟩
    | exact ⟨(i + 1, M3, Hk2, H3), by simp only; omega, sub_cons rfl (sub_cons (congrArg (fun n : Nat => some (Value.int .i64 (n : Int))) hN.symm) (sub_cons rfl (subR rfl))), by omega, hM.trans (hM2.trans hM3), h1.mono (hM2.trans hM3), hk2, by rw [hT]; exact h3', hS.keep⟩
    | exact ⟨(i + 1, M2, Hk2, H2), by simp only; omega, sub_cons rfl (sub_cons (congrArg (fun n : Nat => some (Value.int .i64 (n : Int))) hN.symm) (sub_cons rfl (subR rfl))), by omega, hM.trans hM2, h1.mono hM2, hk2, by rw [hT]; exact h3.mono hM2, hS.keep⟩
  obtain rfl : i = m.k.r.wait := by omega
  rw [List.take_of_length_le (by omega)] at h3
  have hp : m.k.pops (m.k.r.wait + 1) = m.k.pops m.k.r.wait := by unfold Lnk.pops; congr 2; omega
  rw [hp] at hk1
  refine wc_exit (zQ (zR (zM rfl (zA rfl (zE (zV (z1 rfl ?_)))))))
  exact ⟨M1, _, hM, congrArg (Value.int .i64) (by unfold Nod.pullN; rw [List.take_of_length_le (by omega)]), ⟨jp, kp, cp, Hj, H1, H2, h1, hk1, h3, rfl⟩, (by have h := hS.keep (T := ((p, nodO jp kp cp m) :: (Hj ++ (H1 ++ H2))) :: Ls); exact h)⟩
end
end Go.Proofs.YtndahppmjdbifaaGreatDoor.Nod
set_option linter.unusedVariables false
set_option linter.unusedSimpArgs false
namespace Go.Proofs.YtndahppmjdbifaaGreatDoor.Nod
open Go Go.Proofs Eng Pre Val Rou Fra Go.Proofs.YtndahppmjdbifaaGreatDoor.Snd Go.Proofs.YtndahppmjdbifaaGreatDoor.Lnk Jnl Go.Proofs.YtndahppmjdbifaaGreatDoor.Cli
structure Pkt where
  frm : Int
  to_ : Int
  bytes : ByteArray
deriving DecidableEq
def encP : Enc Pkt := ⟨3, fun x => [.int .i64 x.frm, .int .i64 x.to_, .string x.bytes], fun _ => rfl, by simp [oneC]⟩
def putB (r : Rnd) : ByteArray := if mayR r = 0 then str (rbytes r) else ⟨#[]⟩
def offl : List Rnd → Lnk → Nat → Lnk × Nat
  | [], k, n => (k, n)
  | r :: l, k, n => if k.s.offerE = 0 then offl l (k.offer (putB r)) (n + 1) else (k, n)
def pkts (origin to_ mtu : Int) (l : List Frm) : List Pkt := l.filterMap fun f => if fputE f mtu = 0 then some ⟨origin, to_, fput f mtu⟩ else none
def Nod.tick (m : Nod) : Nod := { m with k := (offl (m.j.l.drop m.offered) m.k m.offered).1, offered := (offl (m.j.l.drop m.offered) m.k m.offered).2 }
def Nod.tickP (m : Nod) : List Pkt := pkts m.origin 0 m.c.mtu m.tick.k.frames
theorem Lnk.offer_ok {m : Lnk} (h : m.ok) (d : ByteArray) : (m.offer d).ok := ⟨h.1, Snd.offer_ok h.2.1 d, h.2.2⟩
theorem offl_ok {l : List Rnd} {k : Lnk} {n : Nat} (h : k.ok) : (offl l k n).1.ok := by
  induction l generalizing k n with
  | nil => exact h
  | cons r l ih =>
    simp only [offl]
    split
    · exact ih (Lnk.offer_ok h _)
    exact h
abbrev rn (l : List Rnd) (i : Nat) : Rnd := (l[i]?).getD ⟨0, 0, []⟩
abbrev rndO (r : Rnd) (s : Value) : Obj := .cells #[.int .i64 r.o, .int .i64 r.n, s] 48
theorem offl_step {l : List Rnd} {k : Lnk} {n : Nat} {r : Rnd} (hr : l[n]? = some r) (he : k.s.offerE = 0) : offl (l.drop n) k n = offl (l.drop (n + 1)) (k.offer (putB r)) (n + 1) := by
  obtain ⟨hlt, hx⟩ := List.getElem?_eq_some_iff.1 hr
  rw [List.drop_eq_getElem_cons hlt, hx]
  simp only [offl, if_pos he]
theorem offl_stop {l : List Rnd} {k : Lnk} {n : Nat} (h : l.length ≤ n ∨ k.s.offerE ≠ 0) : offl (l.drop n) k n = (k, n) := by
  by_cases hl : l.length ≤ n
  · rw [List.drop_eq_nil_of_le hl] <;> rfl
  rw [List.drop_eq_getElem_cons (by omega)]
  simp only [offl]
  rw [if_neg (by omega)]
theorem rputV_eq (r : Rnd) : rputV r = .tuple [.string (putB r), .int .i64 (mayR r)].toArray := by
  unfold rputV putB
  split
  · rename_i h; rw [h] <;> rfl
  rfl
theorem frames_length (m : Lnk) (h : m.ok) : m.frames.length ≤ 16 := by
  obtain ⟨_, h2, _⟩ := h
  unfold Snd.ok at h2
  unfold Lnk.frames
  split
  · simp
  split
  · simp
  rw [List.length_map, pieces_length]; omega
theorem pkts_take {origin to_ mtu : Int} {l : List Frm} {i : Nat} {f : Frm} (h : l[i]? = some f) : pkts origin to_ mtu (l.take (i + 1)) = pkts origin to_ mtu (l.take i) ++ (if fputE f mtu = 0 then [⟨origin, to_, fput f mtu⟩] else []) := by
  unfold pkts
  rw [List.take_add_one, h, List.filterMap_append]
  congr 1
  by_cases hc : fputE f mtu = 0 <;> simp [hc]
theorem pkts_length {origin to_ mtu : Int} {l : List Frm} : (pkts origin to_ mtu l).length ≤ l.length := List.length_filterMap_le _ _
section
variable {M : Mem} {w : World} {Ls : List Chunk}
theorem ntick_c (hG : Bits M) {p : Nat} {m : Nod} {H : Chunk} (hk : m.k.ok) (hs : m.small) (hfs : ∀ f ∈ m.tick.k.frames, f.data.size ≤ 34359738368) (hb : IsN M p m H) (hS : St M w (H :: Ls)) :
    CallsR Tryz.prog 17 [.pointer (some ⟨p, 0, none⟩)].toArray w fun v w' => ∃ M' H' Hp, Mle M M' ∧ Own 40 encP v m.tickP Hp ∧ IsN M' p m.tick H' ∧ St M' w' (Hp :: H' :: Ls) := by
  obtain ⟨s1, s2, s3, s4⟩ := hs
  obtain ⟨jp, kp, cp, Hj, Hk, Hc, h1, h2, h3, rfl⟩ := hb
  replace hS := hS.un3
  refine zC 90 Tryz.func17 rfl (zQ (zR (zA rfl (zE (wc_cut (α := Mem × Chunk) (fun _ => [(0, .pointer (some ⟨p, 0, none⟩))]) (fun ⟨M1, H1⟩ w => Mle M M1 ∧ IsJ M1 jp m.j Hj ∧ IsL kp m.tick.k H1 ∧ St M1 w ([(p, nodQ m.c m.origin jp kp cp m.tick.offered)] :: Hj :: H1 :: Hc :: Ls)) ?_ ?_)))))
  · refine wc_cut (α := Mem × Value × Nat) (fun ⟨_, _, b3⟩ => [(0, .pointer (some ⟨p, 0, none⟩)), (3, .pointer (some ⟨b3, 0, none⟩)), (4, .bool (decide (m.offered < m.j.l.length)))]) (fun ⟨M1, s, b3⟩ w => Mle M M1 ∧ IsJ M1 jp m.j Hj ∧ Rd M1 encU s (rn m.j.l m.offered).ups ∧ St M1 w ([(b3, rndO (rn m.j.l m.offered) s)] :: [(p, nodO jp kp cp m)] :: Hj :: Hk :: Hc :: Ls)) ?_ ?_
    · refine zW hS (fun w => w.cell? ⟨p, 7, none⟩ = some (.pointer (some ⟨jp, 0, none⟩)) ∧ w.cell? ⟨p, 10, none⟩ = some (.int .i64 m.offered)) [13, 14] wide_ rfl fun w hS => ?_
      refine zPm 0 1 rfl (zPn 1 3 rfl (zPf 2 7 fl_97_2 rfl (zPm 4 23 rfl (zPn 5 55 rfl (zPf 6 119 fl_97_5 rfl (zD 3 127 rfl ⟨hS.c, hS.c⟩ (fun w hS => y_load pl_93 rfl hS.1) (zD 7 255 rfl ⟨hS.c, hS.c⟩ (fun w hS => y_load pl_3 rfl hS.2) (dr_do2 (i := 8) (j := 12) (lb 15 511) (lb 15 4351) rfl rfl (by kernel_rfl) ?_ ?_))))))))
      · refine wl_call (.cons rfl (.cons rfl .nil)) (jat_c m.offered h1 (hS.pull Hj)) rfl ?_
        rintro _ w ⟨M1, s1', hM1, hs1, rfl, h1', hS⟩
        obtain ⟨sa1, sc1, rfl⟩ := (hs1.holds hS).slice
        refine zE ⟨fun _ _ => ⟨hS.c, hS.c⟩, zPm 9 1023 rfl (zPx 10 2047 rfl (zPx 11 4095 rfl (zU 12 8191 rfl (a_alloc z_48 hS rfl fun b3 w hS => zE ⟨fun _ _ => ⟨hS.c, hS.c⟩, zU 13 16383 rfl (zG (vs := [_, _, _]) sz_48 rfl hS fun w hS => zE ⟨fun _ _ => ⟨hS.c, hS.c⟩, zPa 14 32767 rfl (zH ?_)⟩)⟩))))⟩
        simp only [zL, cells_agg, setCells] at hS
        exact ⟨(M1, .slice sa1 _ sc1, b3), sub_cons rfl (sub_cons rfl (subR rfl)), hM1, h1', hs1, hS.keep⟩
      refine a_alloc z_48 hS rfl fun b3 w hS => ?_
      refine zE ⟨fun _ _ => ⟨hS.c, hS.c⟩, zU 8 4607 rfl (wl_call (.cons rfl (.cons rfl .nil)) (jat_c m.offered h1 (hS.pull Hj)) rfl ?_)⟩
      rintro _ w ⟨M1, s1', hM1, hs1, rfl, h1', hS⟩
      obtain ⟨sa1, sc1, rfl⟩ := (hs1.holds hS).slice
      refine zE ⟨fun _ _ => ⟨hS.c, hS.c⟩, zPm 9 5119 rfl (zPx 10 6143 rfl (zPx 11 8191 rfl (zU 13 16383 rfl (zG (vs := [_, _, _]) sz_48 rfl hS fun w hS => zE ⟨fun _ _ => ⟨hS.c, hS.c⟩, zPa 14 32767 rfl (zH ?_)⟩))))⟩
      simp only [zL, cells_agg, setCells] at hS
      exact ⟨(M1, .slice sa1 _ sc1, b3), sub_cons rfl (sub_cons rfl (subR rfl)), hM1, h1', hs1, hS.keep⟩
    clear hS
    rintro ⟨M1, s, b3⟩ w ⟨hM1, h1', hs1, hS⟩
    refine zB (wc_loop (α := Nat × Lnk × Mem × Value × Nat × Chunk) (fun ⟨n, _, _, _, b3, _⟩ => [(0, .pointer (some ⟨p, 0, none⟩)), (3, .pointer (some ⟨b3, 0, none⟩)), (4, .bool (decide (n < m.j.l.length)))]) (fun ⟨n, k, M1, s, b3, H1⟩ w => offl (m.j.l.drop m.offered) m.k m.offered = offl (m.j.l.drop n) k n ∧ k.ok ∧ Mle M M1 ∧ IsJ M1 jp m.j Hj ∧ IsL kp k H1 ∧ Rd M1 encU s (rn m.j.l n).ups ∧ St M1 w ([(b3, rndO (rn m.j.l n) s)] :: [(p, nodQ m.c m.origin jp kp cp n)] :: Hj :: H1 :: Hc :: Ls)) (fun ⟨n, _⟩ => m.j.l.length - n) (m.offered, m.k, M1, s, b3, Hk) (sub_cons rfl (sub_cons rfl (subR rfl))) ⟨rfl, hk, hM1, h1', h2, hs1, hS⟩ ?_)
    clear hS h1' hs1 hM1 b3 s M1
    rintro ⟨n, k, M1, s, b3, H1⟩ w ⟨hq, hk1, hM1, h1', h2', hs1, hS⟩
    refine zQ (zQ (zR (zM rfl (zE (zIf rfl (fun hc24 => ?_) fun hc24 => ?_)))))
    · obtain ⟨r, hr⟩ : ∃ r, m.j.l[n]? = some r := ⟨_, List.getElem?_eq_getElem (by omega)⟩
      have hrn : rn m.j.l n = r := by unfold rn; rw [hr] <;> rfl
      rw [hrn] at hs1 hS
      obtain ⟨sa, sc, rfl⟩ := (hs1.holds hS).slice
      refine zK (zQ (zB (zQ (zR (wl ((y_loadS st_48 sz_48 rfl (vs := [.int .i64 r.o, .int .i64 r.n, .slice sa r.ups.length sc]) (hS.cells rfl) rfl).val (show _ = rvS r (.slice sa r.ups.length sc) from rfl)) rfl (wl_call (.cons rfl .nil) (rput_c (hG.mono hM1) r _ hs1 hS) rfl ?_))))))
      rintro _ w ⟨rfl, hS⟩
      rw [rputV_eq]
      refine zM rfl (zX rfl (zX rfl (zA rfl (zA rfl (zE (zQ (zQ (zR (zM rfl (zN rfl (zF fl_97_3 rfl (wl (y_load pl_94 rfl (hS.c (v := .pointer (some ⟨kp, 0, none⟩)))) rfl (zM rfl (wl_call (.cons rfl (.cons rfl .nil)) (loffer_c (putB r) hk1 h2' (hS.pull H1)) rfl ?_))))))))))))))
      rintro _ w ⟨H2, rfl, h3', hS⟩
      refine wl (y_neq rfl rfl) rfl (zE (zIf rfl (fun hc48 => ?_) fun hc48 => ?_))
      · replace hq := hq.trans (offl_stop (.inr (by omega)))
        have hk' : m.tick.k = k := by unfold Nod.tick; rw [hq]
        have ho' : m.tick.offered = n := by unfold Nod.tick; rw [hq]
        have hkk : k.offer (putB r) = k := by unfold Lnk.offer Snd.offer; rw [if_neg (by omega)]
        rw [hkk] at h3'
        refine wc_exit ?_
        first
        | exact ⟨(M1, H2), subR rfl, hM1, h1', by rw [hk']; exact h3', by rw [ho']; exact hS.keep⟩
        | exact ⟨(M1, H1), subR rfl, hM1, h1', by rw [hk']; exact h2', by rw [ho']; exact hS.keep⟩
      replace hq := hq.trans (offl_step hr (by omega))
      refine zK (zR (zM rfl (zN rfl (zF fl_97_5 rfl (wl (y_load pl_3 rfl (hS.c (v := .int .i64 n))) rfl (wl ((y_add rfl rfl (w64 (by omega) (by omega))).val (u := .int .i64 ((n + 1 : Nat) : Int)) (congrArg (Value.int .i64) (by omega))) rfl (zN rfl (zF fl_97_5 rfl (zS sz_3 rfl hS fun w hS => zE (zQ (zQ (zR (wl ((y_loadS st_48 sz_48 rfl (vs := [.int .i64 r.o, .int .i64 r.n, .slice sa r.ups.length sc]) (hS.cells rfl) rfl).val (show _ = rvS r (.slice sa r.ups.length sc) from rfl)) rfl (zE (zR (a_alloc z_48 hS rfl fun b3 w hS => zG (vs := [_, _, _]) sz_48 rfl hS fun w hS => zE (zW hS (fun w => w.cell? ⟨p, 7, none⟩ = some (.pointer (some ⟨jp, 0, none⟩)) ∧ w.cell? ⟨p, 10, none⟩ = some (.int .i64 ((n + 1 : Nat) : Int))) [12, 13] wide_ rfl fun w hS => zPm 0 1 rfl (zPn 1 3 rfl (zPf 2 7 fl_97_2 rfl (zPm 4 23 rfl (zPn 5 55 rfl (zPf 6 119 fl_97_5 rfl (zD 3 127 rfl ⟨hS.c, hS.c⟩ (fun w hS => y_load pl_93 rfl hS.1) (zD 7 255 rfl ⟨hS.c, hS.c⟩ (fun w hS => y_load pl_3 rfl hS.2) (zU 8 511 rfl (wl_call (.cons rfl (.cons rfl .nil)) (jat_c (n + 1) h1' (hS.pull Hj)) rfl ?_))))))))))))))))))))))))))
      rintro _ w ⟨M2, s2', hM2, hs2, rfl, h1'', hS⟩
      obtain ⟨sa2, sc2, rfl⟩ := (hs2.holds hS).slice
      refine zE ⟨fun _ _ => ⟨hS.c, hS.c⟩, zPm 9 1023 rfl (zPx 10 2047 rfl (zPx 11 4095 rfl (zU 12 8191 rfl (zG (vs := [_, _, _]) sz_48 rfl hS fun w hS => zE ⟨fun _ _ => ⟨hS.c, hS.c⟩, zPa 13 16383 rfl (zH ?_)⟩))))⟩
      simp only [zL, cells_agg, setCells] at hS
      exact ⟨(n + 1, k.offer (putB r), M2, .slice sa2 _ sc2, b3, H2), by simp only; omega, sub_cons rfl (sub_cons rfl (subR rfl)), hq, Lnk.offer_ok hk1 _, hM1.trans hM2, h1'', h3', hs2, hS.keep⟩
    replace hq := hq.trans (offl_stop (.inl (by omega)))
    have hk' : m.tick.k = k := by unfold Nod.tick; rw [hq]
    have ho' : m.tick.offered = n := by unfold Nod.tick; rw [hq]
    refine wc_exit ?_
    first
    | exact ⟨(M1, H2), subR rfl, hM1, h1', by rw [hk']; exact h3', by rw [ho']; exact hS.keep⟩
    | exact ⟨(M1, H1), subR rfl, hM1, h1', by rw [hk']; exact h2', by rw [ho']; exact hS.keep⟩
  clear hS
  rintro ⟨M1, H1⟩ w ⟨hM1, h1', h2', hS⟩
  have htk : m.tick.k.ok := offl_ok hk
  have hfl := frames_length m.tick.k htk
  refine zQ (zR (zA rfl (zE (zQ (zQ (zR (zM rfl (zN rfl (zF fl_97_3 rfl (wl (y_load pl_94 rfl (hS.c (v := .pointer (some ⟨kp, 0, none⟩)))) rfl (wl_call (.cons rfl .nil) (lframes_c htk h2' (hS.pull H1)) rfl ?_)))))))))))
  rintro _ w ⟨Hf, hof, hS⟩
  obtain ⟨fa, fc, rfl⟩ := hof.slice
  refine wl (y_len_sl Tryz.underlying106 rfl) rfl (zM rfl (zE (zB (wc_loop (α := Nat × Value × Chunk) (fun ⟨i, s, _⟩ => [(0, .pointer (some ⟨p, 0, none⟩)), (7, s), (61, .slice fa m.tick.k.frames.length fc), (62, .int .i64 m.tick.k.frames.length), (63, .int .i64 i)]) (fun ⟨i, s, Ho⟩ w => i ≤ m.tick.k.frames.length ∧ Own 40 encP s (pkts m.origin 0 m.c.mtu (m.tick.k.frames.take i)) Ho ∧ St M1 w (Ho :: Hf :: H1 :: [(p, nodQ m.c m.origin jp kp cp m.tick.offered)] :: Hj :: Hc :: Ls)) (fun ⟨i, _, _⟩ => m.tick.k.frames.length - i) (0, .slice none 0 0, []) (sub_cons rfl (sub_cons rfl (sub_cons rfl (sub_cons rfl (subR rfl))))) ⟨by omega, .nil, St.nil hS.keep⟩ ?_))))
  clear hS
  rintro ⟨i, s, Ho⟩ w ⟨hi, hoo, hS⟩
  refine zQ (zR (wl (y_lss rfl rfl) rfl (zE (zQ (zIf rfl (fun hc64 => ?_) fun hc64 => ?_)))))
  · refine zK ?_
    refine zQ (zB (zQ ?_))
    have hi' : i < m.tick.k.frames.length := by omega
    obtain ⟨f, hfi⟩ : ∃ f, m.tick.k.frames[i]? = some f := ⟨_, List.getElem?_eq_getElem hi'⟩
    have hpt := pkts_take (origin := m.origin) (to_ := 0) (mtu := m.c.mtu) hfi
    have hpl := pkts_length (origin := m.origin) (to_ := 0) (mtu := m.c.mtu) (l := m.tick.k.frames.take i)
    rw [List.length_take] at hpl
    have hfz := hfs f (List.mem_of_getElem? hfi)
    obtain ⟨bb, off, c', hse, hce⟩ := (hof.holds (hS.pull Hf)).at hfi
    simp only [Value.slice.injEq] at hse
    have hSk := hS
    obtain ⟨rfl, _, rfl⟩ := hse
    replace hS := hSk
    obtain ⟨oa, oc, rfl⟩ := hoo.slice
    refine zR (wl (y_ixa_sl Tryz.underlying106 sz_42 rfl rfl (by omega) (by omega)) rfl (wl ((y_loadS st_42 sz_42 rfl (vs := encF.f f) hce rfl).val (show _ = fv f from rfl)) rfl (a_alloc z_42 hS rfl fun b9 w hS => zG (vs := [_, _, _, _]) sz_42 rfl hS fun w hS => zE (zQ (zW hS (fun w => CellsAt w b9 0 (encF.f f) ∧ w.cell? ⟨p, 4, none⟩ = some (.int .i64 m.c.mtu)) [6] wide_ rfl fun w hS => zPm 1 2 rfl (zPn 2 6 rfl (zPf 3 14 fl_97_0 rfl (zPf 4 30 fl_23_4 rfl (zD 0 31 rfl ⟨hS.cells rfl, hS.c⟩ (fun w hS => (y_loadS st_42 sz_42 rfl hS.1 rfl).val (show _ = fv f from rfl)) (zD 5 63 rfl ⟨hS.cells rfl, hS.c⟩ (fun w hS => y_load pl_3 rfl hS.2) (zU 6 127 rfl (wl_call (.cons rfl (.cons rfl .nil)) (fput_c (hG.mono hM1) f m.c.mtu hfz hS) rfl ?_))))))))))))
    rintro _ w ⟨rfl, hS⟩
    refine zE ⟨fun h => absurd (by decide) h, zPm 7 255 rfl (zPx 8 511 rfl (zPx 9 1023 rfl (zPa 10 2047 rfl (zPa 11 4095 rfl (zH (zQ (zR (zM rfl (wl (y_eql rfl rfl) rfl (zE (zIf rfl (fun hc78 => ?_) fun hc78 => ?_)))))))))))⟩
    · rw [if_pos (by omega)] at hpt
      refine zR (zM rfl (zM rfl (zN rfl (zF fl_97_1 rfl (wl (y_load pl_3 rfl (hS.c (v := .int .i64 m.origin))) rfl (zM rfl (wl (y_build (is := [0, 2]) (xs := [_, _]) (out := [_, _, _]) plc_40 z_40 (.cons rfl (.cons rfl .nil)) rfl) rfl (a_bslice encP [⟨m.origin, 0, fput f m.c.mtu⟩] Tryz.underlying37 sz_40 z_40 rfl (.cons rfl .nil) rfl rfl rfl (by decide) hS rfl fun u Hu w hou hS => a_append Tryz.underlying37 Tryz.underlying37 sz_40 z_40 rfl by_40 (by decide) rfl rfl hoo (hou.holds hS) hS (by simp; omega) rfl fun s2 H2 w ho2 hS => ?_))))))))
      rw [← hpt] at ho2
      refine zA rfl (zE (zR (wl (y_add rfl rfl (w64 (by omega) (by omega))) rfl (zM rfl (zE ?_)))))
      first
      | exact ⟨(i + 1, _, H2), by simp only; omega, sub_cons rfl (sub_cons rfl (sub_cons rfl (sub_cons rfl (subR rfl)))), by omega, ho2, hS.keep⟩
      | exact ⟨(i + 1, _, Ho), by simp only; omega, sub_cons rfl (sub_cons rfl (sub_cons rfl (sub_cons rfl (subR rfl)))), by omega, by rw [hpt]; exact hoo, hS.keep⟩
    rw [if_neg (by omega), List.append_nil] at hpt
    refine zK (zR (wl (y_add rfl rfl (w64 (by omega) (by omega))) rfl (zM rfl (zE ?_))))
    first
    | exact ⟨(i + 1, _, H2), by simp only; omega, sub_cons rfl (sub_cons rfl (sub_cons rfl (sub_cons rfl (subR rfl)))), by omega, ho2, hS.keep⟩
    | exact ⟨(i + 1, _, Ho), by simp only; omega, sub_cons rfl (sub_cons rfl (sub_cons rfl (sub_cons rfl (subR rfl)))), by omega, by rw [hpt]; exact hoo, hS.keep⟩
  obtain rfl : i = m.tick.k.frames.length := by omega
  rw [List.take_length] at hoo
  refine wc_exit (zQ (zR (zM rfl (zA rfl (zE (zV (z1 rfl ?_)))))))
  exact ⟨M1, _, Ho, hM1, hoo, ⟨jp, kp, cp, Hj, H1, Hc, h1', h2', h3.mono hM1, rfl⟩, (by have h := hS.keep (T := Ho :: ((p, nodQ m.c m.origin jp kp cp m.tick.offered) :: (Hj ++ (H1 ++ Hc))) :: Ls); exact h)⟩
end
end Go.Proofs.YtndahppmjdbifaaGreatDoor.Nod
set_option linter.unusedVariables false
set_option linter.unusedSimpArgs false
namespace Go.Proofs.YtndahppmjdbifaaGreatDoor.Sto
open Go Go.Proofs Eng Pre Val Rou Jnl Cli Nod
abbrev KV := List (ByteArray × Valu)
def vGet (k : ByteArray) (kv : KV) : Valu := (kvGet k kv).getD val0
def sdo (kv : KV) (u : Upd) : KV := if mayU u ≠ 0 then kv else if (apply (vGet u.key kv) u).kind = 0 then kvDel u.key kv else kvSet u.key (apply (vGet u.key kv) u) kv
def sdoL (kv : KV) (l : List Upd) : KV := l.foldl sdo kv
def kvOk (kv : KV) : Prop := ∀ p ∈ kv, p.2.s.size ≤ 1024
theorem mem_set {k : ByteArray} {x : Valu} {l : KV} {p : ByteArray × Valu} (h : p ∈ kvSet k x l) : p = (k, x) ∨ p ∈ l := by
  induction l with
  | nil => simpa [kvSet] using h
  | cons q l ih =>
    obtain ⟨a, y⟩ := q
    simp only [kvSet] at h
    split at h
    · rcases List.mem_cons.1 h with h | h
      · exact .inl h
      exact .inr (List.mem_cons_of_mem _ h)
    rcases List.mem_cons.1 h with h | h
    · exact .inr (h ▸ List.mem_cons_self)
    rcases ih h with h | h
    · exact .inl h
    exact .inr (List.mem_cons_of_mem _ h)
theorem mem_del {k : ByteArray} {l : KV} {p : ByteArray × Valu} (h : p ∈ kvDel k l) : p ∈ l := by
  induction l with
  | nil => exact h
  | cons q l ih =>
    obtain ⟨a, y⟩ := q
    simp only [kvDel] at h
    split at h
    · exact List.mem_cons_of_mem _ h
    rcases List.mem_cons.1 h with h | h
    · exact h ▸ List.mem_cons_self
    exact List.mem_cons_of_mem _ (ih h)
theorem get_mem {k : ByteArray} {l : KV} {x : Valu} (h : kvGet k l = some x) : ∃ a, (a, x) ∈ l := by
  induction l with
  | nil => cases h
  | cons q l ih =>
    obtain ⟨a, y⟩ := q
    simp only [kvGet] at h
    split at h
    · cases h; exact ⟨a, List.mem_cons_self⟩
    obtain ⟨b, hb⟩ := ih h
    exact ⟨b, List.mem_cons_of_mem _ hb⟩
theorem vGet_ok {kv : KV} (h : kvOk kv) (k : ByteArray) : (vGet k kv).s.size ≤ 1024 := by
  unfold vGet
  cases hg : kvGet k kv with
  | none => simp [val0]
  | some x => obtain ⟨a, ha⟩ := get_mem hg; exact h _ ha
theorem mayU_s {u : Upd} (h : mayU u = 0) : u.s.size ≤ 32 := by
  unfold mayU at h
  split at h; · cases h
  split at h; · cases h
  split at h
  · split at h; · cases h
    rename_i hs; simp only [Decidable.not_not] at hs; rw [hs]; decide
  split at h
  · split at h; · cases h
    split at h; · cases h
    omega
  split at h
  · split at h; · cases h
    split at h; · cases h
    rename_i hs; simp only [Decidable.not_not] at hs; rw [hs]; decide
  cases h
theorem clean_s (x : Valu) : (clean x).s.size ≤ x.s.size := by
  unfold clean; split
  · simp [num]
  split
  · simp [txt]
  simp [val0]
theorem app_s {x : Valu} {u : Upd} (hx : x.s.size ≤ 1024) (hu : u.s.size ≤ 32) : (app x u).s.size ≤ 1024 := by
  unfold app
  split; · simp [num]
  split; · simp [txt]; omega
  split; · simp [val0]
  split
  · split
    · simp [num]
    exact hx
  split
  · split; · simp [txt]; omega
    split
    · split
      · rename_i h; simp only [txt, ByteArray.size_append]; omega
      exact hx
    exact hx
  exact hx
theorem apply_s {x : Valu} {u : Upd} (hx : x.s.size ≤ 1024) (hu : u.s.size ≤ 32) : (apply x u).s.size ≤ 1024 := by
  unfold apply; exact app_s (Nat.le_trans (clean_s x) hx) hu
theorem sdo_ok {kv : KV} (h : kvOk kv) (u : Upd) : kvOk (sdo kv u) := by
  unfold sdo
  split
  · exact h
  rename_i hm
  split
  · exact fun p hp => h p (mem_del hp)
  intro p hp
  rcases mem_set hp with rfl | hp
  · exact apply_s (vGet_ok h _) (mayU_s (by omega))
  exact h p hp
theorem sdoL_ok {kv : KV} (h : kvOk kv) (l : List Upd) : kvOk (sdoL kv l) := by
  induction l generalizing kv with
  | nil => exact h
  | cons u l ih => exact ih (sdo_ok h u)
theorem sdoL_app (kv : KV) (l k : List Upd) : sdoL kv (l ++ k) = sdoL (sdoL kv l) k := List.foldl_append
def IsSt (p : Nat) (kv : KV) (H : Chunk) : Prop := ∃ mp Hm, IsMap vv mp kv Hm ∧ H = (p, .cells #[.map (some mp)] 258) :: Hm
section
variable {M : Mem} {w : World} {Ls : List Chunk}
theorem snew_c (hS : St M w Ls) : CallsR Tryz.prog 193 [].toArray w fun v w' => ∃ p H, v = .pointer (some ⟨p, 0, none⟩) ∧ IsSt p [] H ∧ St M w' (H :: Ls) := by
  refine zC 4 Tryz.func193 rfl (zQ (zR (zA rfl (zE (zQ (zR (a_mkmap vv hS rfl fun mp Hm w hm hS => wl (y_build (is := [0]) (xs := [_]) (out := [_]) plc_258 z_258 (.cons rfl .nil) rfl) rfl (a_box rfl hS rfl fun b3 w hS => zA rfl (zE (zV (z1 rfl ?_)))))))))))
  exact ⟨_, _, rfl, ⟨mp, Hm, hm, rfl⟩, (by have h := hS.cons; exact h)⟩
theorem sget_c (k : ByteArray) {p : Nat} {kv : KV} {H : Chunk} (hb : IsSt p kv H) (hS : St M w (H :: Ls)) : CallsR Tryz.prog 178 [.pointer (some ⟨p, 0, none⟩), .string k].toArray w fun v w' => v = vv (vGet k kv) ∧ St M w' (H :: Ls) := by
  obtain ⟨mp, Hm, hm, rfl⟩ := hb
  replace hS := hS.uncons
  refine zC 11 Tryz.func178 rfl (zQ (zR (a_alloc z_65 hS rfl fun b4 w hS => zE (zQ (zR (zM rfl (zN rfl (zF fl_258_0 rfl (wl (y_load pl_256 rfl (hS.c (v := .map (some mp)))) rfl (zM rfl (wl ((y_mget Tryz.underlying256 Tryz.underlying9 z_65 rfl rfl hm hS).val (show _ = vv (vGet k kv) by unfold vGet; cases kvGet k kv <;> rfl)) rfl (zG (vs := [_, _, _]) sz_65 rfl hS fun w hS => zE (zV (wret (vs := [_]) (.cell rfl (loadVar_struct st_65 sz_65 (vs := [_, _, _]) rfl (hS.cells rfl)) .nil) ?_))))))))))))))
  exact ⟨rfl, hS.keep⟩
theorem slen_c {p : Nat} {kv : KV} {H : Chunk} (hb : IsSt p kv H) (hS : St M w (H :: Ls)) : CallsR Tryz.prog 185 [.pointer (some ⟨p, 0, none⟩)].toArray w fun v w' => v = .int .i64 kv.length ∧ St M w' (H :: Ls) := by
  obtain ⟨mp, Hm, hm, rfl⟩ := hb
  replace hS := hS.uncons
  refine zC 8 Tryz.func185 rfl (zQ (zR (zA rfl (zE (zQ (zR (zM rfl (zN rfl (zF fl_258_0 rfl (wl (y_load pl_256 rfl (hS.c (v := .map (some mp)))) rfl (wl (y_mlen Tryz.underlying256 rfl hm hS) rfl (zA rfl (zE (zV (z1 rfl ?_)))))))))))))))
  exact ⟨rfl, hS.keep⟩
theorem sdo_c (u : Upd) {p : Nat} {kv : KV} {H : Chunk} (hk : kvOk kv) (hb : IsSt p kv H) (hS : St M w (H :: Ls)) : CallsR Tryz.prog 194 [.pointer (some ⟨p, 0, none⟩), uv u].toArray w fun v w' => ∃ H', v = .int .i64 (mayU u) ∧ IsSt p (sdo kv u) H' ∧ St M w' (H' :: Ls) := by
  have hb0 := hb
  obtain ⟨mp, Hm, hm, rfl⟩ := hb
  have hm0 := hm
  obtain ⟨es, clock, hr, rfl⟩ := hm
  replace hS := hS.uncons
  refine zC 37 Tryz.func194 rfl (zQ (zR (a_box rfl hS rfl fun b3 w hS => zA rfl (zE (zQ (zQ (zR (wl ((y_loadS st_59 sz_59 rfl (vs := encU.f u) (hS.cells rfl) rfl).val (show _ = uv u from rfl)) rfl (wl_call (.cons rfl .nil) (may_c u hS) rfl ?_)))))))))
  rintro _ w ⟨rfl, hS⟩
  refine zA rfl (zE (zQ (zR (zM rfl (wl (y_neq rfl rfl) rfl (zE (zIf rfl (fun hc10 => ?_) fun hc10 => ?_)))))))
  · have hq : sdo kv u = kv := by unfold sdo; rw [if_pos (by omega)]
    rw [hq]
    refine zQ (zR (zM rfl (zA rfl (zE (zV (z1 rfl ?_))))))
    first
    | exact ⟨_, rfl, ⟨mp, H2, hm2, rfl⟩, hS.keep⟩
    | exact ⟨_, rfl, hb0, hS.keep⟩
  have hmu : mayU u = 0 := by omega
  have hus := mayU_s hmu
  have hvs := vGet_ok hk u.key
  rw [hmu]
  refine zK (zQ (zW hS (fun w => w.cell? ⟨p, 0, none⟩ = some (.map (some mp)) ∧ w.cell? ⟨b3, 0, none⟩ = some (.string u.key) ∧ CellsAt w b3 0 (encU.f u) ∧ w.heap[mp]? = some (.map es.toArray clock)) [8, 10] wide_ rfl fun w hS => zPm 0 1 rfl (zPn 1 3 rfl (zPf 2 7 fl_258_0 rfl (zPf 4 23 fl_59_0 rfl (zD 3 31 rfl ⟨hS.c, hS.c, hS.cells rfl, hS.has⟩ (fun w hS => y_load pl_256 rfl hS.1) (zD 5 63 rfl ⟨hS.c, hS.c, hS.cells rfl, hS.has⟩ (fun w hS => y_load pl_9 rfl hS.2.1) (zD 6 127 rfl ⟨hS.c, hS.c, hS.cells rfl, hS.has⟩ (fun w hS => (y_mgetH Tryz.underlying256 Tryz.underlying9 z_65 rfl rfl hr hS.2.2.2).val (show _ = vv (vGet u.key kv) by unfold vGet; cases kvGet u.key kv <;> rfl)) (zD 7 255 rfl ⟨hS.c, hS.c, hS.cells rfl, hS.has⟩ (fun w hS => (y_loadS st_59 sz_59 rfl hS.2.2.1 rfl).val (show _ = uv u from rfl)) (dr_do2 (i := 8) (j := 9) (lb 11 511) (lb 11 767) rfl rfl (by kernel_rfl) ?_ ?_))))))))))
  · refine wl_call (.cons rfl (.cons rfl .nil)) (apply_c (vGet u.key kv) u (by omega) (by omega) hS) rfl ?_
    rintro _ w ⟨rfl, hS⟩
    refine zE ⟨fun h => absurd (by decide) h, zU 9 1023 rfl (a_alloc z_65 hS rfl fun b6 w hS => zE ⟨fun _ _ => ⟨hS.c, hS.c, hS.cells rfl, hS.has⟩, zU 10 2047 rfl (zG (vs := [_, _, _]) sz_65 rfl hS fun w hS => zE ⟨fun h => absurd (by decide) h, zH (zQ (zQ (zR (zF fl_65_0 rfl (wl (y_load pl_3 rfl (hS.cell rfl)) rfl (wl (y_eql rfl rfl) rfl (zE (zIf rfl (fun hc23 => ?_) fun hc23 => ?_))))))))⟩)⟩)⟩
    · have hq : sdo kv u = kvDel u.key kv := by unfold sdo; rw [if_neg (by omega), if_pos (by omega)]
      rw [hq]
      refine zW hS (fun w => w.cell? ⟨p, 0, none⟩ = some (.map (some mp)) ∧ w.cell? ⟨b3, 0, none⟩ = some (.string u.key)) [6] wide_ rfl fun w hS => zPm 0 1 rfl (zPn 1 3 rfl (zPf 2 7 fl_258_0 rfl (zPf 4 23 fl_59_0 rfl (zD 3 31 rfl ⟨hS.c, hS.c⟩ (fun w hS => y_load pl_256 rfl hS.1) (zD 5 63 rfl ⟨hS.c, hS.c⟩ (fun w hS => y_load pl_9 rfl hS.2) (zU 6 127 rfl (a_mdel Tryz.underlying256 Tryz.underlying9 rfl rfl hm0 hS fun H2 w hm2 hS => zE ⟨fun h => absurd (by decide) h, zH (zQ (zR (zA rfl (zE (zV (z1 rfl ?_))))))⟩)))))))
      first
      | exact ⟨_, rfl, ⟨mp, H2, hm2, rfl⟩, hS.keep⟩
      | exact ⟨_, rfl, hb0, hS.keep⟩
    have hq : sdo kv u = kvSet u.key (apply (vGet u.key kv) u) kv := by unfold sdo; rw [if_neg (by omega), if_neg (by omega)]
    rw [hq]
    refine zW hS (fun w => w.cell? ⟨p, 0, none⟩ = some (.map (some mp)) ∧ w.cell? ⟨b3, 0, none⟩ = some (.string u.key) ∧ CellsAt w b6 0 [.int .i64 (apply (vGet u.key kv) u).kind, .int .i64 (apply (vGet u.key kv) u).n, .string (apply (vGet u.key kv) u).s]) [7] wide_ rfl fun w hS => zPm 0 1 rfl (zPn 1 3 rfl (zPf 2 7 fl_258_0 rfl (zPf 4 23 fl_59_0 rfl (zD 3 31 rfl ⟨hS.c, hS.c, hS.cells rfl⟩ (fun w hS => y_load pl_256 rfl hS.1) (zD 5 63 rfl ⟨hS.c, hS.c, hS.cells rfl⟩ (fun w hS => y_load pl_9 rfl hS.2.1) (zD 6 127 rfl ⟨hS.c, hS.c, hS.cells rfl⟩ (fun w hS => (y_loadS st_65 sz_65 rfl hS.2.2 rfl).val (show _ = vv (apply (vGet u.key kv) u) from rfl)) (zU 7 255 rfl (a_mset Tryz.underlying256 Tryz.underlying9 rfl rfl rfl hm0 hS fun H2 w hm2 hS => zE ⟨fun h => absurd (by decide) h, zH (zQ (zR (zA rfl (zE (zV (z1 rfl ?_))))))⟩))))))))
    first
    | exact ⟨_, rfl, ⟨mp, H2, hm2, rfl⟩, hS.keep⟩
    | exact ⟨_, rfl, hb0, hS.keep⟩
  refine a_alloc z_65 hS rfl fun b6 w hS => ?_
  refine zE ⟨fun _ _ => ⟨hS.c, hS.c, hS.cells rfl, hS.has⟩, zU 8 1023 rfl (wl_call (.cons rfl (.cons rfl .nil)) (apply_c (vGet u.key kv) u (by omega) (by omega) hS) rfl ?_)⟩
  rintro _ w ⟨rfl, hS⟩
  refine zE ⟨fun h => absurd (by decide) h, zU 10 2047 rfl (zG (vs := [_, _, _]) sz_65 rfl hS fun w hS => zE ⟨fun h => absurd (by decide) h, zH (zQ (zQ (zR (zF fl_65_0 rfl (wl (y_load pl_3 rfl (hS.cell rfl)) rfl (wl (y_eql rfl rfl) rfl (zE (zIf rfl (fun hc23 => ?_) fun hc23 => ?_))))))))⟩)⟩
  · have hq : sdo kv u = kvDel u.key kv := by unfold sdo; rw [if_neg (by omega), if_pos (by omega)]
    rw [hq]
    refine zW hS (fun w => w.cell? ⟨p, 0, none⟩ = some (.map (some mp)) ∧ w.cell? ⟨b3, 0, none⟩ = some (.string u.key)) [6] wide_ rfl fun w hS => zPm 0 1 rfl (zPn 1 3 rfl (zPf 2 7 fl_258_0 rfl (zPf 4 23 fl_59_0 rfl (zD 3 31 rfl ⟨hS.c, hS.c⟩ (fun w hS => y_load pl_256 rfl hS.1) (zD 5 63 rfl ⟨hS.c, hS.c⟩ (fun w hS => y_load pl_9 rfl hS.2) (zU 6 127 rfl (a_mdel Tryz.underlying256 Tryz.underlying9 rfl rfl hm0 hS fun H2 w hm2 hS => zE ⟨fun h => absurd (by decide) h, zH (zQ (zR (zA rfl (zE (zV (z1 rfl ?_))))))⟩)))))))
    first
    | exact ⟨_, rfl, ⟨mp, H2, hm2, rfl⟩, hS.keep⟩
    | exact ⟨_, rfl, hb0, hS.keep⟩
  have hq : sdo kv u = kvSet u.key (apply (vGet u.key kv) u) kv := by unfold sdo; rw [if_neg (by omega), if_neg (by omega)]
  rw [hq]
  refine zW hS (fun w => w.cell? ⟨p, 0, none⟩ = some (.map (some mp)) ∧ w.cell? ⟨b3, 0, none⟩ = some (.string u.key) ∧ CellsAt w b6 0 [.int .i64 (apply (vGet u.key kv) u).kind, .int .i64 (apply (vGet u.key kv) u).n, .string (apply (vGet u.key kv) u).s]) [7] wide_ rfl fun w hS => zPm 0 1 rfl (zPn 1 3 rfl (zPf 2 7 fl_258_0 rfl (zPf 4 23 fl_59_0 rfl (zD 3 31 rfl ⟨hS.c, hS.c, hS.cells rfl⟩ (fun w hS => y_load pl_256 rfl hS.1) (zD 5 63 rfl ⟨hS.c, hS.c, hS.cells rfl⟩ (fun w hS => y_load pl_9 rfl hS.2.1) (zD 6 127 rfl ⟨hS.c, hS.c, hS.cells rfl⟩ (fun w hS => (y_loadS st_65 sz_65 rfl hS.2.2 rfl).val (show _ = vv (apply (vGet u.key kv) u) from rfl)) (zU 7 255 rfl (a_mset Tryz.underlying256 Tryz.underlying9 rfl rfl rfl hm0 hS fun H2 w hm2 hS => zE ⟨fun h => absurd (by decide) h, zH (zQ (zR (zA rfl (zE (zV (z1 rfl ?_))))))⟩))))))))
  first
  | exact ⟨_, rfl, ⟨mp, H2, hm2, rfl⟩, hS.keep⟩
  | exact ⟨_, rfl, hb0, hS.keep⟩
end
end Go.Proofs.YtndahppmjdbifaaGreatDoor.Sto
set_option linter.unusedVariables false
set_option linter.unusedSimpArgs false
namespace Go.Proofs.YtndahppmjdbifaaGreatDoor.Sto
open Go Go.Proofs Eng Pre Val Rou Jnl Cli Nod
@[irreducible] def state (rs : List Rnd) (opn : List Upd) : KV := sdoL [] (rs.flatMap (·.ups) ++ opn)
theorem kvOk_nil : kvOk [] := fun p hp => absurd hp (by simp)
def _root_.Go.Proofs.YtndahppmjdbifaaGreatDoor.Cli.Cli.read (m : Cli) (k : ByteArray) : Valu := vGet k (state (m.known ++ m.pending) m.opn)
def _root_.Go.Proofs.YtndahppmjdbifaaGreatDoor.Cli.Cli.len (m : Cli) : Nat := (state (m.known ++ m.pending) m.opn).length
section
variable {M : Mem} {w : World} {Ls : List Chunk}
theorem rstate_c (opn : List Upd) (so : Value) (ho : Rd M encU so opn) (hol : opn.length ≤ 137438953472) {xs : List RV} {rs : List Rnd} (s : Value) {Hx : Chunk} (hxl : rs.length ≤ 137438953472) (hx : Own 48 encRV s xs Hx) (hr : Rvs M xs rs) (hS : St M w (Hx :: Ls)) :
    CallsR Tryz.prog 177 [so, s].toArray w fun v w' => ∃ p H, v = .pointer (some ⟨p, 0, none⟩) ∧ IsSt p (state rs opn) H ∧ St M w' (H :: Hx :: Ls) := by
  have hlen := hr.len
  obtain ⟨oa, oc, rfl⟩ := (ho.holds hS).slice
  obtain ⟨sa, sc, rfl⟩ := hx.slice
  refine zC 42 Tryz.func177 rfl (zQ (zR (zA rfl (zE (zQ (zR (wl_call .nil (snew_c hS) rfl ?_)))))))
  rintro _ w ⟨p, H, rfl, hst, hS⟩
  refine zA rfl (zE (zQ (zQ (zR (zM rfl (wl (y_len_sl Tryz.underlying32 rfl) rfl (zM rfl (zE (zB (wc_loop (α := Nat × Chunk) (fun ⟨i, _⟩ => [(0, .slice oa opn.length oc), (5, .pointer (some ⟨p, 0, none⟩)), (13, .slice sa xs.length sc), (14, .int .i64 xs.length), (15, .int .i64 i)]) (fun ⟨i, H1⟩ w => i ≤ xs.length ∧ IsSt p (sdoL [] ((rs.take i).flatMap (·.ups))) H1 ∧ St M w (H1 :: Hx :: Ls)) (fun ⟨i, _⟩ => xs.length - i) (0, H) (sub_cons rfl (sub_cons rfl (sub_cons rfl (sub_cons rfl (subR rfl))))) ⟨by omega, hst, hS⟩ ?_))))))))))
  clear hS hst
  rintro ⟨i, H1⟩ w ⟨hi, hst, hS⟩
  refine zQ (zR (wl (y_lss rfl rfl) rfl (zE (zQ (zIf rfl (fun hc16 => ?_) fun hc16 => ?_)))))
  · refine zK ?_
    refine zQ (zB (zQ ?_))
    have hi' : i < xs.length := by omega
    obtain ⟨r, hri⟩ : ∃ r, rs[i]? = some r := ⟨_, List.getElem?_eq_getElem (by omega)⟩
    obtain ⟨x, hx', hxr⟩ := hr.at hri
    have htk : (rs.take (i + 1)).flatMap (·.ups) = (rs.take i).flatMap (·.ups) ++ r.ups := by rw [List.take_add_one, hri]; simp
    obtain ⟨bb, off, c', hse, hce⟩ := (hx.holds (hS.pull Hx)).at hx'
    simp only [Value.slice.injEq] at hse
    have hSk := hS
    obtain ⟨rfl, _, rfl⟩ := hse
    replace hS := hSk
    have hxu := hxr.2.2.1
    have hxl2 := hxr.2.2.2
    obtain ⟨ua, uc, hue⟩ := (hxu.holds hS).slice
    rw [hue] at hxu
    refine zR (wl (y_ixa_sl Tryz.underlying32 sz_48 rfl rfl (by omega) (by omega)) rfl (wl ((y_loadS st_48 sz_48 rfl (vs := encRV.f x) hce rfl).val (show _ = rvS r (.slice ua r.ups.length uc) by rw [hxr.val, hue])) rfl (a_alloc z_48 hS rfl fun b7 w hS => zG (vs := [_, _, _]) sz_48 rfl hS fun w hS => zE (zQ (zR (zF fl_48_2 rfl (wl (y_load pl_46 rfl (hS.c (v := .slice ua r.ups.length uc))) rfl (wl (y_len_sl Tryz.underlying46 rfl) rfl (zM rfl (zE (zB (wc_loop (α := Nat × Chunk) (fun ⟨j, _⟩ => [(0, .slice oa opn.length oc), (5, .pointer (some ⟨p, 0, none⟩)), (13, .slice (some ⟨bb, off, none⟩) xs.length sc), (14, .int .i64 xs.length), (15, .int .i64 i), (20, .slice ua r.ups.length uc), (21, .int .i64 r.ups.length), (22, .int .i64 j)]) (fun ⟨j, H2⟩ w => j ≤ r.ups.length ∧ IsSt p (sdoL [] ((rs.take i).flatMap (·.ups) ++ r.ups.take j)) H2 ∧ St M w (H2 :: Hx :: Ls)) (fun ⟨j, _⟩ => r.ups.length - j) (0, H1) (sub_cons rfl (sub_cons rfl (sub_cons rfl (sub_cons rfl (sub_cons rfl (sub_cons rfl (sub_cons rfl (subR rfl)))))))) ⟨by omega, by simpa using hst, hS.keep⟩ ?_))))))))))))
    clear hS hst
    rintro ⟨j, H2⟩ w ⟨hj, hst, hS⟩
    refine zQ (zR (wl (y_lss rfl rfl) rfl (zE (zQ (zIf rfl (fun hc23 => ?_) fun hc23 => ?_)))))
    · refine zK ?_
      refine zQ (zB (zQ ?_))
      have hj' : j < r.ups.length := by omega
      obtain ⟨u, hu⟩ : ∃ u, r.ups[j]? = some u := ⟨_, List.getElem?_eq_getElem hj'⟩
      have htj : (rs.take i).flatMap (·.ups) ++ r.ups.take (j + 1) = ((rs.take i).flatMap (·.ups) ++ r.ups.take j) ++ [u] := by rw [List.take_add_one, hu, List.append_assoc] <;> rfl
      obtain ⟨bb2, off2, c2, hse, hce⟩ := (hxu.holds hS).at hu
      simp only [Value.slice.injEq] at hse
      have hSk := hS
      obtain ⟨rfl, _, rfl⟩ := hse
      replace hS := hSk
      refine zR (wl (y_ixa_sl Tryz.underlying46 sz_59 rfl rfl (by omega) (by omega)) rfl (wl ((y_loadS st_59 sz_59 rfl (vs := encU.f u) hce rfl).val (show _ = uv u from rfl)) rfl (a_alloc z_59 hS rfl fun b9 w hS => zG (vs := [_, _, _, _]) sz_59 rfl hS fun w hS => zE (zR (zM rfl (wl ((y_loadS st_59 sz_59 rfl (vs := encU.f u) (hS.cells rfl) rfl).val (show _ = uv u from rfl)) rfl (wl_call (.cons rfl (.cons rfl .nil)) (sdo_c u (sdoL_ok kvOk_nil _) hst (hS.pull H2)) rfl ?_)))))))
      rintro _ w ⟨H3, rfl, hst2, hS⟩
      refine zE (zR (wl (y_add rfl rfl (w64 (by omega) (by omega))) rfl (zM rfl (zE ?_))))
      exact ⟨(j + 1, H3), by simp only; omega, sub_cons rfl (sub_cons rfl (sub_cons rfl (sub_cons rfl (sub_cons rfl (sub_cons rfl (sub_cons rfl (subR rfl))))))), by omega, by rw [htj, sdoL_app]; exact hst2, hS.keep⟩
    obtain rfl : j = r.ups.length := by omega
    rw [List.take_length, ← htk] at hst
    refine wc_exit (zR (wl (y_add rfl rfl (w64 (by omega) (by omega))) rfl (zM rfl (zE ?_))))
    exact ⟨(i + 1, H2), by simp only; omega, sub_cons rfl (sub_cons rfl (sub_cons rfl (sub_cons rfl (subR rfl)))), by omega, hst, hS⟩
  obtain rfl : i = xs.length := by omega
  rw [hlen, List.take_length] at hst
  refine wc_exit (zQ (zQ (zR (zM rfl (wl (y_len_sl Tryz.underlying46 rfl) rfl (zM rfl (zE (zB (wc_loop (α := Nat × Chunk) (fun ⟨j, _⟩ => [(5, .pointer (some ⟨p, 0, none⟩)), (31, .slice oa opn.length oc), (32, .int .i64 opn.length), (33, .int .i64 j)]) (fun ⟨j, H2⟩ w => j ≤ opn.length ∧ IsSt p (sdoL [] (rs.flatMap (·.ups) ++ opn.take j)) H2 ∧ St M w (H2 :: Hx :: Ls)) (fun ⟨j, _⟩ => opn.length - j) (0, H1) (sub_cons rfl (sub_cons rfl (sub_cons rfl (subR rfl)))) ⟨by omega, by simpa using hst, hS.keep⟩ ?_)))))))))
  clear hS hst
  rintro ⟨j, H2⟩ w ⟨hj, hst, hS⟩
  refine zQ (zR (wl (y_lss rfl rfl) rfl (zE (zQ (zIf rfl (fun hc34 => ?_) fun hc34 => ?_)))))
  · refine zK ?_
    refine zQ (zB (zQ ?_))
    have hj' : j < opn.length := by omega
    obtain ⟨u, hu⟩ : ∃ u, opn[j]? = some u := ⟨_, List.getElem?_eq_getElem hj'⟩
    have htj : rs.flatMap (·.ups) ++ opn.take (j + 1) = (rs.flatMap (·.ups) ++ opn.take j) ++ [u] := by rw [List.take_add_one, hu, List.append_assoc] <;> rfl
    obtain ⟨bb2, off2, c2, hse, hce⟩ := (ho.holds hS).at hu
    simp only [Value.slice.injEq] at hse
    have hSk := hS
    obtain ⟨rfl, _, rfl⟩ := hse
    replace hS := hSk
    refine zR (wl (y_ixa_sl Tryz.underlying46 sz_59 rfl rfl (by omega) (by omega)) rfl (wl ((y_loadS st_59 sz_59 rfl (vs := encU.f u) hce rfl).val (show _ = uv u from rfl)) rfl (a_alloc z_59 hS rfl fun b11 w hS => zG (vs := [_, _, _, _]) sz_59 rfl hS fun w hS => zE (zR (zM rfl (wl ((y_loadS st_59 sz_59 rfl (vs := encU.f u) (hS.cells rfl) rfl).val (show _ = uv u from rfl)) rfl (wl_call (.cons rfl (.cons rfl .nil)) (sdo_c u (sdoL_ok kvOk_nil _) hst (hS.pull H2)) rfl ?_)))))))
    rintro _ w ⟨H3, rfl, hst2, hS⟩
    refine zE (zR (wl (y_add rfl rfl (w64 (by omega) (by omega))) rfl (zM rfl (zE ?_))))
    exact ⟨(j + 1, H3), by simp only; omega, sub_cons rfl (sub_cons rfl (sub_cons rfl (subR rfl))), by omega, by rw [htj, sdoL_app]; exact hst2, hS.keep⟩
  obtain rfl : j = opn.length := by omega
  rw [List.take_length] at hst
  refine wc_exit (zQ (zR (zM rfl (zA rfl (zE (zV (z1 rfl ?_)))))))
  exact ⟨p, H2, rfl, by unfold state; exact hst, hS⟩
theorem rread_c (k : ByteArray) (opn : List Upd) (so : Value) (ho : Rd M encU so opn) (hol : opn.length ≤ 137438953472) {xs : List RV} {rs : List Rnd} (s : Value) {Hx : Chunk} (hxl : rs.length ≤ 137438953472) (hx : Own 48 encRV s xs Hx) (hr : Rvs M xs rs) (hS : St M w (Hx :: Ls)) :
    CallsR Tryz.prog 143 [.string k, so, s].toArray w fun v w' => v = vv (vGet k (state rs opn)) ∧ St M w' (Hx :: Ls) := by
  obtain ⟨oa, oc, rfl⟩ := (ho.holds hS).slice
  obtain ⟨sa, sc, rfl⟩ := hx.slice
  refine zC 12 Tryz.func143 rfl (zQ (zR (a_alloc z_65 hS rfl fun b6 w hS => zE (zQ (zR (zM rfl (zM rfl (wl_call (.cons rfl (.cons rfl .nil)) (rstate_c opn _ ho hol _ hxl hx hr (hS.pull Hx)) rfl ?_))))))))
  rintro _ w ⟨p, H, rfl, hst, hS⟩
  refine zM rfl (wl_call (.cons rfl (.cons rfl .nil)) (sget_c k hst hS) rfl ?_)
  rintro _ w ⟨rfl, hS⟩
  refine zG (vs := [_, _, _]) sz_65 rfl hS fun w hS => zE (zV (wret (vs := [_]) (.cell rfl (loadVar_struct st_65 sz_65 (vs := [_, _, _]) rfl (hS.cells rfl)) .nil) ?_))
  exact ⟨rfl, hS.keep⟩
theorem rlen_c (opn : List Upd) (so : Value) (ho : Rd M encU so opn) (hol : opn.length ≤ 137438953472) {xs : List RV} {rs : List Rnd} (s : Value) {Hx : Chunk} (hxl : rs.length ≤ 137438953472) (hx : Own 48 encRV s xs Hx) (hr : Rvs M xs rs) (hS : St M w (Hx :: Ls)) :
    CallsR Tryz.prog 156 [so, s].toArray w fun v w' => v = .int .i64 (state rs opn).length ∧ St M w' (Hx :: Ls) := by
  obtain ⟨oa, oc, rfl⟩ := (ho.holds hS).slice
  obtain ⟨sa, sc, rfl⟩ := hx.slice
  refine zC 9 Tryz.func156 rfl (zQ (zR (zA rfl (zE (zQ (zR (zM rfl (zM rfl (wl_call (.cons rfl (.cons rfl .nil)) (rstate_c opn _ ho hol _ hxl hx hr (hS.pull Hx)) rfl ?_)))))))))
  rintro _ w ⟨p, H, rfl, hst, hS⟩
  refine wl_call (.cons rfl .nil) (slen_c hst hS) rfl ?_
  rintro _ w ⟨rfl, hS⟩
  refine zA rfl (zE (zV (z1 rfl ?_)))
  exact ⟨rfl, hS.keep⟩
theorem cread_c (k : ByteArray) {p jp : Nat} {m : Cli} {H : Chunk} (hl : m.known.length + m.pending.length ≤ 13743895347) (hol : m.opn.length ≤ 137438953472) (hb : IsC M p jp m H) (hS : St M w (H :: Ls)) :
    CallsR Tryz.prog 83 [.pointer (some ⟨p, 0, none⟩), .string k].toArray w fun v w' => v = vv (m.read k) ∧ St M w' (H :: Ls) := by
  have hb0 := hb
  obtain ⟨xs, sk, Hk, ys, sp, Hp, so, h1, h2, h3, h4, h5, rfl⟩ := hb
  obtain ⟨oa, oc, rfl⟩ := (h5.holds hS).slice
  have e2 := h2.len
  have e4 := h4.len
  refine zC 13 Tryz.func83 rfl (zQ (zR (a_alloc z_65 hS rfl fun b4 w hS => zE (zQ (zW hS (fun w => w.cell? ⟨p, 6, none⟩ = some (.slice oa m.opn.length oc)) [7, 8] wide_ rfl fun w hS => zPm 0 1 rfl (zPm 1 3 rfl (zPn 2 7 rfl (zPf 3 15 fl_168_6 rfl (zPm 5 47 rfl (zD 4 63 rfl (hS.cell rfl) (fun w hS => y_load pl_46 rfl hS) (zU 6 127 rfl (wl_call (.cons rfl .nil) (cseen_c (by omega) hb0 (hS.pull _)) rfl ?_))))))))))))
  rintro v w ⟨zs, Hz, ho, hr, hS⟩
  obtain ⟨za, zc, rfl⟩ := ho.slice
  refine zE ⟨fun _ _ => hS.c, zU 7 255 rfl (wl_call (.cons rfl (.cons rfl (.cons rfl .nil))) (rread_c k m.opn _ h5 hol _ (by rw [List.length_append]; omega) ho hr (hS.pull Hz)) rfl ?_)⟩
  rintro _ w ⟨rfl, hS⟩
  refine zE ⟨fun h => absurd (by decide) h, zU 8 511 rfl (zG (vs := [_, _, _]) sz_65 rfl hS fun w hS => zE ⟨fun h => absurd (by decide) h, zH (zV (wret (vs := [_]) (.cell rfl (loadVar_struct st_65 sz_65 (vs := [_, _, _]) rfl (hS.cells rfl)) .nil) ?_))⟩)⟩
  exact ⟨rfl, hS.keep⟩
theorem clen_c {p jp : Nat} {m : Cli} {H : Chunk} (hl : m.known.length + m.pending.length ≤ 13743895347) (hol : m.opn.length ≤ 137438953472) (hb : IsC M p jp m H) (hS : St M w (H :: Ls)) :
    CallsR Tryz.prog 105 [.pointer (some ⟨p, 0, none⟩)].toArray w fun v w' => v = .int .i64 m.len ∧ St M w' (H :: Ls) := by
  have hb0 := hb
  obtain ⟨xs, sk, Hk, ys, sp, Hp, so, h1, h2, h3, h4, h5, rfl⟩ := hb
  obtain ⟨oa, oc, rfl⟩ := (h5.holds hS).slice
  have e2 := h2.len
  have e4 := h4.len
  refine zC 10 Tryz.func105 rfl (zQ (zR (zA rfl (zE (zQ (zW hS (fun w => w.cell? ⟨p, 6, none⟩ = some (.slice oa m.opn.length oc)) [6, 7] wide_ rfl fun w hS => zPm 0 1 rfl (zPn 1 3 rfl (zPf 2 7 fl_168_6 rfl (zPm 4 23 rfl (zD 3 31 rfl (hS.cell rfl) (fun w hS => y_load pl_46 rfl hS) (zU 5 63 rfl (wl_call (.cons rfl .nil) (cseen_c (by omega) hb0 (hS.pull _)) rfl ?_))))))))))))
  rintro v w ⟨zs, Hz, ho, hr, hS⟩
  obtain ⟨za, zc, rfl⟩ := ho.slice
  refine zE ⟨fun _ _ => hS.c, zU 6 127 rfl (wl_call (.cons rfl (.cons rfl .nil)) (rlen_c m.opn _ h5 hol _ (by rw [List.length_append]; omega) ho hr (hS.pull Hz)) rfl ?_)⟩
  rintro _ w ⟨rfl, hS⟩
  refine zE ⟨fun h => absurd (by decide) h, zPa 7 255 rfl (zH (zV (z1 rfl ?_)))⟩
  exact ⟨rfl, hS.keep⟩
theorem nread_c (k : ByteArray) {p : Nat} {m : Nod} {H : Chunk} (hs : m.small) (hb : IsN M p m H) (hS : St M w (H :: Ls)) :
    CallsR Tryz.prog 27 [.pointer (some ⟨p, 0, none⟩), .string k].toArray w fun v w' => v = vv (m.own.read k) ∧ St M w' (H :: Ls) := by
  obtain ⟨s1, s2, s3, s4⟩ := hs
  obtain ⟨jp, kp, cp, Hj, Hk, Hc, h1, h2, h3, rfl⟩ := hb
  replace hS := hS.un3
  refine zC 11 Tryz.func27 rfl (zQ (zR (a_alloc z_65 hS rfl fun b4 w hS => zE (zQ (zR (zM rfl (zN rfl (zF fl_97_4 rfl (wl (y_load pl_95 rfl (hS.c (v := .pointer (some ⟨cp, 0, none⟩)))) rfl (zM rfl (wl_call (.cons rfl (.cons rfl .nil)) (cread_c k (by omega) (by omega) h3 (hS.pull Hc)) rfl ?_)))))))))))
  rintro _ w ⟨rfl, hS⟩
  refine zG (vs := [_, _, _]) sz_65 rfl hS fun w hS => zE (zV (wret (vs := [_]) (.cell rfl (loadVar_struct st_65 sz_65 (vs := [_, _, _]) rfl (hS.cells rfl)) .nil) ?_))
  exact ⟨rfl, hS.keep⟩
theorem nlen_c {p : Nat} {m : Nod} {H : Chunk} (hs : m.small) (hb : IsN M p m H) (hS : St M w (H :: Ls)) :
    CallsR Tryz.prog 41 [.pointer (some ⟨p, 0, none⟩)].toArray w fun v w' => v = .int .i64 m.own.len ∧ St M w' (H :: Ls) := by
  obtain ⟨s1, s2, s3, s4⟩ := hs
  obtain ⟨jp, kp, cp, Hj, Hk, Hc, h1, h2, h3, rfl⟩ := hb
  replace hS := hS.un3
  refine zC 8 Tryz.func41 rfl (zQ (zR (zA rfl (zE (zQ (zR (zM rfl (zN rfl (zF fl_97_4 rfl (wl (y_load pl_95 rfl (hS.c (v := .pointer (some ⟨cp, 0, none⟩)))) rfl (wl_call (.cons rfl .nil) (clen_c (by omega) (by omega) h3 (hS.pull Hc)) rfl ?_)))))))))))
  rintro _ w ⟨rfl, hS⟩
  refine zA rfl (zE (zV (z1 rfl ?_)))
  exact ⟨rfl, hS.keep⟩
end
end Go.Proofs.YtndahppmjdbifaaGreatDoor.Sto
set_option linter.unusedVariables false
set_option linter.unusedSimpArgs false
namespace Go.Proofs.YtndahppmjdbifaaGreatDoor.Nod
open Go Go.Proofs Eng Pre Pak Val Rou Fra Go.Proofs.YtndahppmjdbifaaGreatDoor.Snd Go.Proofs.YtndahppmjdbifaaGreatDoor.Lnk Jnl Go.Proofs.YtndahppmjdbifaaGreatDoor.Cli Sto Crc
structure Act where
  kind : Int
  u : Upd
  bytes : ByteArray
def encA : Enc Act := ⟨6, fun a => [.int .i64 a.kind, .string a.u.key, .int .i64 a.u.kind, .int .i64 a.u.n, .string a.u.s, .string a.bytes], fun _ => rfl, by simp [oneC]⟩
def Nod.act (m : Nod) (a : Act) : Nod :=
  if a.kind = 1 then m.upd a.u else if a.kind = 2 then m.push else if a.kind = 3 then m.pull else if a.kind = 4 then m.reset else if a.kind = 5 then m.hear a.bytes else if a.kind = 6 then m.tick else m
def Nod.acts (m : Nod) (l : List Act) : Nod := l.foldl Nod.act m
structure Nod.inv (t : Nat) (m : Nod) : Prop where
  c : mayC m.c = 0
  k : m.k.ok
  rd : ∀ d ∈ m.k.r.all, d.size ≤ 1400
  sd : ∀ d ∈ m.k.s.all, d.size ≤ 1400
  mtu : m.own.mtu = m.c.mtu
  opn : m.own.opn.length ≤ 8
  j : m.j.l.length ≤ t
  pend : m.own.pending.length ≤ t
  known : m.own.known.length ≤ 16 * t
theorem mayC_ok {c : Cfg} (h : mayC c = 0) : 1 ≤ c.clients ∧ c.clients ≤ 64 ∧ 1 ≤ c.window ∧ c.window ≤ 16 ∧ 1 ≤ c.push ∧ c.push ≤ 16 ∧ 1 ≤ c.pull ∧ c.pull ≤ 16 ∧ 64 ≤ c.mtu ∧ c.mtu ≤ 1400 ∧ 1 ≤ c.last ∧ c.last ≤ 1099511627776 := by
  unfold mayC at h
  split at h
  · assumption
  cases h
theorem fits_ok {l : List Upd} {mtu : Int} (h : fits l mtu = true) : mayR ⟨64, 1099511627776, l⟩ = 0 ∧ (64 ≤ mtu ∧ mtu ≤ 1400) ∧ ((rbytes ⟨64, 1099511627776, l⟩).length : Int) ≤ mtu - 40 := by
  unfold fits at h
  exact of_decide_eq_true h
theorem fits_length {l : List Upd} {mtu : Int} (h : fits l mtu = true) : l.length ≤ 8 := by
  have h1 := (fits_ok h).1
  have h2 := mayR_ok h1
  exact h2.2.2.2.2.2.1
theorem putB_size (r : Rnd) : (putB r).size ≤ 1400 := by
  unfold putB
  split
  · rename_i h
    have := rbytes_length h
    show (rbytes r).toArray.size ≤ 1400
    rw [List.size_toArray]
    omega
  exact Nat.zero_le _
theorem behind_length (n : Int) (l : List Rnd) : (behind n l).length ≤ l.length := List.length_filter_le _ _
theorem fget_data (b : ByteArray) (hb : b.size ≤ 140737488351232) : (fget b).data.size ≤ 1400 ∧ (fget b).seq ≤ 1125899906842624 := by
  unfold fget
  split
  · simp [frm0]
  rename_i s hs
  have hz := open_size hs
  obtain ⟨h1, h1', h2, h3, h4, h5⟩ := fg_ok s (by omega)
  unfold fgf
  split
  · simp only
    refine ⟨?_, ?_⟩
    · unfold fg4; exact (rtext_ok h3 1400).2.1
    have := (rnum_ok h1' 1125899906842624).2.1
    unfold fg2; omega
  simp [frm0]
theorem Lnk.hear_ok {m : Lnk} {f : Frm} (h : m.ok) (hs : f.seq ≤ 1125899906842624) : (m.hear f).ok := by
  have h2 : ∀ {m : Lnk}, m.ok → (m.hear2 f).ok := by
    intro m h
    refine ⟨h.1, Snd.ack_ok h.2.1 _, ?_⟩
    unfold Lnk.hear2; simp only
    split
    · exact h.2.2
    exact Rcv.hear_ok h.2.2 _ hs _
  unfold Lnk.hear
  split
  · exact h
  split
  · split
    · exact h2 (Lnk.fresh_ok _ _)
    exact h
  exact h2 h
theorem Lnk.hear_r {m : Lnk} {f : Frm} (h : ∀ d ∈ m.r.all, d.size ≤ 1400) (hd : f.data.size ≤ 1400) : ∀ d ∈ (m.hear f).r.all, d.size ≤ 1400 := by
  have h2 : ∀ {m : Lnk}, (∀ d ∈ m.r.all, d.size ≤ 1400) → ∀ d ∈ (m.hear2 f).r.all, d.size ≤ 1400 := by
    intro m h
    unfold Lnk.hear2; simp only
    split
    · exact h
    unfold Rcv.hear
    split
    · intro d hx
      simp only [List.mem_append, List.mem_singleton] at hx
      rcases hx with hx | rfl
      · exact h d hx
      exact hd
    exact h
  unfold Lnk.hear
  split
  · exact h
  split
  · split
    · exact h2 (by unfold Lnk.fresh Rcv.new; simp)
    exact h
  exact h2 h
theorem Snd.ack_all (m : Snd) (n : Int) : (m.ack n).all = m.all := by unfold Snd.ack; split <;> rfl
theorem Lnk.hear_s {m : Lnk} {f : Frm} {P : ByteArray → Prop} (h : ∀ d ∈ m.s.all, P d) : ∀ d ∈ (m.hear f).s.all, P d := by
  unfold Lnk.hear
  split
  · exact h
  split
  · split
    · unfold Lnk.hear2 Lnk.fresh Snd.new; simp [Snd.ack_all]
    exact h
  unfold Lnk.hear2; simp only [Snd.ack_all]; exact h
theorem offl_r (l : List Rnd) (k : Lnk) (n : Nat) : (offl l k n).1.r = k.r ∧ (offl l k n).1.ep = k.ep ∧ (offl l k n).1.win = k.win ∧ (offl l k n).1.room = k.room ∧ (offl l k n).1.pas = k.pas := by
  induction l generalizing k n with
  | nil => exact ⟨rfl, rfl, rfl, rfl, rfl⟩
  | cons r l ih =>
    simp only [offl]
    split
    · exact ih _ _
    exact ⟨rfl, rfl, rfl, rfl, rfl⟩
theorem offl_s {l : List Rnd} {k : Lnk} {n : Nat} {P : ByteArray → Prop} (h : ∀ d ∈ k.s.all, P d) (hl : ∀ r ∈ l, P (putB r)) : ∀ d ∈ (offl l k n).1.s.all, P d := by
  induction l generalizing k n with
  | nil => exact h
  | cons r l ih =>
    simp only [offl]
    split
    · rename_i he
      refine ih ?_ fun x hx => hl x (List.mem_cons_of_mem _ hx)
      intro d hd
      unfold Lnk.offer Snd.offer at hd
      rw [if_pos he] at hd
      simp only [List.mem_append, List.mem_singleton] at hd
      rcases hd with hd | rfl
      · exact h d hd
      exact hl r List.mem_cons_self
    exact h
theorem Cli.take_same (m : Cli) (r : Rnd) : (m.take r).mtu = m.mtu ∧ (m.take r).origin = m.origin ∧ (m.take r).push = m.push ∧ (m.take r).opn = m.opn ∧ (m.take r).pending.length ≤ m.pending.length := by
  unfold Cli.take
  split
  · refine ⟨rfl, rfl, rfl, rfl, ?_⟩
    simp only
    split
    · rw [List.length_tail]; omega
    exact Nat.le_refl _
  exact ⟨rfl, rfl, rfl, rfl, Nat.le_refl _⟩
theorem Cli.take1_same (m : Cli) (d : ByteArray) : (m.take1 d).mtu = m.mtu ∧ (m.take1 d).origin = m.origin ∧ (m.take1 d).push = m.push ∧ (m.take1 d).opn = m.opn ∧ (m.take1 d).pending.length ≤ m.pending.length := by
  unfold Cli.take1
  split
  · exact Cli.take_same _ _
  exact ⟨rfl, rfl, rfl, rfl, Nat.le_refl _⟩
theorem Cli.takeL_same (m : Cli) (l : List ByteArray) : (m.takeL l).mtu = m.mtu ∧ (m.takeL l).origin = m.origin ∧ (m.takeL l).push = m.push ∧ (m.takeL l).opn = m.opn ∧ (m.takeL l).pending.length ≤ m.pending.length := by
  induction l generalizing m with
  | nil => exact ⟨rfl, rfl, rfl, rfl, Nat.le_refl _⟩
  | cons d l ih =>
    obtain ⟨a1, a2, a3, a4, a5⟩ := ih (m.take1 d)
    obtain ⟨b1, b2, b3, b4, b5⟩ := Cli.take1_same m d
    exact ⟨a1.trans b1, a2.trans b2, a3.trans b3, a4.trans b4, Nat.le_trans a5 b5⟩
theorem Nod.new_inv {c : Cfg} (hc : mayC c = 0) (origin : Int) : (Nod.new c origin).inv 0 := by
  refine ⟨hc, Lnk.new_ok _ _ _ _, ?_, ?_, rfl, ?_, ?_, ?_, ?_⟩
  · unfold Nod.new Lnk.new Rcv.new; simp
  · unfold Nod.new Lnk.new Snd.new; simp
  · unfold Nod.new Cli.new; simp
  · unfold Nod.new Jnl.new; simp
  · unfold Nod.new Cli.new Jnl.new behind; simp
  unfold Nod.new Cli.new; simp
theorem Nod.inv.mono {t t' : Nat} {m : Nod} (h : m.inv t) (ht : t ≤ t') : m.inv t' :=
  ⟨h.c, h.k, h.rd, h.sd, h.mtu, h.opn, Nat.le_trans h.j ht, Nat.le_trans h.pend ht, Nat.le_trans h.known (by omega)⟩
theorem Nod.upd_inv {t : Nat} {m : Nod} (h : m.inv t) (u : Upd) : (m.upd u).inv t := by
  unfold Nod.upd Cli.upd
  split
  · rename_i he
    refine ⟨h.c, h.k, h.rd, h.sd, h.mtu, ?_, h.j, h.pend, h.known⟩
    unfold Cli.updE at he
    split at he
    · omega
    split at he; · cases he
    split at he; · cases he
    rename_i hf
    exact fits_length (by simpa using hf)
  exact h
theorem Nod.push_inv {t : Nat} {m : Nod} (h : m.inv t) : m.push.inv (t + 1) := by
  unfold Nod.push Cli.pushC Cli.pushJ
  split
  · rename_i he
    have hj := h.j
    have hp := h.pend
    refine ⟨h.c, h.k, h.rd, h.sd, h.mtu, by simp, ?_, by simp; omega, Nat.le_trans h.known (by omega)⟩
    simp only
    unfold Jnl.add
    split
    · simp; omega
    omega
  exact h.mono (by omega)
theorem Nod.pull_inv {t : Nat} {m : Nod} (h : m.inv t) : m.pull.inv (t + 1) := by
  obtain ⟨a1, a2, a3, a4, a5⟩ := Cli.takeL_same m.own m.k.r.came
  have hk := Cli.takeL_known m.own m.k.r.came
  rw [Rcv.came_length] at hk
  have hw16 : m.k.r.wait ≤ 16 := by have := h.k.2.2; unfold Rcv.ok at this; omega
  have hp := h.pend
  have hkn := h.known
  have hj := h.j
  exact ⟨h.c, Lnk.pops_ok _ _ h.k, h.rd, h.sd, a1.trans h.mtu, by unfold Nod.pull; simp only [a4]; exact h.opn, Nat.le_trans h.j (by omega), Nat.le_trans a5 (by omega), Nat.le_trans hk (by omega)⟩
theorem Nod.reset_inv {t : Nat} {m : Nod} (h : m.inv t) : m.reset.inv t := by
  unfold Nod.reset
  split
  · refine ⟨h.c, Lnk.new_ok _ _ _ _, ?_, ?_, h.mtu, ?_, h.j, ?_, ?_⟩
    · unfold Lnk.new Rcv.new; simp
    · unfold Lnk.new Snd.new; simp
    · unfold Cli.resume; simp
    · unfold Cli.resume; simp only; exact Nat.le_trans (behind_length _ _) h.j
    unfold Cli.resume; simp
  exact h
theorem Nod.hear_inv {t : Nat} {m : Nod} (h : m.inv t) (b : ByteArray) (hb : b.size ≤ 140737488351232) : (m.hear b).inv t := by
  obtain ⟨f1, f2⟩ := fget_data b hb
  unfold Nod.hear
  split
  · exact ⟨h.c, Lnk.hear_ok h.k f2, Lnk.hear_r h.rd f1, Lnk.hear_s h.sd, h.mtu, h.opn, h.j, h.pend, h.known⟩
  exact h
theorem Nod.tick_inv {t : Nat} {m : Nod} (h : m.inv t) : m.tick.inv t := by
  refine ⟨h.c, offl_ok h.k, ?_, ?_, h.mtu, h.opn, h.j, h.pend, h.known⟩
  · intro d hd
    rw [show m.tick.k.r = m.k.r from (offl_r _ _ _).1] at hd
    exact h.rd d hd
  show ∀ d ∈ (offl (m.j.l.drop m.offered) m.k m.offered).1.s.all, d.size ≤ 1400
  exact offl_s h.sd fun r _ => putB_size r
theorem Nod.act_inv {t : Nat} {m : Nod} (h : m.inv t) (a : Act) (hb : a.bytes.size ≤ 140737488351232) : (m.act a).inv (t + 1) := by
  unfold Nod.act
  split; · exact (Nod.upd_inv h _).mono (by omega)
  split; · exact Nod.push_inv h
  split; · exact Nod.pull_inv h
  split; · exact (Nod.reset_inv h).mono (by omega)
  split; · exact (Nod.hear_inv h _ hb).mono (by omega)
  split; · exact (Nod.tick_inv h).mono (by omega)
  exact h.mono (by omega)
theorem Nod.acts_inv {t : Nat} {m : Nod} (h : m.inv t) (l : List Act) (hb : ∀ a ∈ l, a.bytes.size ≤ 140737488351232) : (m.acts l).inv (t + l.length) := by
  induction l generalizing m t with
  | nil => exact h
  | cons a l ih =>
    have := ih (Nod.act_inv h a (hb a List.mem_cons_self)) fun x hx => hb x (List.mem_cons_of_mem _ hx)
    exact this.mono (by simp; omega)
theorem Nod.inv.small {t : Nat} {m : Nod} (h : m.inv t) (ht : t ≤ 1000) : m.small := by
  have h1 := h.j
  have h2 := h.pend
  have h3 := h.known
  have h4 := h.opn
  unfold Nod.small
  omega
theorem pcs_mem {a : Nat} {l : List ByteArray} {x : Nat × ByteArray} (h : x ∈ pcs a l) : x.2 ∈ l := by
  induction l generalizing a with
  | nil => cases h
  | cons d l ih =>
    simp only [pcs, List.mem_cons] at h
    rcases h with rfl | h
    · exact List.mem_cons_self
    exact List.mem_cons_of_mem _ (ih h)
theorem frames_data {k : Lnk} {P : ByteArray → Prop} (h : ∀ d ∈ k.s.all, P d) (h0 : P ByteArray.empty) : ∀ f ∈ k.frames, P f.data := by
  intro f hf
  unfold Lnk.frames at hf
  split at hf
  · cases hf
  split at hf
  · simp only [List.mem_singleton] at hf; subst hf; exact h0
  obtain ⟨x, hx, rfl⟩ := List.mem_map.1 hf
  exact h _ (List.mem_of_mem_drop (pcs_mem hx))
theorem Nod.inv.frames {t : Nat} {m : Nod} (h : m.inv t) : ∀ f ∈ m.tick.k.frames, f.data.size ≤ 34359738368 := fun f hf => by
  have := frames_data (P := fun d => d.size ≤ 1400) (Nod.tick_inv h).sd (by simp) f hf
  omega
end Go.Proofs.YtndahppmjdbifaaGreatDoor.Nod
set_option linter.unusedVariables false
set_option linter.unusedSimpArgs false
namespace Go.Proofs.YtndahppmjdbifaaGreatDoor.Nod
open Go Go.Proofs Eng Pre Pak Val Rou Fra Go.Proofs.YtndahppmjdbifaaGreatDoor.Snd Go.Proofs.YtndahppmjdbifaaGreatDoor.Lnk Jnl Go.Proofs.YtndahppmjdbifaaGreatDoor.Cli Sto
def aV (a : Act) : Value := .agg [.int .i64 a.kind, .string a.u.key, .int .i64 a.u.kind, .int .i64 a.u.n, .string a.u.s, .string a.bytes].toArray
section
variable {M : Mem} {w : World} {Ls : List Chunk}
def greatU (u : Upd) : Bool := decide (u.key.size > 100 ∨ u.s.size > 1200)
def greatA (a : Act) : Bool := decide (a.bytes.size > 400) || greatU a.u
def greatB (c : Cfg) (l : List Act) : Bool := decide (l.length > 50 ∨ c.clients > 4) || l.any greatA
theorem greatu_c (u : Upd) (hS : St M w Ls) : CallsR Tryz.prog 84 [uv u].toArray w fun v w' => v = .bool (greatU u) ∧ St M w' Ls := by
  refine zC 13 Tryz.func84 rfl (zQ (zR (a_box rfl hS rfl fun b1 w hS => zA rfl (zE (zQ (zR (zF fl_59_0 rfl (wl (y_load pl_9 rfl (hS.c (v := .string u.key))) rfl (wl (y_len_s Tryz.underlying9 rfl) rfl (wl (y_gtr rfl rfl) rfl (zM rfl (zWc (s := 7) rfl (fun hg7 => ?_) fun hg7 => ?_))))))))))))
  · refine zO rfl ?_
    refine zO rfl (zO rfl (zO rfl (wl (y_pickT rfl rfl) rfl (zA rfl (zE (zV (z1 rfl ?_)))))))
    first
    | exact ⟨congrArg Value.bool (decide_eq_decide.2 ⟨fun h => .inr (by omega), fun h => by omega⟩), hS.keep⟩
    | exact ⟨congrArg Value.bool (decide_eq_true (.inl (by omega))).symm, hS.keep⟩
  refine zI rfl ?_
  refine zF fl_59_3 rfl (zI rfl (wl (y_load pl_9 rfl (hS.c (v := .string u.s))) rfl (zI rfl (wl (y_len_s Tryz.underlying9 rfl) rfl (zI rfl (wl (y_gtr rfl rfl) rfl (wl (y_pickF rfl rfl) rfl (zA rfl (zE (zV (z1 rfl ?_)))))))))))
  first
  | exact ⟨congrArg Value.bool (decide_eq_decide.2 ⟨fun h => .inr (by omega), fun h => by omega⟩), hS.keep⟩
  | exact ⟨congrArg Value.bool (decide_eq_true (.inl (by omega))).symm, hS.keep⟩
theorem rmayc_c (c : Cfg) (hS : St M w Ls) : CallsR Tryz.prog 29 [cfgV c].toArray w fun v w' => v = .bool (decide (mayC c = 0)) ∧ St M w' Ls := by
  have ht : ∀ b : Bool, (b = true ↔ (1 ≤ c.clients ∧ c.clients ≤ 64 ∧ 1 ≤ c.window ∧ c.window ≤ 16 ∧ 1 ≤ c.push ∧ c.push ≤ 16 ∧ 1 ≤ c.pull ∧ c.pull ≤ 16 ∧ 64 ≤ c.mtu ∧ c.mtu ≤ 1400 ∧ 1 ≤ c.last ∧ c.last ≤ 1099511627776)) → b = decide (mayC c = 0) := by
    intro b hb
    rw [Bool.eq_iff_iff, hb, decide_eq_true_iff]
    unfold mayC
    split
    · rename_i h; exact ⟨fun _ => rfl, fun _ => h⟩
    rename_i h; exact ⟨fun h' => absurd h' h, fun h' => by cases h'⟩
  refine zC 61 Tryz.func29 rfl (zQ (zR (a_box rfl hS rfl fun b1 w hS => zA rfl (zE (zQ (zR (zF fl_23_0 rfl (wl (y_load pl_3 rfl (hS.cell rfl)) rfl (wl (y_geq rfl rfl) rfl (zM rfl (zWc (s := 6) rfl (fun hg6 => ?_) fun hg6 => ?_)))))))))))
  · refine zI rfl ?_
    refine zF fl_23_0 rfl (zI rfl (wl (y_load pl_3 rfl (hS.cell rfl)) rfl (zI rfl (wl (y_leq rfl rfl) rfl (wl (y_pickT rfl rfl) rfl (zM rfl (zWc (s := 11) rfl (fun hg11 => ?_) fun hg11 => ?_)))))))
    · refine zI rfl ?_
      refine zF fl_23_1 rfl (zI rfl (wl (y_load pl_3 rfl (hS.cell rfl)) rfl (zI rfl (wl (y_geq rfl rfl) rfl (wl (y_pickT rfl rfl) rfl (zM rfl (zWc (s := 16) rfl (fun hg16 => ?_) fun hg16 => ?_)))))))
      · refine zI rfl ?_
        refine zF fl_23_1 rfl (zI rfl (wl (y_load pl_3 rfl (hS.cell rfl)) rfl (zI rfl (wl (y_leq rfl rfl) rfl (wl (y_pickT rfl rfl) rfl (zM rfl (zWc (s := 21) rfl (fun hg21 => ?_) fun hg21 => ?_)))))))
        · refine zI rfl ?_
          refine zF fl_23_2 rfl (zI rfl (wl (y_load pl_3 rfl (hS.cell rfl)) rfl (zI rfl (wl (y_geq rfl rfl) rfl (wl (y_pickT rfl rfl) rfl (zM rfl (zWc (s := 26) rfl (fun hg26 => ?_) fun hg26 => ?_)))))))
          · refine zI rfl ?_
            refine zF fl_23_2 rfl (zI rfl (wl (y_load pl_3 rfl (hS.cell rfl)) rfl (zI rfl (wl (y_leq rfl rfl) rfl (wl (y_pickT rfl rfl) rfl (zM rfl (zWc (s := 31) rfl (fun hg31 => ?_) fun hg31 => ?_)))))))
            · refine zI rfl ?_
              refine zF fl_23_3 rfl (zI rfl (wl (y_load pl_3 rfl (hS.cell rfl)) rfl (zI rfl (wl (y_geq rfl rfl) rfl (wl (y_pickT rfl rfl) rfl (zM rfl (zWc (s := 36) rfl (fun hg36 => ?_) fun hg36 => ?_)))))))
              · refine zI rfl ?_
                refine zF fl_23_3 rfl (zI rfl (wl (y_load pl_3 rfl (hS.cell rfl)) rfl (zI rfl (wl (y_leq rfl rfl) rfl (wl (y_pickT rfl rfl) rfl (zM rfl (zWc (s := 41) rfl (fun hg41 => ?_) fun hg41 => ?_)))))))
                · refine zI rfl ?_
                  refine zF fl_23_4 rfl (zI rfl (wl (y_load pl_3 rfl (hS.cell rfl)) rfl (zI rfl (wl (y_geq rfl rfl) rfl (wl (y_pickT rfl rfl) rfl (zM rfl (zWc (s := 46) rfl (fun hg46 => ?_) fun hg46 => ?_)))))))
                  · refine zI rfl ?_
                    refine zF fl_23_4 rfl (zI rfl (wl (y_load pl_3 rfl (hS.cell rfl)) rfl (zI rfl (wl (y_leq rfl rfl) rfl (wl (y_pickT rfl rfl) rfl (zM rfl (zWc (s := 51) rfl (fun hg51 => ?_) fun hg51 => ?_)))))))
                    · refine zI rfl ?_
                      refine zF fl_23_5 rfl (zI rfl (wl (y_load pl_3 rfl (hS.cell rfl)) rfl (zI rfl (wl (y_geq rfl rfl) rfl (wl (y_pickT rfl rfl) rfl (zM rfl (zWc (s := 56) rfl (fun hg56 => ?_) fun hg56 => ?_)))))))
                      · refine zI rfl ?_
                        refine zF fl_23_5 rfl (zI rfl (wl (y_load pl_3 rfl (hS.cell rfl)) rfl (zI rfl (wl (y_leq rfl rfl) rfl (wl (y_pickT rfl rfl) rfl (zA rfl (zE (zV (z1 rfl ?_)))))))))
                        first
                        | exact ⟨congrArg Value.bool (ht _ (by rw [decide_eq_true_iff]; omega)), hS.keep⟩
                        | exact ⟨congrArg Value.bool (ht _ (by simp only [Bool.false_eq_true, false_iff]; omega)), hS.keep⟩
                      refine zO rfl ?_
                      refine zO rfl (zO rfl (wl (y_pickF rfl rfl) rfl (zA rfl (zE (zV (z1 rfl ?_))))))
                      first
                      | exact ⟨congrArg Value.bool (ht _ (by rw [decide_eq_true_iff]; omega)), hS.keep⟩
                      | exact ⟨congrArg Value.bool (ht _ (by simp only [Bool.false_eq_true, false_iff]; omega)), hS.keep⟩
                    refine zO rfl ?_
                    refine zO rfl (zO rfl (wl (y_pickF rfl rfl) rfl (zM rfl (zO rfl (zO rfl (zO rfl (wl (y_pickF rfl rfl) rfl (zA rfl (zE (zV (z1 rfl ?_)))))))))))
                    first
                    | exact ⟨congrArg Value.bool (ht _ (by rw [decide_eq_true_iff]; omega)), hS.keep⟩
                    | exact ⟨congrArg Value.bool (ht _ (by simp only [Bool.false_eq_true, false_iff]; omega)), hS.keep⟩
                  refine zO rfl ?_
                  refine zO rfl (zO rfl (wl (y_pickF rfl rfl) rfl (zM rfl (zO rfl (zO rfl (zO rfl (wl (y_pickF rfl rfl) rfl (zM rfl (zO rfl (zO rfl (zO rfl (wl (y_pickF rfl rfl) rfl (zA rfl (zE (zV (z1 rfl ?_))))))))))))))))
                  first
                  | exact ⟨congrArg Value.bool (ht _ (by rw [decide_eq_true_iff]; omega)), hS.keep⟩
                  | exact ⟨congrArg Value.bool (ht _ (by simp only [Bool.false_eq_true, false_iff]; omega)), hS.keep⟩
                refine zO rfl ?_
                refine zO rfl (zO rfl (wl (y_pickF rfl rfl) rfl (zM rfl (zO rfl (zO rfl (zO rfl (wl (y_pickF rfl rfl) rfl (zM rfl (zO rfl (zO rfl (zO rfl (wl (y_pickF rfl rfl) rfl (zM rfl (zO rfl (zO rfl (zO rfl (wl (y_pickF rfl rfl) rfl (zA rfl (zE (zV (z1 rfl ?_)))))))))))))))))))))
                first
                | exact ⟨congrArg Value.bool (ht _ (by rw [decide_eq_true_iff]; omega)), hS.keep⟩
                | exact ⟨congrArg Value.bool (ht _ (by simp only [Bool.false_eq_true, false_iff]; omega)), hS.keep⟩
              refine zO rfl ?_
              refine zO rfl (zO rfl (wl (y_pickF rfl rfl) rfl (zM rfl (zO rfl (zO rfl (zO rfl (wl (y_pickF rfl rfl) rfl (zM rfl (zO rfl (zO rfl (zO rfl (wl (y_pickF rfl rfl) rfl (zM rfl (zO rfl (zO rfl (zO rfl (wl (y_pickF rfl rfl) rfl (zM rfl (zO rfl (zO rfl (zO rfl (wl (y_pickF rfl rfl) rfl (zA rfl (zE (zV (z1 rfl ?_))))))))))))))))))))))))))
              first
              | exact ⟨congrArg Value.bool (ht _ (by rw [decide_eq_true_iff]; omega)), hS.keep⟩
              | exact ⟨congrArg Value.bool (ht _ (by simp only [Bool.false_eq_true, false_iff]; omega)), hS.keep⟩
            refine zO rfl ?_
            refine zO rfl (zO rfl (wl (y_pickF rfl rfl) rfl (zM rfl (zO rfl (zO rfl (zO rfl (wl (y_pickF rfl rfl) rfl (zM rfl (zO rfl (zO rfl (zO rfl (wl (y_pickF rfl rfl) rfl (zM rfl (zO rfl (zO rfl (zO rfl (wl (y_pickF rfl rfl) rfl (zM rfl (zO rfl (zO rfl (zO rfl (wl (y_pickF rfl rfl) rfl (zM rfl (zO rfl (zO rfl (zO rfl (wl (y_pickF rfl rfl) rfl (zA rfl (zE (zV (z1 rfl ?_)))))))))))))))))))))))))))))))
            first
            | exact ⟨congrArg Value.bool (ht _ (by rw [decide_eq_true_iff]; omega)), hS.keep⟩
            | exact ⟨congrArg Value.bool (ht _ (by simp only [Bool.false_eq_true, false_iff]; omega)), hS.keep⟩
          refine zO rfl ?_
          refine zO rfl (zO rfl (wl (y_pickF rfl rfl) rfl (zM rfl (zO rfl (zO rfl (zO rfl (wl (y_pickF rfl rfl) rfl (zM rfl (zO rfl (zO rfl (zO rfl (wl (y_pickF rfl rfl) rfl (zM rfl (zO rfl (zO rfl (zO rfl (wl (y_pickF rfl rfl) rfl (zM rfl (zO rfl (zO rfl (zO rfl (wl (y_pickF rfl rfl) rfl (zM rfl (zO rfl (zO rfl (zO rfl (wl (y_pickF rfl rfl) rfl (zM rfl (zO rfl (zO rfl (zO rfl (wl (y_pickF rfl rfl) rfl (zA rfl (zE (zV (z1 rfl ?_))))))))))))))))))))))))))))))))))))
          first
          | exact ⟨congrArg Value.bool (ht _ (by rw [decide_eq_true_iff]; omega)), hS.keep⟩
          | exact ⟨congrArg Value.bool (ht _ (by simp only [Bool.false_eq_true, false_iff]; omega)), hS.keep⟩
        refine zO rfl ?_
        refine zO rfl (zO rfl (wl (y_pickF rfl rfl) rfl (zM rfl (zO rfl (zO rfl (zO rfl (wl (y_pickF rfl rfl) rfl (zM rfl (zO rfl (zO rfl (zO rfl (wl (y_pickF rfl rfl) rfl (zM rfl (zO rfl (zO rfl (zO rfl (wl (y_pickF rfl rfl) rfl (zM rfl (zO rfl (zO rfl (zO rfl (wl (y_pickF rfl rfl) rfl (zM rfl (zO rfl (zO rfl (zO rfl (wl (y_pickF rfl rfl) rfl (zM rfl (zO rfl (zO rfl (zO rfl (wl (y_pickF rfl rfl) rfl (zM rfl (zO rfl (zO rfl (zO rfl (wl (y_pickF rfl rfl) rfl (zA rfl (zE (zV (z1 rfl ?_)))))))))))))))))))))))))))))))))))))))))
        first
        | exact ⟨congrArg Value.bool (ht _ (by rw [decide_eq_true_iff]; omega)), hS.keep⟩
        | exact ⟨congrArg Value.bool (ht _ (by simp only [Bool.false_eq_true, false_iff]; omega)), hS.keep⟩
      refine zO rfl ?_
      refine zO rfl (zO rfl (wl (y_pickF rfl rfl) rfl (zM rfl (zO rfl (zO rfl (zO rfl (wl (y_pickF rfl rfl) rfl (zM rfl (zO rfl (zO rfl (zO rfl (wl (y_pickF rfl rfl) rfl (zM rfl (zO rfl (zO rfl (zO rfl (wl (y_pickF rfl rfl) rfl (zM rfl (zO rfl (zO rfl (zO rfl (wl (y_pickF rfl rfl) rfl (zM rfl (zO rfl (zO rfl (zO rfl (wl (y_pickF rfl rfl) rfl (zM rfl (zO rfl (zO rfl (zO rfl (wl (y_pickF rfl rfl) rfl (zM rfl (zO rfl (zO rfl (zO rfl (wl (y_pickF rfl rfl) rfl (zM rfl (zO rfl (zO rfl (zO rfl (wl (y_pickF rfl rfl) rfl (zA rfl (zE (zV (z1 rfl ?_))))))))))))))))))))))))))))))))))))))))))))))
      first
      | exact ⟨congrArg Value.bool (ht _ (by rw [decide_eq_true_iff]; omega)), hS.keep⟩
      | exact ⟨congrArg Value.bool (ht _ (by simp only [Bool.false_eq_true, false_iff]; omega)), hS.keep⟩
    refine zO rfl ?_
    refine zO rfl (zO rfl (wl (y_pickF rfl rfl) rfl (zM rfl (zO rfl (zO rfl (zO rfl (wl (y_pickF rfl rfl) rfl (zM rfl (zO rfl (zO rfl (zO rfl (wl (y_pickF rfl rfl) rfl (zM rfl (zO rfl (zO rfl (zO rfl (wl (y_pickF rfl rfl) rfl (zM rfl (zO rfl (zO rfl (zO rfl (wl (y_pickF rfl rfl) rfl (zM rfl (zO rfl (zO rfl (zO rfl (wl (y_pickF rfl rfl) rfl (zM rfl (zO rfl (zO rfl (zO rfl (wl (y_pickF rfl rfl) rfl (zM rfl (zO rfl (zO rfl (zO rfl (wl (y_pickF rfl rfl) rfl (zM rfl (zO rfl (zO rfl (zO rfl (wl (y_pickF rfl rfl) rfl (zM rfl (zO rfl (zO rfl (zO rfl (wl (y_pickF rfl rfl) rfl (zA rfl (zE (zV (z1 rfl ?_)))))))))))))))))))))))))))))))))))))))))))))))))))
    first
    | exact ⟨congrArg Value.bool (ht _ (by rw [decide_eq_true_iff]; omega)), hS.keep⟩
    | exact ⟨congrArg Value.bool (ht _ (by simp only [Bool.false_eq_true, false_iff]; omega)), hS.keep⟩
  refine zO rfl ?_
  refine zO rfl (zO rfl (wl (y_pickF rfl rfl) rfl (zM rfl (zO rfl (zO rfl (zO rfl (wl (y_pickF rfl rfl) rfl (zM rfl (zO rfl (zO rfl (zO rfl (wl (y_pickF rfl rfl) rfl (zM rfl (zO rfl (zO rfl (zO rfl (wl (y_pickF rfl rfl) rfl (zM rfl (zO rfl (zO rfl (zO rfl (wl (y_pickF rfl rfl) rfl (zM rfl (zO rfl (zO rfl (zO rfl (wl (y_pickF rfl rfl) rfl (zM rfl (zO rfl (zO rfl (zO rfl (wl (y_pickF rfl rfl) rfl (zM rfl (zO rfl (zO rfl (zO rfl (wl (y_pickF rfl rfl) rfl (zM rfl (zO rfl (zO rfl (zO rfl (wl (y_pickF rfl rfl) rfl (zM rfl (zO rfl (zO rfl (zO rfl (wl (y_pickF rfl rfl) rfl (zM rfl (zO rfl (zO rfl (zO rfl (wl (y_pickF rfl rfl) rfl (zA rfl (zE (zV (z1 rfl ?_))))))))))))))))))))))))))))))))))))))))))))))))))))))))
  first
  | exact ⟨congrArg Value.bool (ht _ (by rw [decide_eq_true_iff]; omega)), hS.keep⟩
  | exact ⟨congrArg Value.bool (ht _ (by simp only [Bool.false_eq_true, false_iff]; omega)), hS.keep⟩
end
end Go.Proofs.YtndahppmjdbifaaGreatDoor.Nod
set_option linter.unusedVariables false
set_option linter.unusedSimpArgs false
namespace Go.Proofs.YtndahppmjdbifaaGreatDoor.Nod
open Go Go.Proofs Eng Pre Pak Val Rou Fra Go.Proofs.YtndahppmjdbifaaGreatDoor.Snd Go.Proofs.YtndahppmjdbifaaGreatDoor.Lnk Jnl Go.Proofs.YtndahppmjdbifaaGreatDoor.Cli Sto
theorem _root_.Go.Proofs.YtndahppmjdbifaaGreatDoor.Eng.Holds.atV {α : Type} {A : Enc α} {w : World} {b off m c i : Nat} {xs : List α} {x : α} (h : Holds w A (.slice (some ⟨b, off, none⟩) m c) xs) (hx : xs[i]? = some x) : CellsAt w b (off + i * A.k) (A.f x) := by
  obtain ⟨b', off', c', hse, hce⟩ := h.at hx
  simp only [Value.slice.injEq, Option.some.injEq, Addr.mk.injEq] at hse
  obtain ⟨⟨rfl, rfl, _⟩, _⟩ := hse
  exact hce
theorem take_eq_step {α : Type} {xs ys : List α} {i : Nat} {x y : α} (hx : xs[i]? = some x) (hy : ys[i]? = some y) (h : xs.take i = ys.take i) (e : x = y) : xs.take (i + 1) = ys.take (i + 1) := by
  rw [List.take_add_one, List.take_add_one, hx, hy, h, e]
theorem pkt_eq (x y : Pkt) : (decide (x.frm = y.frm) && (decide (x.to_ = y.to_) && (decide (x.bytes = y.bytes) && true))) = decide (x = y) := by
  rw [Bool.eq_iff_iff]
  simp only [Bool.and_true, Bool.and_eq_true, decide_eq_true_iff]
  cases x; cases y; simp
section
variable {M : Mem} {w : World} {Ls : List Chunk}
theorem psame_c {xs ys : List Pkt} {s t : Value} {H1 H2 : Chunk} (hl : xs.length ≤ 137438953472) (hx : Own 40 encP s xs H1) (hy : Own 40 encP t ys H2) (hS : St M w (H1 :: H2 :: Ls)) :
    CallsR Tryz.prog 20 [s, t].toArray w fun v w' => v = .bool (decide (xs = ys)) ∧ St M w' (H1 :: H2 :: Ls) := by
  obtain ⟨sa, sc, rfl⟩ := hx.slice
  obtain ⟨ta, tc, rfl⟩ := hy.slice
  refine zC 26 Tryz.func20 rfl (zQ (zR (zA rfl (zE (zQ (zQ (zR (zM rfl (wl (y_len_sl Tryz.underlying37 rfl) rfl (zM rfl (wl (y_len_sl Tryz.underlying37 rfl) rfl (wl (y_neq rfl rfl) rfl (zE (zIf rfl (fun hc10 => ?_) fun hc10 => ?_))))))))))))))
  · have hne : xs ≠ ys := fun e => by subst e; simp at hc10
    rw [decide_eq_false hne]
    refine zQ (zR (zA rfl (zE (zV (z1 rfl ?_)))))
    exact ⟨rfl, hS⟩
  have hlen : xs.length = ys.length := by omega
  refine zK (zQ (zQ (zR (zA rfl (zE (zB (wc_loop (α := Nat) (fun i => [(0, .slice sa xs.length sc), (1, .slice ta ys.length tc), (5, .int .i64 i)]) (fun i w => i ≤ xs.length ∧ xs.take i = ys.take i ∧ St M w (H1 :: H2 :: Ls)) (fun i => xs.length - i) 0 (sub_cons rfl (sub_cons rfl (subR rfl))) ⟨by omega, rfl, hS⟩ ?_)))))))
  clear hS
  rintro i w ⟨hi, hq, hS⟩
  refine zQ (zQ (zR (zM rfl (zM rfl (wl (y_len_sl Tryz.underlying37 rfl) rfl (wl (y_lss rfl rfl) rfl (zE (zIf rfl (fun hc14 => ?_) fun hc14 => ?_))))))))
  · refine zK ?_
    refine zQ (zB (zQ ?_))
    have hi' : i < xs.length := by omega
    obtain ⟨x, hxi⟩ : ∃ x, xs[i]? = some x := ⟨_, List.getElem?_eq_getElem hi'⟩
    obtain ⟨y, hyi⟩ : ∃ y, ys[i]? = some y := ⟨_, List.getElem?_eq_getElem (by omega)⟩
    obtain ⟨bb, off, c', hse, _⟩ := (hx.holds (hS.pull H1)).at hxi
    obtain ⟨bc, og, c2, hsf, _⟩ := (hy.holds (hS.pull H2)).at hyi
    simp only [Value.slice.injEq] at hse hsf
    have hSk := hS
    obtain ⟨rfl, _, rfl⟩ := hse
    obtain ⟨rfl, _, rfl⟩ := hsf
    replace hS := hSk
    refine zW hS (fun w => CellsAt w bb (off + i * encP.k) (encP.f x) ∧ CellsAt w bc (og + i * encP.k) (encP.f y)) [] wide_ rfl fun w hS => zPm 0 1 rfl (zPm 1 3 rfl (zP 2 7 rfl (fun w => y_ixa_sl Tryz.underlying37 sz_40 rfl rfl (by omega) (by omega)) (zPm 4 23 rfl (zPm 5 55 rfl (zP 6 119 rfl (fun w => y_ixa_sl Tryz.underlying37 sz_40 rfl rfl (by omega) (by omega)) (zD 3 127 rfl ⟨(hx.holds (hS.pull H1)).atV hxi, (hy.holds (hS.pull H2)).atV hyi⟩ (fun w hS => y_loadS st_40 sz_40 rfl hS.1 rfl) (zD 7 255 rfl ⟨(hx.holds (hS.pull H1)).atV hxi, (hy.holds (hS.pull H2)).atV hyi⟩ (fun w hS => y_loadS st_40 sz_40 rfl hS.2 rfl) (zP 8 511 rfl (fun w => (y_neS Tryz.eqGuardType40 rfl rfl (eq_40 _ _ _ _ _ _)).val (u := .bool (!decide (x = y))) (congrArg Value.bool (congrArg not (pkt_eq x y)))) (zH (zIf rfl (fun hc25 => ?_) fun hc25 => ?_))))))))))
    · have hne : xs ≠ ys := fun e => by subst e; rw [hxi] at hyi; exact hc25 (Option.some.inj hyi)
      rw [decide_eq_false hne]
      refine zQ (zR (zA rfl (zE (zV (z1 rfl ?_)))))
      exact ⟨rfl, hS⟩
    refine zK ?_
    refine zR (zM rfl (wl (y_add rfl rfl (w64 (by omega) (by omega))) rfl (zA rfl (zE ?_))))
    exact ⟨i + 1, by omega, sub_cons rfl (sub_cons rfl (subR rfl)), by omega, take_eq_step hxi hyi hq hc25, hS⟩
  obtain rfl : i = xs.length := by omega
  rw [List.take_length, hlen, List.take_length] at hq
  rw [decide_eq_true hq]
  refine wc_exit (zQ (zR (zA rfl (zE (zV (z1 rfl ?_))))))
  exact ⟨rfl, hS⟩
theorem upd_eq (x y : Upd) : (decide (x.key = y.key) && (decide (x.kind = y.kind) && (decide (x.n = y.n) && (decide (x.s = y.s) && true)))) = decide (x = y) := by
  rw [Bool.eq_iff_iff]
  simp only [Bool.and_true, Bool.and_eq_true, decide_eq_true_iff]
  cases x; cases y; simp
theorem rsame_c (r q : Rnd) (s t : Value) (hs : Rd M encU s r.ups) (ht : Rd M encU t q.ups) (hl : r.ups.length ≤ 137438953472) (hS : St M w Ls) :
    CallsR Tryz.prog 58 [rvS r s, rvS q t].toArray w fun v w' => v = .bool (decide (r = q)) ∧ St M w' Ls := by
  have hs0 := hs
  have ht0 := ht
  obtain ⟨sa, sc, rfl⟩ := (hs.holds hS).slice
  obtain ⟨ta, tc, rfl⟩ := (ht.holds hS).slice
  refine zC 45 Tryz.func58 rfl (zQ (zR (a_box rfl hS rfl fun b2 w hS => a_box rfl hS rfl fun b3 w hS => zA rfl (zE (zQ (zQ (zR (zF fl_48_0 rfl (wl (y_load pl_3 rfl (hS.c (v := .int .i64 r.o))) rfl (zF fl_48_0 rfl (wl (y_load pl_3 rfl (hS.c (v := .int .i64 q.o))) rfl (wl (y_neq rfl rfl) rfl (zM rfl (zWc (s := 11) rfl (fun hg11 => ?_) fun hg11 => ?_))))))))))))))
  · have hne : r ≠ q := fun e => by subst e; exact absurd rfl hg11
    rw [decide_eq_false hne]
    refine zO rfl (zO rfl (zO rfl (zO rfl (zO rfl (wl (y_pickT rfl rfl) rfl (zM rfl (zO rfl (zO rfl (zO rfl (zO rfl (zO rfl (zO rfl (zO rfl (wl (y_pickT rfl rfl) rfl (zE (wc_ifT rfl rfl (zQ (zR (zA rfl (zE (zV (z1 rfl ?_))))))))))))))))))))))
    exact ⟨rfl, hS.keep⟩
  refine zI rfl ?_
  refine zF fl_48_1 rfl (zI rfl (wl (y_load pl_3 rfl (hS.c (v := .int .i64 r.n))) rfl (zI rfl (zF fl_48_1 rfl (zI rfl (wl (y_load pl_3 rfl (hS.c (v := .int .i64 q.n))) rfl (zI rfl (wl (y_neq rfl rfl) rfl (wl (y_pickF rfl rfl) rfl (zM rfl (zWc (s := 18) rfl (fun hg18 => ?_) fun hg18 => ?_)))))))))))
  · have hne : r ≠ q := fun e => by subst e; exact absurd rfl hg18
    rw [decide_eq_false hne]
    refine zO rfl (zO rfl (zO rfl (zO rfl (zO rfl (zO rfl (zO rfl (wl (y_pickT rfl rfl) rfl (zE (wc_ifT rfl rfl (zQ (zR (zA rfl (zE (zV (z1 rfl ?_)))))))))))))))
    exact ⟨rfl, hS.keep⟩
  refine zI rfl ?_
  refine zF fl_48_2 rfl (zI rfl (wl (y_load pl_46 rfl (hS.c (v := .slice sa r.ups.length sc))) rfl (zI rfl (wl (y_len_sl Tryz.underlying46 rfl) rfl (zI rfl (zF fl_48_2 rfl (zI rfl (wl (y_load pl_46 rfl (hS.c (v := .slice ta q.ups.length tc))) rfl (zI rfl (wl (y_len_sl Tryz.underlying46 rfl) rfl (zI rfl (wl (y_neq rfl rfl) rfl (wl (y_pickF rfl rfl) rfl (zE (zIf rfl (fun hc26 => ?_) fun hc26 => ?_)))))))))))))))
  · have hne : r ≠ q := fun e => by subst e; exact absurd rfl hc26
    rw [decide_eq_false hne]
    refine zQ (zR (zA rfl (zE (zV (z1 rfl ?_)))))
    exact ⟨rfl, hS.keep⟩
  have hlen : r.ups.length = q.ups.length := by omega
  refine zK (zQ (zQ (zR (zA rfl (zE (zB (wc_loop (α := Nat) (fun i => [(2, .pointer (some ⟨b2, 0, none⟩)), (3, .pointer (some ⟨b3, 0, none⟩)), (5, .int .i64 i)]) (fun i w => i ≤ r.ups.length ∧ r.ups.take i = q.ups.take i ∧ St M w ([(b3, .cells #[.int .i64 q.o, .int .i64 q.n, .slice ta q.ups.length tc] 48)] :: [(b2, .cells #[.int .i64 r.o, .int .i64 r.n, .slice sa r.ups.length sc] 48)] :: Ls)) (fun i => r.ups.length - i) 0 (sub_cons rfl (sub_cons rfl (subR rfl))) ⟨by omega, rfl, hS⟩ ?_)))))))
  clear hS
  rintro i w ⟨hi, hq, hS⟩
  refine zQ (zQ (zR (zM rfl (zF fl_48_2 rfl (wl (y_load pl_46 rfl (hS.c (v := .slice sa r.ups.length sc))) rfl (wl (y_len_sl Tryz.underlying46 rfl) rfl (wl (y_lss rfl rfl) rfl (zE (zIf rfl (fun hc31 => ?_) fun hc31 => ?_)))))))))
  · refine zK ?_
    refine zQ (zB (zQ ?_))
    have hi' : i < r.ups.length := by omega
    obtain ⟨x, hxi⟩ : ∃ x, r.ups[i]? = some x := ⟨_, List.getElem?_eq_getElem hi'⟩
    obtain ⟨y, hyi⟩ : ∃ y, q.ups[i]? = some y := ⟨_, List.getElem?_eq_getElem (by omega)⟩
    obtain ⟨bb, off, c', hse, _⟩ := (hs0.holds hS).at hxi
    obtain ⟨bc, og, c2, hsf, _⟩ := (ht0.holds hS).at hyi
    simp only [Value.slice.injEq] at hse hsf
    have hSk := hS
    obtain ⟨rfl, _, rfl⟩ := hse
    obtain ⟨rfl, _, rfl⟩ := hsf
    replace hS := hSk
    refine zW hS (fun w => w.cell? ⟨b2, 2, none⟩ = some (.slice (some ⟨bb, off, none⟩) r.ups.length sc) ∧ w.cell? ⟨b3, 2, none⟩ = some (.slice (some ⟨bc, og, none⟩) q.ups.length tc) ∧ CellsAt w bb (off + i * encU.k) (encU.f x) ∧ CellsAt w bc (og + i * encU.k) (encU.f y)) [] wide_ rfl fun w hS => zPf 0 1 fl_48_2 rfl (zPm 2 5 rfl (zPf 5 37 fl_48_2 rfl (zPm 7 165 rfl (zD 1 167 rfl ⟨hS.c, hS.c, (hs0.holds hS).atV hxi, (ht0.holds hS).atV hyi⟩ (fun w hS => y_load pl_46 rfl hS.1) (zP 3 175 rfl (fun w => y_ixa_sl Tryz.underlying46 sz_59 rfl rfl (by omega) (by omega)) (zD 4 191 rfl ⟨hS.c, hS.c, (hs0.holds hS).atV hxi, (ht0.holds hS).atV hyi⟩ (fun w hS => y_loadS st_59 sz_59 rfl hS.2.2.1 rfl) (zD 6 255 rfl ⟨hS.c, hS.c, (hs0.holds hS).atV hxi, (ht0.holds hS).atV hyi⟩ (fun w hS => y_load pl_46 rfl hS.2.1) (zP 8 511 rfl (fun w => y_ixa_sl Tryz.underlying46 sz_59 rfl rfl (by omega) (by omega)) (zD 9 1023 rfl ⟨hS.c, hS.c, (hs0.holds hS).atV hxi, (ht0.holds hS).atV hyi⟩ (fun w hS => y_loadS st_59 sz_59 rfl hS.2.2.2 rfl) (zP 10 2047 rfl (fun w => (y_neS Tryz.eqGuardType59 rfl rfl (eq_59 _ _ _ _ _ _ _ _)).val (u := .bool (!decide (x = y))) (congrArg Value.bool (congrArg not (upd_eq x y)))) (zH (zIf rfl (fun hc44 => ?_) fun hc44 => ?_))))))))))))
    · have hne : r ≠ q := fun e => by subst e; rw [hxi] at hyi; exact hc44 (Option.some.inj hyi)
      rw [decide_eq_false hne]
      refine zQ (zR (zA rfl (zE (zV (z1 rfl ?_)))))
      exact ⟨rfl, hS.keep⟩
    refine zK ?_
    refine zR (zM rfl (wl (y_add rfl rfl (w64 (by omega) (by omega))) rfl (zA rfl (zE ?_))))
    exact ⟨i + 1, by omega, sub_cons rfl (sub_cons rfl (subR rfl)), by omega, take_eq_step hxi hyi hq hc44, hS⟩
  obtain rfl : i = r.ups.length := by omega
  rw [List.take_length, hlen, List.take_length] at hq
  have heq : r = q := by cases r; cases q; simp only [Rnd.mk.injEq]; exact ⟨hg11, hg18, hq⟩
  rw [decide_eq_true heq]
  refine wc_exit (zQ (zR (zA rfl (zE (zV (z1 rfl ?_))))))
  exact ⟨rfl, hS.keep⟩
end
end Go.Proofs.YtndahppmjdbifaaGreatDoor.Nod
set_option linter.unusedVariables false
set_option linter.unusedSimpArgs false
namespace Go.Proofs.YtndahppmjdbifaaGreatDoor.Nod
open Go Go.Proofs Eng Pre Pak Val Rou Fra Go.Proofs.YtndahppmjdbifaaGreatDoor.Snd Go.Proofs.YtndahppmjdbifaaGreatDoor.Lnk Jnl Go.Proofs.YtndahppmjdbifaaGreatDoor.Cli Sto
def mayB (c : Cfg) (origin : Int) (l : List Act) : Bool := decide (greatB c l = false ∧ mayC c = 0 ∧ 1 ≤ origin ∧ origin ≤ c.clients)
theorem greatB_ok {c : Cfg} {l : List Act} (h : greatB c l = false) : l.length ≤ 50 ∧ c.clients ≤ 4 ∧ ∀ a ∈ l, greatA a = false := by
  unfold greatB at h
  simp only [Bool.or_eq_false_iff, decide_eq_false_iff_not, List.any_eq_false, Bool.not_eq_true] at h
  exact ⟨by omega, by omega, h.2⟩
theorem greatA_ok {a : Act} (h : greatA a = false) : a.bytes.size ≤ 400 ∧ a.u.key.size ≤ 100 ∧ a.u.s.size ≤ 1200 := by
  unfold greatA greatU at h
  simp only [Bool.or_eq_false_iff, decide_eq_false_iff_not] at h
  omega
section
variable {M : Mem} {w : World} {Ls : List Chunk}
theorem great_c (c : Cfg) (l : List Act) (s : Value) (hl : Rd M encA s l) (hS : St M w Ls) : CallsR Tryz.prog 28 [cfgV c, s].toArray w fun v w' => v = .bool (greatB c l) ∧ St M w' Ls := by
  obtain ⟨sa, sc, rfl⟩ := (hl.holds hS).slice
  refine zC 31 Tryz.func28 rfl (zQ (zR (a_box rfl hS rfl fun b2 w hS => zA rfl (zE (zQ (zQ (zR (zM rfl (wl (y_len_sl Tryz.underlying24 rfl) rfl (wl (y_gtr rfl rfl) rfl (zM rfl (zWc (s := 10) rfl (fun hg10 => ?_) fun hg10 => ?_))))))))))))
  · have he : greatB c l = true := by unfold greatB; rw [decide_eq_true (by omega)] <;> rfl
    rw [he]
    refine zO rfl (zO rfl (zO rfl (wl (y_pickT rfl rfl) rfl (zE (wc_ifT rfl rfl (zQ (zR (zA rfl (zE (zV (z1 rfl ?_)))))))))))
    exact ⟨rfl, hS.keep⟩
  refine zI rfl ?_
  refine zF fl_23_0 rfl (zI rfl (wl (y_load pl_3 rfl (hS.c (v := .int .i64 c.clients))) rfl (zI rfl (wl (y_gtr rfl rfl) rfl (wl (y_pickF rfl rfl) rfl (zE (zIf rfl (fun hc14 => ?_) fun hc14 => ?_)))))))
  · have he : greatB c l = true := by unfold greatB; rw [decide_eq_true (by omega)] <;> rfl
    rw [he]
    refine zQ (zR (zA rfl (zE (zV (z1 rfl ?_)))))
    exact ⟨rfl, hS.keep⟩
  refine zK ?_
  refine zQ (zQ (zR (zM rfl (wl (y_len_sl Tryz.underlying24 rfl) rfl (zM rfl (zE (zB (wc_loop (α := Nat) (fun i => [(15, .slice sa l.length sc), (16, .int .i64 l.length), (17, .int .i64 i)]) (fun i w => i ≤ l.length ∧ (∀ a ∈ l.take i, greatA a = false) ∧ St M w Ls) (fun i => l.length - i) 0 (sub_cons rfl (sub_cons rfl (subR rfl))) ⟨by omega, by simp, hS.keep⟩ ?_))))))))
  clear hS
  rintro i w ⟨hi, hq, hS⟩
  refine zQ (zR (wl (y_lss rfl rfl) rfl (zE (zQ (zIf rfl (fun hc18 => ?_) fun hc18 => ?_)))))
  · refine zK ?_
    refine zQ (zB (zQ ?_))
    have hi' : i < l.length := by omega
    obtain ⟨a, hai⟩ : ∃ a, l[i]? = some a := ⟨_, List.getElem?_eq_getElem hi'⟩
    obtain ⟨bb, off, c', hse, hce⟩ := (hl.holds hS).at hai
    simp only [Value.slice.injEq] at hse
    have hSk := hS
    obtain ⟨rfl, _, rfl⟩ := hse
    replace hS := hSk
    refine zR (wl (y_ixa_sl Tryz.underlying24 sz_61 rfl rfl (by omega) (by omega)) rfl (wl ((y_loadS st_61 sz_61 rfl (vs := encA.f a) hce rfl).val (show _ = aV a from rfl)) rfl (a_alloc z_61 hS rfl fun b6 w hS => zG (vs := [_, _, _, _, _, _]) sz_61 rfl hS fun w hS => zE (zQ (zR (zF fl_61_2 rfl (wl (y_load pl_9 rfl (hS.c (v := .string a.bytes))) rfl (wl (y_len_s Tryz.underlying9 rfl) rfl (wl (y_gtr rfl rfl) rfl (zM rfl (zWc (s := 25) rfl (fun hg25 => ?_) fun hg25 => ?_)))))))))))
    · have hga : greatA a = true := by unfold greatA; rw [decide_eq_true (by omega)] <;> rfl
      have he : greatB c l = true := by unfold greatB; rw [List.any_eq_true.2 ⟨a, List.mem_of_getElem? hai, hga⟩, Bool.or_true]
      rw [he]
      refine zO rfl (zO rfl (zO rfl (wl (y_pickT rfl rfl) rfl (zE (wc_ifT rfl rfl (zQ (zR (zA rfl (zE (zV (z1 rfl ?_)))))))))))
      exact ⟨rfl, hS.keep⟩
    refine zI rfl ?_
    refine zF fl_61_1 rfl (zI rfl (wl ((y_loadS st_59 sz_59 rfl (vs := encU.f a.u) (hS.cells rfl) rfl).val (show _ = uv a.u from rfl)) rfl (zI rfl (wl_call (.cons rfl .nil) (greatu_c a.u hS) rfl ?_))))
    rintro _ w ⟨rfl, hS⟩
    refine wl (y_pickF rfl rfl) rfl (zE (zIf rfl (fun hc29 => ?_) fun hc29 => ?_))
    · have hga : greatA a = true := by unfold greatA; rw [hc29, Bool.or_true]
      have he : greatB c l = true := by unfold greatB; rw [List.any_eq_true.2 ⟨a, List.mem_of_getElem? hai, hga⟩, Bool.or_true]
      rw [he]
      refine zQ (zR (zA rfl (zE (zV (z1 rfl ?_)))))
      exact ⟨rfl, hS.keep⟩
    have hga : greatA a = false := by unfold greatA; rw [hc29, decide_eq_false (by omega)] <;> rfl
    refine zK (zR (wl (y_add rfl rfl (w64 (by omega) (by omega))) rfl (zM rfl (zE ?_))))
    exact ⟨i + 1, by omega, sub_cons rfl (sub_cons rfl (subR rfl)), by omega, (by
      intro x hx
      rw [List.take_add_one, hai] at hx
      rcases List.mem_append.1 hx with hx | hx
      · exact hq x hx
      simp at hx; subst hx; exact hga), hS.keep⟩
  obtain rfl : i = l.length := by omega
  rw [List.take_length] at hq
  have he : greatB c l = false := by
    unfold greatB
    rw [decide_eq_false (by omega), Bool.false_or, List.any_eq_false]
    intro x hx; rw [hq x hx]; decide
  rw [he]
  refine wc_exit (zQ (zR (zA rfl (zE (zV (z1 rfl ?_))))))
  exact ⟨rfl, hS.keep⟩
theorem may_c (c : Cfg) (origin : Int) (l : List Act) (s : Value) (hl : Rd M encA s l) (hS : St M w Ls) : CallsR Tryz.prog 11 [cfgV c, .int .i64 origin, s].toArray w fun v w' => v = .bool (mayB c origin l) ∧ St M w' Ls := by
  obtain ⟨sa, sc, rfl⟩ := (hl.holds hS).slice
  have fin : ∀ b : Bool, (b = true ↔ greatB c l = false ∧ mayC c = 0 ∧ 1 ≤ origin ∧ origin ≤ c.clients) → b = mayB c origin l := by
    intro b hb
    unfold mayB
    rw [Bool.eq_iff_iff, hb, decide_eq_true_iff]
  refine zC 25 Tryz.func11 rfl (zQ (zR (a_box rfl hS rfl fun b3 w hS => zA rfl (zE (zQ (zR (wl ((y_loadS st_23 sz_23 rfl (vs := [.int .i64 c.clients, .int .i64 c.window, .int .i64 c.push, .int .i64 c.pull, .int .i64 c.mtu, .int .i64 c.last]) (hS.cells rfl) rfl).val (show _ = cfgV c from rfl)) rfl (zM rfl (wl_call (.cons rfl (.cons rfl .nil)) (great_c c l _ hl hS) rfl ?_)))))))))
  rintro _ w ⟨rfl, hS⟩
  refine wl (y_not rfl) rfl (zM rfl (zWc (s := 11) rfl (fun hg11 => ?_) fun hg11 => ?_))
  · refine zI rfl ?_
    refine wl ((y_loadS st_23 sz_23 rfl (vs := [.int .i64 c.clients, .int .i64 c.window, .int .i64 c.push, .int .i64 c.pull, .int .i64 c.mtu, .int .i64 c.last]) (hS.cells rfl) rfl).val (show _ = cfgV c from rfl)) rfl (zI rfl (wl_call (.cons rfl .nil) (rmayc_c c hS) rfl ?_))
    rintro _ w ⟨rfl, hS⟩
    refine wl (y_pickT rfl rfl) rfl (zM rfl (zWc (s := 15) rfl (fun hg15 => ?_) fun hg15 => ?_))
    · refine zI rfl ?_
      refine zM rfl (zI rfl (wl (y_geq rfl rfl) rfl (wl (y_pickT rfl rfl) rfl (zM rfl (zWc (s := 19) rfl (fun hg19 => ?_) fun hg19 => ?_)))))
      · refine zI rfl ?_
        refine zM rfl (zI rfl (zF fl_23_0 rfl (zI rfl (wl (y_load pl_3 rfl (hS.c (v := .int .i64 c.clients))) rfl (zI rfl (wl (y_leq rfl rfl) rfl (wl (y_pickT rfl rfl) rfl (zA rfl (zE (zV (z1 rfl ?_)))))))))))
        first
        | exact ⟨congrArg Value.bool (fin _ (by rw [decide_eq_true_iff]; exact ⟨fun h => ⟨hg11, hg15, hg19, h⟩, fun h => h.2.2.2⟩)), hS.keep⟩
        | exact ⟨congrArg Value.bool (fin _ ⟨fun h => absurd h (by decide), fun h => absurd h.2.2.1 (by omega)⟩), hS.keep⟩
        | exact ⟨congrArg Value.bool (fin _ ⟨fun h => absurd h (by decide), fun h => absurd h.2.1 hg15⟩), hS.keep⟩
        | exact ⟨congrArg Value.bool (fin _ ⟨fun h => absurd h (by decide), fun h => absurd h.1 (by rw [hg11]; decide)⟩), hS.keep⟩
      refine zO rfl ?_
      refine zO rfl (zO rfl (zO rfl (wl (y_pickF rfl rfl) rfl (zA rfl (zE (zV (z1 rfl ?_)))))))
      first
      | exact ⟨congrArg Value.bool (fin _ (by rw [decide_eq_true_iff]; exact ⟨fun h => ⟨hg11, hg15, hg19, h⟩, fun h => h.2.2.2⟩)), hS.keep⟩
      | exact ⟨congrArg Value.bool (fin _ ⟨fun h => absurd h (by decide), fun h => absurd h.2.2.1 (by omega)⟩), hS.keep⟩
      | exact ⟨congrArg Value.bool (fin _ ⟨fun h => absurd h (by decide), fun h => absurd h.2.1 hg15⟩), hS.keep⟩
      | exact ⟨congrArg Value.bool (fin _ ⟨fun h => absurd h (by decide), fun h => absurd h.1 (by rw [hg11]; decide)⟩), hS.keep⟩
    refine zO rfl ?_
    refine zO rfl (wl (y_pickF rfl rfl) rfl (zM rfl (zO rfl (zO rfl (zO rfl (zO rfl (wl (y_pickF rfl rfl) rfl (zA rfl (zE (zV (z1 rfl ?_)))))))))))
    first
    | exact ⟨congrArg Value.bool (fin _ (by rw [decide_eq_true_iff]; exact ⟨fun h => ⟨hg11, hg15, hg19, h⟩, fun h => h.2.2.2⟩)), hS.keep⟩
    | exact ⟨congrArg Value.bool (fin _ ⟨fun h => absurd h (by decide), fun h => absurd h.2.2.1 (by omega)⟩), hS.keep⟩
    | exact ⟨congrArg Value.bool (fin _ ⟨fun h => absurd h (by decide), fun h => absurd h.2.1 hg15⟩), hS.keep⟩
    | exact ⟨congrArg Value.bool (fin _ ⟨fun h => absurd h (by decide), fun h => absurd h.1 (by rw [hg11]; decide)⟩), hS.keep⟩
  refine zO rfl ?_
  refine zO rfl (wl (y_pickF rfl rfl) rfl (zM rfl (zO rfl (zO rfl (wl (y_pickF rfl rfl) rfl (zM rfl (zO rfl (zO rfl (zO rfl (zO rfl (wl (y_pickF rfl rfl) rfl (zA rfl (zE (zV (z1 rfl ?_)))))))))))))))
  first
  | exact ⟨congrArg Value.bool (fin _ (by rw [decide_eq_true_iff]; exact ⟨fun h => ⟨hg11, hg15, hg19, h⟩, fun h => h.2.2.2⟩)), hS.keep⟩
  | exact ⟨congrArg Value.bool (fin _ ⟨fun h => absurd h (by decide), fun h => absurd h.2.2.1 (by omega)⟩), hS.keep⟩
  | exact ⟨congrArg Value.bool (fin _ ⟨fun h => absurd h (by decide), fun h => absurd h.2.1 hg15⟩), hS.keep⟩
  | exact ⟨congrArg Value.bool (fin _ ⟨fun h => absurd h (by decide), fun h => absurd h.1 (by rw [hg11]; decide)⟩), hS.keep⟩
end
end Go.Proofs.YtndahppmjdbifaaGreatDoor.Nod
set_option linter.unusedVariables false
set_option linter.unusedSimpArgs false
namespace Go.Proofs.YtndahppmjdbifaaGreatDoor.Nod
open Go Go.Proofs Eng Pre Pak Val Rou Fra Go.Proofs.YtndahppmjdbifaaGreatDoor.Snd Go.Proofs.YtndahppmjdbifaaGreatDoor.Lnk Jnl Go.Proofs.YtndahppmjdbifaaGreatDoor.Cli Sto
def cfg0 : Cfg := ⟨2, 2, 4, 2, 100, 2⟩
def u0 : Upd := ⟨⟨#[107]⟩, 1, 5, ByteArray.empty⟩
def aw1 : Nod := (Nod.new cfg0 1).upd u0
def aw2 : Nod := aw1.push
def aw3 : Nod := aw2.tick
def aw4 : Nod := aw3.reset
def aw5 : Nod := aw4.reset
def aw6 : Nod := aw5.tick
def aw7 : Nod := aw6.hear ⟨#[120]⟩
def aw8 : Nod := aw7.pull
theorem aw_may : mayC cfg0 = 0 := by kernel_rfl
theorem aw_e1 : newE cfg0 1 = 0 := by kernel_rfl
theorem aw_e3 : newE cfg0 3 = 11 := by kernel_rfl
theorem aw_e0 : newE ⟨0, 0, 0, 0, 0, 0⟩ 1 = 1 := by kernel_rfl
theorem aw_push : (aw1.own.pushR aw1.j).n = 1 ∧ aw1.own.pushE aw1.j = 0 := ⟨by kernel_rfl, by kernel_rfl⟩
theorem aw_tick : (aw2.tickP.map fun x => (x.frm, x.to_)) = [(1, 0)] := by kernel_rfl
theorem aw_reset : aw3.resetE = 0 := by kernel_rfl
theorem aw_reset2 : aw4.resetE = 8 := by kernel_rfl
theorem aw_tick2 : aw5.tickP.length = 1 := by kernel_rfl
theorem aw_look : aw6.look = ⟨2, 0, 1, 0, 0, 1⟩ := by kernel_rfl
theorem aw_read : (aw6.own.read ⟨#[107]⟩).n = 5 := by kernel_rfl
theorem aw_hear : aw6.hearE ⟨#[120]⟩ = 6 := by kernel_rfl
theorem aw_pull : aw7.pullN = 0 := by kernel_rfl
theorem aw_journal : (behind 0 aw8.j.l).length = 1 := by kernel_rfl
theorem aw_pend : aw8.own.pending.length = 1 := by kernel_rfl
end Go.Proofs.YtndahppmjdbifaaGreatDoor.Nod
set_option linter.unusedVariables false
set_option linter.unusedSimpArgs false
namespace Go.Proofs.YtndahppmjdbifaaGreatDoor.Nod
open Go Go.Proofs Eng Pre Pak Val Rou Fra Go.Proofs.YtndahppmjdbifaaGreatDoor.Snd Go.Proofs.YtndahppmjdbifaaGreatDoor.Lnk Jnl Go.Proofs.YtndahppmjdbifaaGreatDoor.Cli Sto
theorem look_eq (x y : Look) : (decide (x.ep = y.ep) && (decide (x.known = y.known) && (decide (x.pending = y.pending) && (decide (x.opn = y.opn) && (decide (x.came = y.came) && (decide (x.unacked = y.unacked) && true)))))) = decide (x = y) := by
  rw [Bool.eq_iff_iff]
  simp only [Bool.and_true, Bool.and_eq_true, decide_eq_true_iff]
  cases x; cases y; simp
section
variable {M : Mem} {w : World} {Ls : List Chunk}
theorem config_c (hS : St M w Ls) : CallsR Tryz.prog 48 [].toArray w fun v w' => v = cfgV cfg0 ∧ St M w' Ls := by
  refine zC 2 Tryz.func48 rfl (zQ (zR (a_alloc z_23 hS rfl fun b0 w hS => zE (zQ (zR (wl (y_build (is := [0, 1, 2, 3, 4, 5]) (xs := [_, _, _, _, _, _]) (out := [_, _, _, _, _, _]) plc_23 z_23 (.cons rfl (.cons rfl (.cons rfl (.cons rfl (.cons rfl (.cons rfl .nil)))))) rfl) rfl (zG (vs := [_, _, _, _, _, _]) sz_23 rfl hS fun w hS => zE (zV (wret (vs := [_]) (.cell rfl (loadVar_struct st_23 sz_23 (vs := [_, _, _, _, _, _]) rfl (hS.cells rfl)) .nil) ?_)))))))))
  exact ⟨rfl, hS.keep⟩
theorem awake_c (hG : Bits M) (hS : St M w Ls) : CallsR Tryz.prog 10 [].toArray w fun v w' => ∃ M', Mle M M' ∧ v = .bool true ∧ St M' w' Ls := by
  have i1 : aw1.inv 0 := Nod.upd_inv (Nod.new_inv aw_may 1) u0
  have i2 : aw2.inv 1 := Nod.push_inv i1
  have i3 : aw3.inv 1 := Nod.tick_inv i2
  have i4 : aw4.inv 1 := Nod.reset_inv i3
  have i5 : aw5.inv 1 := Nod.reset_inv i4
  have i6 : aw6.inv 1 := Nod.tick_inv i5
  have i7 : aw7.inv 1 := Nod.hear_inv i6 ⟨#[120]⟩ (by decide)
  have i8 : aw8.inv 2 := Nod.pull_inv i7
  refine zC 129 Tryz.func10 rfl (zQ (zR (zA rfl (zE (zQ (zR (wl_call .nil (config_c hS) rfl ?_)))))))
  rintro _ w ⟨rfl, hS⟩
  refine wl_call (.cons rfl (.cons rfl .nil)) (nnew_c cfg0 1 hS) rfl ?_
  rintro v w ⟨M1, hM1, ⟨h0, _⟩ | ⟨_, p, H, rfl, n0, hS⟩⟩
  · exact absurd aw_e1 h0
  refine zM rfl (zX rfl (zX rfl (zA rfl (zA rfl (zE (zQ (zR (wl_call .nil (config_c hS) rfl ?_))))))))
  rintro _ w ⟨rfl, hS⟩
  refine wl_call (.cons rfl (.cons rfl .nil)) (nnew_c cfg0 3 hS) rfl ?_
  rintro v w ⟨M2, hM2, ⟨_, rfl, hS⟩ | ⟨h0, _⟩⟩
  rotate_left
  · exact absurd (aw_e3.symm.trans h0) (by decide)
  rw [aw_e3]
  refine zM rfl (zX rfl (zX rfl (zA rfl (zA rfl (zE (zQ (zR (wl (y_build (is := []) (xs := []) (out := [_, _, _, _, _, _]) plc_23 z_23 .nil rfl) rfl (wl_call (.cons rfl (.cons rfl .nil)) (nnew_c ⟨0, 0, 0, 0, 0, 0⟩ 1 hS) rfl ?_)))))))))
  rintro v w ⟨M3, hM3, ⟨_, rfl, hS⟩ | ⟨h0, _⟩⟩
  rotate_left
  · exact absurd (aw_e0.symm.trans h0) (by decide)
  rw [aw_e0]
  have hM := hM1.trans (hM2.trans hM3)
  replace n0 := n0.mono (hM2.trans hM3)
  refine zM rfl (zX rfl (zX rfl (zA rfl (zA rfl (zE (zQ (zQ (zR (zM rfl (wl ((y_neq rfl rfl).val (u := .bool false) rfl) rfl (zM rfl (zI rfl (zM rfl (zI rfl (wl ((y_pnil Tryz.underlying27 rfl rfl).val (u := .bool false) rfl) rfl (wl (y_pickF rfl rfl) rfl (zM rfl (zI rfl (zM rfl (zI rfl (wl ((y_neq rfl rfl).val (u := .bool false) rfl) rfl (wl (y_pickF rfl rfl) rfl (zM rfl (zI rfl (zM rfl (zI rfl (wl ((y_neq rfl rfl).val (u := .bool false) rfl) rfl (wl (y_pickF rfl rfl) rfl (zE (wc_ifF rfl rfl (zK (zQ (zR (zM rfl (wl (y_build (is := [0, 1, 2]) (xs := [_, _, _]) (out := [_, _, _, _]) plc_59 z_59 (.cons rfl (.cons rfl (.cons rfl .nil))) rfl) rfl (wl_call (.cons rfl (.cons rfl .nil)) (nupd_c (hG.mono hM) u0 (by decide) (by decide) n0 (hS.pull H)) rfl ?_))))))))))))))))))))))))))))))))))))
  rintro _ w ⟨M4, H4, hM4, rfl, n1, hS⟩
  refine zE (zQ (zR (zM rfl (wl_call (.cons rfl .nil) (npush_c (m := aw1) (by have := i1.small (by omega); unfold Nod.small at this; omega) (by have := i1.small (by omega); unfold Nod.small at this; omega) (by have := i1.small (by omega); unfold Nod.small at this; omega) n1 (hS.pull H4)) rfl ?_))))
  rintro _ w ⟨M5, H5, hM5, rfl, n2, hS⟩
  rw [aw_push.1, aw_push.2]
  refine zM rfl (zX rfl (zX rfl (zA rfl (zA rfl (zE (zQ (zR (zM rfl (wl_call (.cons rfl .nil) (ntick_c (m := aw2) (((hG.mono hM).mono hM4).mono hM5) i2.k (i2.small (by omega)) i2.frames n2 (hS.pull H5)) rfl ?_)))))))))
  rintro _ w ⟨M6, H6, Hp, hM6, hp, n3, hS⟩
  have hp0 := aw_tick
  have hpl : aw2.tickP.length = 1 := by have := congrArg List.length hp0; simpa using this
  obtain ⟨x0, hx0⟩ : ∃ x, aw2.tickP[0]? = some x := ⟨_, List.getElem?_eq_getElem (by omega)⟩
  have hx1 : x0.frm = 1 ∧ x0.to_ = 0 := by
    have := congrArg (fun l => l[0]?) hp0
    simp only [List.getElem?_map, hx0, Option.map_some] at this
    simpa using this
  obtain ⟨pa, pc, rfl⟩ := hp.slice
  obtain ⟨bb, off, c', hse, _⟩ := (hp.holds (hS.pull Hp)).at hx0
  simp only [Value.slice.injEq] at hse
  have hSk := hS
  obtain ⟨rfl, _, rfl⟩ := hse
  replace hS := hSk
  rw [hpl]
  refine zA rfl (zE (zQ (zR (zM rfl (wl_call (.cons rfl .nil) (nreset_c (m := aw3) (by have := mayC_ok i3.c; omega) (by have := i3.small (by omega); unfold Nod.small at this; omega) n3 (hS.pull H6)) rfl ?_)))))
  rintro _ w ⟨M7, H7, hM7, rfl, n4, hS⟩
  rw [aw_reset]
  refine zA rfl (zE (zQ (zR (zM rfl (wl_call (.cons rfl .nil) (nreset_c (m := aw4) (by have := mayC_ok i4.c; omega) (by have := i4.small (by omega); unfold Nod.small at this; omega) n4 (hS.pull H7)) rfl ?_)))))
  rintro _ w ⟨M8, H8, hM8, rfl, n5, hS⟩
  rw [aw_reset2]
  refine zA rfl (zE (zQ (zR (zM rfl (wl_call (.cons rfl .nil) (ntick_c (m := aw5) (((((((hG.mono hM).mono hM4).mono hM5).mono hM6).mono hM7).mono hM8)) i5.k (i5.small (by omega)) i5.frames n5 (hS.pull H8)) rfl ?_)))))
  rintro _ w ⟨M9, H9, Hq, hM9, hq, n6, hS⟩
  obtain ⟨qa, qc, rfl⟩ := hq.slice
  rw [aw_tick2]
  refine zA rfl (zE (zQ (zR (zM rfl (wl ((y_eql rfl rfl).val (u := .bool true) rfl) rfl (zM rfl (zI rfl (zM rfl (zI rfl (wl ((y_eql rfl rfl).val (u := .bool true) rfl) rfl (wl (y_pickT rfl rfl) rfl (zM rfl (zI rfl (zM rfl (zI rfl (wl (y_len_sl Tryz.underlying37 rfl) rfl (zI rfl (wl ((y_eql rfl rfl).val (u := .bool true) rfl) rfl (wl (y_pickT rfl rfl) rfl (zM rfl (zI rfl (zM rfl (zI rfl (wl (y_ixa_sl Tryz.underlying37 sz_40 rfl rfl (by omega) (by omega)) rfl (zI rfl (zF fl_40_0 rfl (zI rfl (wl (y_load pl_3 rfl ((hp.holds (hS.pull Hp)).cellAt hx0 (j := 0) rfl)) rfl (zI rfl (wl ((y_eql rfl rfl).val (u := .bool true) (congrArg Value.bool (decide_eq_true hx1.1))) rfl (wl (y_pickT rfl rfl) rfl (zM rfl (zI rfl (zM rfl (zI rfl (wl (y_ixa_sl Tryz.underlying37 sz_40 rfl rfl (by omega) (by omega)) rfl (zI rfl (zF fl_40_1 rfl (zI rfl (wl (y_load pl_3 rfl ((hp.holds (hS.pull Hp)).cellAt hx0 (j := 1) rfl)) rfl (zI rfl (wl ((y_eql rfl rfl).val (u := .bool true) (congrArg Value.bool (decide_eq_true hx1.2))) rfl (wl (y_pickT rfl rfl) rfl (zM rfl (zI rfl (zM rfl (zI rfl (wl ((y_eql rfl rfl).val (u := .bool true) rfl) rfl (wl (y_pickT rfl rfl) rfl (zM rfl (zI rfl (zM rfl (zI rfl (wl ((y_eql rfl rfl).val (u := .bool true) rfl) rfl (wl (y_pickT rfl rfl) rfl (zM rfl (zI rfl (zM rfl (zI rfl ?_)))))))))))))))))))))))))))))))))))))))))))))))))))))))))))
  refine wl (y_len_sl Tryz.underlying37 rfl) rfl (zI rfl (wl ((y_eql rfl rfl).val (u := .bool true) rfl) rfl (wl (y_pickT rfl rfl) rfl (zM rfl (zI rfl (zM rfl (zI rfl (wl_call (.cons rfl .nil) (nlook_c (m := aw6) (i6.small (by omega)) n6 (hS.pull H9)) rfl ?_))))))))
  rintro _ w ⟨M10, hM10, rfl, n6, hS⟩
  rw [aw_look]
  refine zI rfl (wl (y_build (is := [0, 2, 5]) (xs := [_, _, _]) (out := [_, _, _, _, _, _]) plc_30 z_30 (.cons rfl (.cons rfl (.cons rfl .nil))) rfl) rfl (zI rfl (wl ((y_eqS Tryz.eqGuardType30 rfl rfl (eq_30 _ _ _ _ _ _ _ _ _ _ _ _)).val (u := .bool true) rfl) rfl (wl (y_pickT rfl rfl) rfl (zM rfl (zI rfl (zM rfl (zI rfl (wl_call (.cons rfl (.cons rfl .nil)) (nread_c (m := aw6) ⟨#[107]⟩ (i6.small (by omega)) n6 hS) rfl ?_)))))))))
  rintro _ w ⟨rfl, hS⟩
  refine zI rfl (wl (y_field fl_65_1 pl_2 rfl rfl) rfl (zI rfl (wl ((y_eql rfl rfl).val (u := .bool true) (congrArg Value.bool (decide_eq_true aw_read))) rfl (wl (y_pickT rfl rfl) rfl (zM rfl (zI rfl (zM rfl (zI rfl (wl_call (.cons rfl (.cons rfl .nil)) (nhear_c (m := aw6) ((((((((hG.mono hM).mono hM4).mono hM5).mono hM6).mono hM7).mono hM8).mono hM9).mono hM10) ⟨#[120]⟩ (by decide) i6.k n6 hS) rfl ?_)))))))))
  rintro _ w ⟨H11, rfl, n7, hS⟩
  rw [aw_hear]
  refine zI rfl (wl ((y_eql rfl rfl).val (u := .bool true) rfl) rfl (wl (y_pickT rfl rfl) rfl (zM rfl (zI rfl (zM rfl (zI rfl (wl_call (.cons rfl .nil) (npull_c (m := aw7) ((((((((hG.mono hM).mono hM4).mono hM5).mono hM6).mono hM7).mono hM8).mono hM9).mono hM10) i7.k (i7.small (by omega)) i7.rd n7 hS) rfl ?_)))))))
  rintro _ w ⟨M12, H12, hM12, rfl, n8, hS⟩
  rw [aw_pull]
  refine zI rfl (wl ((y_eql rfl rfl).val (u := .bool true) rfl) rfl (wl (y_pickT rfl rfl) rfl (zM rfl (zI rfl (zM rfl (zI rfl (wl_call (.cons rfl .nil) (njournal_c (m := aw8) (by have := i8.small (by omega); unfold Nod.small at this; omega) n8 hS) rfl ?_)))))))
  rintro v w ⟨M13, ys, H13, hM13, hoj, hrj, n8, hS⟩
  have hjl : ys.length = 1 := hrj.len.trans aw_journal
  obtain ⟨ja, jc, rfl⟩ := hoj.slice
  refine zI rfl (wl (y_len_sl Tryz.underlying32 rfl) rfl (zI rfl (wl ((y_eql rfl rfl).val (u := .bool true) (congrArg Value.bool (decide_eq_true (by rw [hjl] <;> rfl)))) rfl (wl (y_pickT rfl rfl) rfl (zM rfl (zI rfl (zM rfl (zI rfl (wl_call (.cons rfl .nil) (nconf_c (m := aw8) n8 (hS.pull H12)) rfl ?_)))))))))
  rintro _ w ⟨rfl, hS⟩
  rw [decide_eq_false (fun h => by have := aw_pend; rw [h.1] at this; cases this)]
  refine zI rfl (wl (y_not rfl) rfl (wl (y_pickT rfl rfl) rfl (zA rfl (zE (zV (z1 rfl ?_))))))
  exact ⟨M13, (((((((((hM.trans hM4).trans hM5).trans hM6).trans hM7).trans hM8).trans hM9).trans hM10).trans hM12).trans hM13), rfl, hS.keep⟩
end
end Go.Proofs.YtndahppmjdbifaaGreatDoor.Nod
set_option linter.unusedVariables false
set_option linter.unusedSimpArgs false
namespace Go.Proofs.YtndahppmjdbifaaGreatDoor.Nod
open Go Go.Proofs Eng Pre Pak Val Rou Fra Go.Proofs.YtndahppmjdbifaaGreatDoor.Snd Go.Proofs.YtndahppmjdbifaaGreatDoor.Lnk Jnl Go.Proofs.YtndahppmjdbifaaGreatDoor.Cli Sto
abbrev cfgL (c : Cfg) : List Value := [.int .i64 c.clients, .int .i64 c.window, .int .i64 c.push, .int .i64 c.pull, .int .i64 c.mtu, .int .i64 c.last]
theorem val_eq (x y : Valu) : (decide (x.kind = y.kind) && (decide (x.n = y.n) && (decide (x.s = y.s) && true))) = decide (x = y) := by
  rw [Bool.eq_iff_iff]
  simp only [Bool.and_true, Bool.and_eq_true, decide_eq_true_iff]
  cases x; cases y; simp
section
variable {M : Mem} {w : World} {Ls : List Chunk}
end
end Go.Proofs.YtndahppmjdbifaaGreatDoor.Nod
set_option linter.unusedVariables false
set_option linter.unusedSimpArgs false
namespace Go.Proofs.YtndahppmjdbifaaGreatDoor.Nod
open Go Go.Proofs Eng Pre Pak Val Rou Fra Go.Proofs.YtndahppmjdbifaaGreatDoor.Snd Go.Proofs.YtndahppmjdbifaaGreatDoor.Lnk Jnl Go.Proofs.YtndahppmjdbifaaGreatDoor.Cli Sto
theorem _root_.Go.Proofs.YtndahppmjdbifaaGreatDoor.Jnl.Rvs.take {M : Mem} {xs : List RV} {rs : List Rnd} (h : Rvs M xs rs) (k : Nat) : Rvs M (xs.take k) (rs.take k) := by
  induction h generalizing k with
  | nil => simpa using Rvs.nil
  | cons h h2 ih =>
    cases k with
    | zero => exact .nil
    | succ k => exact .cons h (ih k)
structure Nod.wide (m : Nod) : Prop where
  room : m.k.r.room = (min (max m.c.pull 1) 16).toNat
  win : m.k.s.win = (min (max m.c.window 1) 16).toNat
  pas : m.k.pas = false
theorem Nod.new_wide (c : Cfg) (o : Int) : (Nod.new c o).wide := ⟨rfl, rfl, rfl⟩
theorem offl_win (l : List Rnd) (k : Lnk) (n : Nat) : (offl l k n).1.s.win = k.s.win ∧ (offl l k n).1.s.acked = k.s.acked := by
  induction l generalizing k n with
  | nil => exact ⟨rfl, rfl⟩
  | cons r l ih =>
    simp only [offl]
    split
    · rename_i he
      obtain ⟨h1, h2⟩ := ih (k.offer (putB r)) (n + 1)
      refine ⟨h1.trans ?_, h2.trans ?_⟩ <;> (unfold Lnk.offer Snd.offer; simp only []; split <;> rfl)
    exact ⟨rfl, rfl⟩
theorem Lnk.hear_wide {k : Lnk} {f : Frm} (hp : k.pas = false) : (k.hear f).r.room = k.r.room ∧ (k.hear f).s.win = k.s.win ∧ (k.hear f).pas = false ∧ (k.hear f).ep = k.ep ∧ (k.hear f).win = k.win ∧ (k.hear f).room = k.room := by
  unfold Lnk.hear
  split
  · exact ⟨rfl, rfl, hp, rfl, rfl, rfl⟩
  split
  · rw [if_neg (by rw [hp]; decide)]; exact ⟨rfl, rfl, hp, rfl, rfl, rfl⟩
  unfold Lnk.hear2
  refine ⟨?_, ?_, hp, rfl, rfl, rfl⟩
  · simp only; split
    · rfl
    unfold Rcv.hear; split <;> rfl
  simp only; unfold Snd.ack; split <;> rfl
theorem Nod.act_wide {m : Nod} (h : m.wide) (a : Act) : (m.act a).wide ∧ (m.act a).c = m.c ∧ (m.act a).origin = m.origin := by
  unfold Nod.act
  split; · exact ⟨⟨h.1, h.2, h.3⟩, rfl, rfl⟩
  split; · exact ⟨⟨h.1, h.2, h.3⟩, rfl, rfl⟩
  split; · exact ⟨⟨h.1, h.2, h.3⟩, rfl, rfl⟩
  split
  · unfold Nod.reset
    split
    · exact ⟨⟨rfl, rfl, rfl⟩, rfl, rfl⟩
    exact ⟨h, rfl, rfl⟩
  split
  · unfold Nod.hear
    split
    · obtain ⟨h1, h2, h3, _⟩ := Lnk.hear_wide (f := fget a.bytes) h.pas
      exact ⟨⟨h1.trans h.1, h2.trans h.2, h3⟩, rfl, rfl⟩
    exact ⟨h, rfl, rfl⟩
  split
  · refine ⟨⟨?_, ?_, ?_⟩, rfl, rfl⟩
    · exact (congrArg Rcv.room (offl_r _ _ _).1).trans h.1
    · exact (offl_win _ _ _).1.trans h.2
    exact (offl_r _ _ _).2.2.2.2.trans h.3
  exact ⟨h, rfl, rfl⟩
theorem Nod.acts_wide {m : Nod} (h : m.wide) (l : List Act) : (m.acts l).wide ∧ (m.acts l).c = m.c ∧ (m.acts l).origin = m.origin := by
  induction l generalizing m with
  | nil => exact ⟨h, rfl, rfl⟩
  | cons a l ih =>
    obtain ⟨h1, h2, h3⟩ := Nod.act_wide h a
    obtain ⟨g1, g2, g3⟩ := ih h1
    exact ⟨g1, g2.trans h2, g3.trans h3⟩
section
variable {M : Mem} {w : World} {Ls : List Chunk}
end
end Go.Proofs.YtndahppmjdbifaaGreatDoor.Nod
set_option linter.unusedVariables false
set_option linter.unusedSimpArgs false
namespace Go.Proofs.YtndahppmjdbifaaGreatDoor.Pak
open Go Go.Proofs Eng Pre
theorem psize_of {n k : Nat} (hk : k ≤ 3) (h : n < 64 * 256 ^ (2 ^ k - 1)) : psize n ≤ 2 ^ k ∧ 1 ≤ psize n := by
  have h62 : n < 4611686018427387904 := by
    have : 64 * 256 ^ (2 ^ k - 1) ≤ 64 * 256 ^ 7 := Nat.mul_le_mul (Nat.le_refl _) (Nat.pow_le_pow_right (by omega) (by
      have : 2 ^ k ≤ 2 ^ 3 := Nat.pow_le_pow_right (by omega) hk
      omega))
    have h7 : 64 * 256 ^ 7 = 4611686018427387904 := by decide
    omega
  unfold psize
  rw [if_pos h62]
  have hp : 1 ≤ 2 ^ spell n := Nat.pow_pos (by omega)
  refine ⟨Nat.pow_le_pow_right (by omega) ?_, hp⟩
  unfold spell
  rcases k with _ | _ | _ | _ | k
  · replace h : n < 64 := by simpa using h
    (repeat' split) <;> omega
  · replace h : n < 16384 := by simpa using h
    (repeat' split) <;> omega
  · replace h : n < 1073741824 := by simpa using h
    (repeat' split) <;> omega
  · (repeat' split) <;> omega
  omega
theorem w64pow (i : Nat) (h : i ≤ 3) : IntKind.i64.wrap (((2 ^ i : Nat) : Int) * 2) = ((2 ^ (i + 1) : Nat) : Int) := by
  rcases i with _ | _ | _ | _ | i
  · decide
  · decide
  · decide
  · decide
  omega
theorem b_at {b : ByteArray} {at_ j : Nat} {c : UInt8} (h : (b.data.toList.drop at_)[j]? = some c) : b[((at_ + j : Nat) : Int).toNat]? = some c := by
  rw [List.getElem?_drop] at h
  have hlt : at_ + j < b.size := by
    have := (List.getElem?_eq_some_iff.1 h).1
    simpa using this
  rw [Int.toNat_natCast, getElem?_pos b (at_ + j) hlt]
  rw [List.getElem?_eq_getElem (by simpa using hlt)] at h
  have h' : b.data[at_ + j] = c := by simpa using h
  exact congrArg some h'
section
variable {M : Mem} {w : World} {Ls : List Chunk}
theorem r1size_c (n : Nat) (hS : St M w Ls) : CallsR Tryz.prog 168 [.int .u64 n].toArray w fun v w' => v = .int .i64 (psize n) ∧ St M w' Ls := by
  refine zC 11 Tryz.func168 rfl (zQ (zR (zA rfl (zE (zQ (zQ (zR (zM rfl (wl (y_lss rfl rfl) rfl (zE (zIf rfl (fun hc4 => ?_) fun hc4 => ?_)))))))))))
  · refine zQ ?_
    refine zR (zA rfl (zE (zV (z1 rfl ?_))))
    exact ⟨congrArg (Value.int .i64) (by unfold psize spell; (repeat' split) <;> first | rfl | omega), hS.keep⟩
  refine zK ?_
  refine zQ (zQ (zR (zM rfl (wl (y_lss rfl rfl) rfl (zE (zIf rfl (fun hc6 => ?_) fun hc6 => ?_))))))
  · refine zQ ?_
    refine zR (zA rfl (zE (zV (z1 rfl ?_))))
    exact ⟨congrArg (Value.int .i64) (by unfold psize spell; (repeat' split) <;> first | rfl | omega), hS.keep⟩
  refine zK ?_
  refine zQ (zQ (zR (zM rfl (wl (y_lss rfl rfl) rfl (zE (zIf rfl (fun hc8 => ?_) fun hc8 => ?_))))))
  · refine zQ ?_
    refine zR (zA rfl (zE (zV (z1 rfl ?_))))
    exact ⟨congrArg (Value.int .i64) (by unfold psize spell; (repeat' split) <;> first | rfl | omega), hS.keep⟩
  refine zK ?_
  refine zQ (zQ (zR (zM rfl (wl (y_lss rfl rfl) rfl (zE (zIf rfl (fun hc10 => ?_) fun hc10 => ?_))))))
  · refine zQ ?_
    refine zR (zA rfl (zE (zV (z1 rfl ?_))))
    exact ⟨congrArg (Value.int .i64) (by unfold psize spell; (repeat' split) <;> first | rfl | omega), hS.keep⟩
  refine zK ?_
  refine zQ (zR (zA rfl (zE (zV (z1 rfl ?_)))))
  exact ⟨congrArg (Value.int .i64) (by unfold psize spell; (repeat' split) <;> first | rfl | omega), hS.keep⟩
def get1V (at_ : Nat) (x : Nat × Nat × Nat) : Value := .tuple [.int .u64 x.1, .int .i64 ((if x.2.2 = 0 then at_ + x.2.1 else 0 : Nat)), .int .i64 x.2.2].toArray
theorem r1get_c (b : ByteArray) (at_ : Nat) (hb : b.size ≤ 140737488351232) (hat : at_ ≤ b.size) (hS : St M w Ls) :
    CallsR Tryz.prog 171 [.string b, .int .i64 at_].toArray w fun v w' => v = get1V at_ (pget (b.data.toList.drop at_)) ∧ St M w' Ls := by
  have hll : (b.data.toList.drop at_).length = b.size - at_ := by rw [List.length_drop]; simp
  generalize hrl : b.data.toList.drop at_ = rl at hll
  refine zC 67 Tryz.func171 rfl (zQ (zR (zA rfl (zA rfl (zA rfl (zE (zQ (zQ (zR (zM rfl (wl ((y_lss rfl rfl).val (u := .bool false) (congrArg Value.bool (decide_eq_false (by omega)))) rfl (zM rfl (zI rfl (zM rfl (zI rfl (zM rfl (zI rfl (wl (y_len_s Tryz.underlying9 rfl) rfl (zI rfl (wl ((y_gtr rfl rfl).val (u := .bool false) (congrArg Value.bool (decide_eq_false (by omega)))) rfl (wl (y_pickF rfl rfl) rfl (zE (wc_ifF rfl rfl (zK (zQ (zQ (zR (zM rfl (zM rfl (wl (y_len_s Tryz.underlying9 rfl) rfl (wl (y_eql rfl rfl) rfl (zE (zIf rfl (fun hc23 => ?_) fun hc23 => ?_)))))))))))))))))))))))))))))))))
  · have hnil : rl = [] := List.length_eq_zero_iff.1 (by omega)
    rw [hnil]
    refine zQ (zR (zA rfl (zA rfl (zA rfl (zE (zV (wret (vs := [_, _, _]) (.tmp rfl (.tmp rfl (.tmp rfl .nil))) ?_)))))))
    exact ⟨rfl, hS⟩
  obtain ⟨c, l, hcl⟩ : ∃ c l, rl = c :: l := by
    cases h : rl with
    | nil => rw [h] at hll; simp at hll; omega
    | cons c l => exact ⟨c, l, rfl⟩
  rw [hcl] at hll hrl ⊢
  have hidx : b[((at_ : Nat) : Int).toNat]? = some c := b_at (j := 0) (by rw [hrl] <;> rfl)
  have hc := c.toNat_lt
  have hq : c.toNat / 64 ≤ 3 := by omega
  have hs8 : 2 ^ (c.toNat / 64) ≤ 2 ^ 3 := Nat.pow_le_pow_right (by omega) hq
  have hs1 : 0 < 2 ^ (c.toNat / 64) := Nat.pow_pos (by omega)
  have hpg : pget (c :: l) = if (c :: l).length < 2 ^ (c.toNat / 64) then (0, 0, 2) else if psize (un (c.toNat % 64) (l.take (2 ^ (c.toNat / 64) - 1))) = 2 ^ (c.toNat / 64) then (un (c.toNat % 64) (l.take (2 ^ (c.toNat / 64) - 1)), 2 ^ (c.toNat / 64), 0) else (0, 0, 3) := rfl
  have hlen1 : (c :: l).length = l.length + 1 := rfl
  rw [hpg]
  refine zK (zQ (zR (zM rfl (zM rfl (wl (y_idx_s Tryz.underlying9 rfl rfl (by omega) hidx) rfl (wl (y_conv (r := (c.toNat : Int)) Tryz.underlying5 Tryz.underlying3 rfl (w64 (by omega) (by omega))) rfl (zA rfl (zE (zQ (zR (zA rfl (zE (zQ (zQ (zR (zM rfl (wl (y_quo (r := ((c.toNat / 64 : Nat) : Int)) rfl rfl (by decide) (by rw [Int.tdiv_eq_ediv_of_nonneg (by omega)]; rw [w64 (by omega) (by omega)]; omega)) rfl (zA rfl (zE (zB (wc_loop (α := Nat) (fun i => [(0, .string b), (1, .int .i64 at_), (7, .int .i64 c.toNat), (8, .int .i64 ((2 ^ i : Nat) : Int)), (9, .int .i64 ((c.toNat / 64 - i : Nat) : Int))]) (fun i w => i ≤ c.toNat / 64 ∧ St M w Ls) (fun i => c.toNat / 64 - i) 0 (sub_cons rfl (sub_cons rfl (sub_cons rfl (sub_cons rfl (subR rfl))))) ⟨by omega, hS⟩ ?_)))))))))))))))))))))
  clear hS
  rintro i w ⟨hi, hS⟩
  have hpi : 2 ^ i ≤ 2 ^ 3 := Nat.pow_le_pow_right (by omega) (by omega)
  refine zQ (zQ (zR (zM rfl (wl (y_gtr rfl rfl) rfl (zE (zIf rfl (fun hc31 => ?_) fun hc31 => ?_))))))
  · refine zK ?_
    refine zQ (zB (zR (zM rfl (wl (y_mul rfl rfl (w64pow i (by omega))) rfl (zA rfl (zE (zR (zM rfl (wl ((y_sub rfl rfl (w64 (by omega) (by omega))).val (u := .int .i64 ((c.toNat / 64 - (i + 1) : Nat) : Int)) (congrArg (Value.int .i64) (by omega))) rfl (zA rfl (zE ?_)))))))))))
    exact ⟨i + 1, by omega, sub_cons rfl (sub_cons rfl (sub_cons rfl (sub_cons rfl (subR rfl)))), by omega, hS⟩
  obtain rfl : i = c.toNat / 64 := by omega
  obtain ⟨k, hk⟩ : ∃ k, k = c.toNat / 64 := ⟨_, rfl⟩
  rw [← hk] at hq hs8 hs1 hpi ⊢
  obtain ⟨size, hsize⟩ : ∃ s, s = 2 ^ k := ⟨_, rfl⟩
  rw [← hsize] at hs8 hs1 hpi ⊢
  refine wc_exit (zQ (zQ (zR (zM rfl (wl (y_len_s Tryz.underlying9 rfl) rfl (zM rfl (wl (y_sub rfl rfl (w64 (by omega) (by omega))) rfl (zM rfl (wl (y_lss rfl rfl) rfl (zE (zIf rfl (fun hc41 => ?_) fun hc41 => ?_)))))))))))
  · rw [if_pos (by omega)]
    refine zQ (zR (zA rfl (zA rfl (zA rfl (zE (zV (wret (vs := [_, _, _]) (.tmp rfl (.tmp rfl (.tmp rfl .nil))) ?_)))))))
    exact ⟨rfl, hS⟩
  rw [if_neg (by omega)]
  refine zK (zQ (zR (zM rfl (wl (y_rem (r := ((c.toNat % 64 : Nat) : Int)) rfl rfl (by decide) (by rw [Int.tmod_eq_emod_of_nonneg (by omega)]; omega)) rfl (wl (y_conv (r := ((c.toNat % 64 : Nat) : Int)) Tryz.underlying3 Tryz.underlying190 rfl (natwrap64 _ (by omega))) rfl (zA rfl (zE (zQ (zQ (zR (zA rfl (zE (zB (wc_loop (α := Nat) (fun i => [(0, .string b), (1, .int .i64 at_), (8, .int .i64 size), (10, .int .u64 (un (c.toNat % 64) (l.take i) : Nat)), (11, .int .i64 ((i + 1 : Nat) : Int))]) (fun i w => i + 1 ≤ size ∧ St M w Ls) (fun i => size - i) 0 (sub_cons rfl (sub_cons rfl (sub_cons rfl (sub_cons rfl (subR rfl))))) ⟨by omega, hS⟩ ?_))))))))))))))
  clear hS
  rintro i w ⟨hi, hS⟩
  refine zQ (zQ (zR (zM rfl (zM rfl (wl (y_lss rfl rfl) rfl (zE (zIf rfl (fun hc47 => ?_) fun hc47 => ?_)))))))
  · refine zK ?_
    refine zQ (zB ?_)
    have hi' : i + 1 < size := by omega
    obtain ⟨x, hx⟩ : ∃ x, l[i]? = some x := ⟨_, List.getElem?_eq_getElem (by omega)⟩
    have hidx2 : b[((at_ + (i + 1) : Nat) : Int).toNat]? = some x := b_at (j := i + 1) (by rw [hrl]; simpa using hx)
    have hxl := x.toNat_lt
    have hun : un (c.toNat % 64) (l.take (i + 1)) = 256 * un (c.toNat % 64) (l.take i) + x.toNat := by
      rw [List.take_add_one, hx, un_append]; simp only [Option.toList_some, un]
    have hub := un_lt (l.take i) (c.toNat % 64)
    rw [List.length_take, Nat.min_eq_left (by omega)] at hub
    have hpw : 256 ^ i ≤ 256 ^ 6 := Nat.pow_le_pow_right (by omega) (by omega)
    have hmm : (c.toNat % 64 + 1) * 256 ^ i ≤ 64 * 256 ^ 6 := Nat.mul_le_mul (by omega) hpw
    have h6 : 64 * 256 ^ 6 = 18014398509481984 := by decide
    refine zR (zM rfl (wl (y_mul (r := ((256 * un (c.toNat % 64) (l.take i) : Nat) : Int)) rfl rfl (by rw [show (256 : Int) * ((un (c.toNat % 64) (l.take i) : Nat) : Int) = ((256 * un (c.toNat % 64) (l.take i) : Nat) : Int) by omega]; exact natwrap64 _ (by omega))) rfl (zM rfl (zM rfl (zM rfl (wl (y_add (r := ((at_ + (i + 1) : Nat) : Int)) rfl rfl (by rw [w64 (by omega) (by omega)]; omega)) rfl (wl (y_idx_s Tryz.underlying9 rfl rfl (by omega) hidx2) rfl (wl (y_conv (r := (x.toNat : Int)) Tryz.underlying5 Tryz.underlying190 rfl (natwrap64 x.toNat (by omega))) rfl (wl (y_add (r := ((un (c.toNat % 64) (l.take (i + 1)) : Nat) : Int)) rfl rfl (by rw [show ((256 * un (c.toNat % 64) (l.take i) : Nat) : Int) + (x.toNat : Int) = ((un (c.toNat % 64) (l.take (i + 1)) : Nat) : Int) by omega]; exact natwrap64 _ (by omega))) rfl (zA rfl (zE (zR (zM rfl (wl (y_add rfl rfl (w64 (by omega) (by omega))) rfl (zA rfl (zE ?_))))))))))))))))
    exact ⟨i + 1, by omega, sub_cons rfl (sub_cons rfl (sub_cons rfl (sub_cons rfl (subR rfl)))), by omega, hS⟩
  have hie : i = size - 1 := by omega
  have hub := un_lt (l.take i) (c.toNat % 64)
  rw [List.length_take, Nat.min_eq_left (by omega)] at hub
  have hmm : (c.toNat % 64 + 1) * 256 ^ i ≤ 64 * 256 ^ i := Nat.mul_le_mul (by omega) (Nat.le_refl _)
  have hps := psize_of (n := un (c.toNat % 64) (l.take i)) hq (by rw [← hsize, ← hie]; omega)
  rw [← hsize] at hps
  rw [← hie]
  refine wc_exit (zQ (zQ (zR (zM rfl (wl_call (.cons rfl .nil) (r1size_c (un (c.toNat % 64) (l.take i)) hS) rfl ?_)))))
  rintro _ w ⟨rfl, hS⟩
  refine zM rfl (wl (y_lss rfl rfl) rfl (zE (zIf rfl (fun hc62 => ?_) fun hc62 => ?_)))
  · rw [if_neg (by omega)]
    refine zQ (zR (zA rfl (zA rfl (zA rfl (zE (zV (wret (vs := [_, _, _]) (.tmp rfl (.tmp rfl (.tmp rfl .nil))) ?_)))))))
    exact ⟨rfl, hS⟩
  rw [if_pos (by omega)]
  refine zK (zQ (zR (zM rfl (zM rfl (zM rfl (wl (y_add rfl rfl (w64 (by omega) (by omega))) rfl (zA rfl (zA rfl (zA rfl (zE (zV (wret (vs := [_, _, _]) (.tmp rfl (.tmp rfl (.tmp rfl .nil))) ?_))))))))))))
  exact ⟨rfl, hS⟩
end
end Go.Proofs.YtndahppmjdbifaaGreatDoor.Pak
set_option linter.unusedVariables false
set_option linter.unusedSimpArgs false
namespace Go.Proofs.YtndahppmjdbifaaGreatDoor.Pak
open Go Go.Proofs Eng Pre
theorem rraw_e {r : Rdr} (h : r.e ≠ 0) : rraw r = (0, r) := by unfold rraw; rw [if_pos h]
theorem rraw_v {r : Rdr} (h : (rraw r).2.e ≠ 0) : (rraw r).1 = 0 := by
  unfold rraw at h ⊢
  split
  · rfl
  split
  · rfl
  rename_i h1 h2
  rw [if_neg h1, if_neg h2] at h
  exact absurd h h1
theorem rnum_e {r : Rdr} (h : r.e ≠ 0) (lim : Nat) : rnum r lim = (0, r) := by
  unfold rnum; rw [rraw_e h, if_neg (by simp)]
theorem rfail_e {r : Rdr} (h : r.e ≠ 0) (n : Nat) : rfail r n = r := by unfold rfail; rw [if_neg h]
theorem rfail_0 {r : Rdr} (h : r.e = 0) (n : Nat) : rfail r n = ⟨r.b, r.at_, n⟩ := by unfold rfail; rw [if_pos h]
theorem rnum_v {r : Rdr} {lim : Nat} (h : (rnum r lim).2.e ≠ 0) : (rnum r lim).1 = 0 := by
  unfold rnum at h ⊢
  split
  · rfl
  rename_i h1; rw [if_neg h1] at h; exact rraw_v h
theorem rtext_e {r : Rdr} (h : r.e ≠ 0) (hr : r.ok) (lim : Nat) : rtext r lim = (ByteArray.empty, r) := by
  unfold rtext
  rw [rnum_e h]
  simp only
  rw [if_neg (by omega)]
  have : r.b.extract r.at_ (r.at_ + 0) = ByteArray.empty := bytes_eq (by simp [ByteArray.data_extract])
  rw [this] <;> rfl
theorem rend_e {r : Rdr} (h : r.e ≠ 0) : rend r = r := by
  unfold rend; split
  · exact rfail_e h 4
  rfl
def rdrQ (r : Rdr) : Obj := .cells #[.string r.b, .int .i64 r.at_, .int .i64 r.e] 120
section
variable {M : Mem} {w : World} {Ls : List Chunk}
theorem qraw_c {p : Nat} {r : Rdr} (h : r.ok) (hS : St M w ([(p, rdrQ r)] :: Ls)) :
    CallsR Tryz.prog 136 [.pointer (some ⟨p, 0, none⟩)].toArray w fun v w' => v = .int .u64 (rraw r).1 ∧ St M w' ([(p, rdrQ (rraw r).2)] :: Ls) := by
  unfold rdrQ at hS
  refine zC 35 Tryz.func136 rfl (zQ (zR (zA rfl (zE (zQ (zQ (zR (zM rfl (zN rfl (zF fl_120_2 rfl (wl (y_load pl_3 rfl (hS.c (v := .int .i64 r.e))) rfl (wl (y_neq rfl rfl) rfl (zE (zIf rfl (fun hc10 => ?_) fun hc10 => ?_))))))))))))))
  · rw [rraw_e (by omega)]
    refine zQ (zR (zA rfl (zE (zV (z1 rfl ?_)))))
    first
    | exact ⟨rfl, hS⟩
    | (simp only [zL, cells_agg, setCells] at hS
       exact ⟨rfl, hS⟩)
  have hq : rraw r = if (pget (rest r)).2.2 ≠ 0 then (0, ⟨r.b, r.at_, (pget (rest r)).2.2⟩) else ((pget (rest r)).1, ⟨r.b, r.at_ + (pget (rest r)).2.1, r.e⟩) := by unfold rraw; rw [if_neg (by omega)]
  have hpo := pget_ok (rest r)
  have hrl := rest_length h
  have hk1 := h.1
  have hk2 := h.2
  generalize hgg : pget (rest r) = g at hq hpo
  refine zK (zQ (zW hS (fun w => w.cell? ⟨p, 0, none⟩ = some (.string r.b) ∧ w.cell? ⟨p, 1, none⟩ = some (.int .i64 r.at_)) [8, 9, 10, 11, 12, 13, 14, 15] wide_ rfl fun w hS => zPm 0 1 rfl (zPn 1 3 rfl (zPf 2 7 fl_120_0 rfl (zPm 4 23 rfl (zPn 5 55 rfl (zPf 6 119 fl_120_1 rfl (zD 3 127 rfl ⟨hS.c, hS.c⟩ (fun w hS => y_load pl_9 rfl hS.1) (zD 7 255 rfl ⟨hS.c, hS.c⟩ (fun w hS => y_load pl_3 rfl hS.2) (zU 8 511 rfl (wl_call (.cons rfl (.cons rfl .nil)) (r1get_c r.b r.at_ hk2 hk1 hS) rfl ?_)))))))))))
  rintro _ w ⟨rfl, hS⟩
  rw [show pget (r.b.data.toList.drop r.at_) = g from hgg]
  unfold get1V
  refine zE ⟨fun h => absurd (by decide) h, zPm 9 1023 rfl (zP 10 2047 rfl (fun w => y_extract (vs := [_, _, _]) rfl rfl) (zP 11 4095 rfl (fun w => y_extract (vs := [_, _, _]) rfl rfl) (zP 12 8191 rfl (fun w => y_extract (vs := [_, _, _]) rfl rfl) (zPa 13 16383 rfl (zPa 14 32767 rfl (zPa 15 65535 rfl (zH (zQ (zQ (zR (zM rfl (wl (y_neq rfl rfl) rfl (zE (zIf rfl (fun hc25 => ?_) fun hc25 => ?_))))))))))))))⟩
  · rw [if_pos (by omega)] at hq
    rw [hq]
    refine zQ (zR (zM rfl (zM rfl (zN rfl (zF fl_120_2 rfl (zS sz_3 rfl hS fun w hS => zE (zQ (zR (zA rfl (zE (zV (z1 rfl ?_))))))))))))
    first
    | exact ⟨rfl, hS⟩
    | (simp only [zL, cells_agg, setCells] at hS
       exact ⟨rfl, hS⟩)
  rw [if_neg (by omega)] at hq
  rw [if_pos (by omega)]
  rw [hq]
  refine zK (zQ (zR (zM rfl (zM rfl (zN rfl (zF fl_120_1 rfl (zS sz_3 rfl hS fun w hS => zE (zQ (zR (zM rfl (zA rfl (zE (zV (z1 rfl ?_))))))))))))))
  first
  | exact ⟨rfl, hS⟩
  | (simp only [zL, cells_agg, setCells] at hS
     exact ⟨rfl, hS⟩)
theorem qnum_c {p : Nat} {r : Rdr} (lim : Nat) (hlim : lim ≤ 1152921504606846976) (h : r.ok) (hS : St M w ([(p, rdrQ r)] :: Ls)) :
    CallsR Tryz.prog 73 [.pointer (some ⟨p, 0, none⟩), .int .i64 lim].toArray w fun v w' => v = .int .i64 (rnum r lim).1 ∧ St M w' ([(p, rdrQ (rnum r lim).2)] :: Ls) := by
  have ho := rraw_ok h
  refine zC 26 Tryz.func73 rfl (zQ (zR (zA rfl (zE (zQ (zQ (zR (zM rfl (wl (y_lss rfl rfl) rfl (zE (wc_ifF rfl (decide_eq_false (by omega)) (zK (zQ (zQ (zR (zM rfl (wl (y_gtr rfl rfl) rfl (zE (wc_ifF rfl (decide_eq_false (by omega)) (zK (zQ (zR (zM rfl (wl_call (.cons rfl .nil) (qraw_c h hS) rfl ?_))))))))))))))))))))))))
  rintro _ w ⟨rfl, hS⟩
  refine zA rfl (zE (zQ (zQ (zR (zM rfl (zN rfl (zF fl_120_2 rfl (wl (y_load pl_3 rfl (hS.c (v := .int .i64 (rraw r).2.e))) rfl (wl (y_neq rfl rfl) rfl (zE (zIf rfl (fun hc16 => ?_) fun hc16 => ?_)))))))))))
  · have hv := rraw_v (r := r) (by omega)
    have hq : rnum r lim = rraw r := by unfold rnum; rw [if_neg (by omega)]
    rw [hq, hv]
    refine zQ (zR (zA rfl (zE (zV (z1 rfl ?_)))))
    first
    | exact ⟨rfl, hS⟩
    | (unfold rdrQ at hS
       simp only [zL, cells_agg, setCells] at hS
       exact ⟨rfl, hS⟩)
  refine zK ?_
  refine zQ (zQ (zR (zM rfl (zM rfl (wl (y_conv (r := (lim : Int)) Tryz.underlying3 Tryz.underlying190 rfl (natwrap64 lim (by omega))) rfl (wl (y_gtr rfl rfl) rfl (zE (zIf rfl (fun hc20 => ?_) fun hc20 => ?_))))))))
  · have hq : rnum r lim = (0, ⟨(rraw r).2.b, (rraw r).2.at_, 1⟩) := by unfold rnum; rw [if_pos (by omega), rfail_0 (by omega)]
    rw [hq]
    refine zQ (zR (zM rfl (zN rfl (zF fl_120_2 rfl (zS sz_3 rfl hS fun w hS => zE (zQ (zR (zA rfl (zE (zV (z1 rfl ?_)))))))))))
    first
    | exact ⟨rfl, hS⟩
    | (unfold rdrQ at hS
       simp only [zL, cells_agg, setCells] at hS
       exact ⟨rfl, hS⟩)
  have hq : rnum r lim = rraw r := by unfold rnum; rw [if_neg (by omega)]
  rw [hq]
  refine zK (zQ (zR (zM rfl (wl (y_conv (r := ((rraw r).1 : Int)) Tryz.underlying190 Tryz.underlying3 rfl (w64 (by omega) (by omega))) rfl (zA rfl (zE (zV (z1 rfl ?_))))))))
  first
  | exact ⟨rfl, hS⟩
  | (unfold rdrQ at hS
     simp only [zL, cells_agg, setCells] at hS
     exact ⟨rfl, hS⟩)
theorem qtext_c {p : Nat} {r : Rdr} (lim : Nat) (hlim : lim ≤ 1152921504606846976) (h : r.ok) (hS : St M w ([(p, rdrQ r)] :: Ls)) :
    CallsR Tryz.prog 74 [.pointer (some ⟨p, 0, none⟩), .int .i64 lim].toArray w fun v w' => v = .string (rtext r lim).1 ∧ St M w' ([(p, rdrQ (rtext r lim).2)] :: Ls) := by
  have ho := rnum_ok h lim
  have hx1 := ho.1.1
  have hx2 := ho.1.2
  have hq0 : rtext r lim = if (rnum r lim).1 > (rnum r lim).2.b.size - (rnum r lim).2.at_ then (ByteArray.empty, rfail (rnum r lim).2 2) else ((rnum r lim).2.b.extract (rnum r lim).2.at_ ((rnum r lim).2.at_ + (rnum r lim).1), ⟨(rnum r lim).2.b, (rnum r lim).2.at_ + (rnum r lim).1, (rnum r lim).2.e⟩) := by unfold rtext; rfl
  have hv := rnum_v (r := r) (lim := lim)
  have hle := ho.2.1
  refine zC 55 Tryz.func74 rfl (zQ (zR (zA rfl (zE (zQ (zR (zM rfl (zM rfl (wl_call (.cons rfl (.cons rfl .nil)) (qnum_c lim hlim h hS) rfl ?_)))))))))
  rintro _ w ⟨rfl, hS⟩
  clear ho h
  generalize rnum r lim = x at hx1 hx2 hq0 hv hS hle
  obtain ⟨n, q⟩ := x
  simp only at hx1 hx2 hq0 hv hS hle
  unfold rdrQ at hS
  refine zA rfl (zE (zQ (zQ (zR (zM rfl (zN rfl (zF fl_120_2 rfl (wl (y_load pl_3 rfl (hS.c (v := .int .i64 q.e))) rfl (wl (y_neq rfl rfl) rfl (zE (zIf rfl (fun hc14 => ?_) fun hc14 => ?_)))))))))))
  · have hv0 := hv (by omega)
    subst hv0
    rw [if_neg (by omega)] at hq0
    have hem : q.b.extract q.at_ (q.at_ + 0) = ByteArray.empty := bytes_eq (by simp [ByteArray.data_extract])
    rw [hem] at hq0
    rw [hq0]
    refine zQ (zR (zA rfl (zE (zV (z1 rfl ?_)))))
    first
    | exact ⟨rfl, hS⟩
    | (simp only [zL, cells_agg, setCells] at hS
       exact ⟨rfl, hS⟩)
  refine zK ?_
  refine zQ (zQ (zW hS (fun w => w.cell? ⟨p, 0, none⟩ = some (.string q.b) ∧ w.cell? ⟨p, 1, none⟩ = some (.int .i64 q.at_)) [] wide_ rfl fun w hS => zPm 0 1 rfl (zPn 1 3 rfl (zPf 2 7 fl_120_0 rfl (zPm 5 39 rfl (zPn 6 103 rfl (zPf 7 231 fl_120_1 rfl (zPm 10 1255 rfl (zD 3 1263 rfl ⟨hS.c, hS.c⟩ (fun w hS => y_load pl_9 rfl hS.1) (zP 4 1279 rfl (fun w => y_len_s Tryz.underlying9 rfl) (zD 8 1535 rfl ⟨hS.c, hS.c⟩ (fun w hS => y_load pl_3 rfl hS.2) (zP 9 2047 rfl (fun w => y_sub rfl rfl (w64 (by omega) (by omega))) (zP 11 4095 rfl (fun w => y_lss rfl rfl) (zH (zIf rfl (fun hc26 => ?_) fun hc26 => ?_)))))))))))))))
  · rw [if_pos (by omega), rfail_0 (by omega)] at hq0
    rw [hq0]
    refine zQ (zR (zM rfl (zN rfl (zF fl_120_2 rfl (zS sz_3 rfl hS fun w hS => zE (zQ (zR (zA rfl (zE (zV (z1 rfl ?_)))))))))))
    first
    | exact ⟨rfl, hS⟩
    | (simp only [zL, cells_agg, setCells] at hS
       exact ⟨rfl, hS⟩)
  rw [if_neg (by omega)] at hq0
  rw [hq0]
  refine zK (zQ (zW hS (fun w => w.cell? ⟨p, 0, none⟩ = some (.string q.b) ∧ w.cell? ⟨p, 1, none⟩ = some (.int .i64 q.at_)) [] wide_ rfl fun w hS => zPm 0 1 rfl (zPn 1 3 rfl (zPf 2 7 fl_120_0 rfl (zPm 4 23 rfl (zPn 5 55 rfl (zPf 6 119 fl_120_1 rfl (zPm 8 375 rfl (zPn 9 887 rfl (zPf 10 1911 fl_120_1 rfl (zPm 12 6007 rfl (zD 3 6015 rfl ⟨hS.c, hS.c⟩ (fun w hS => y_load pl_9 rfl hS.1) (zD 7 6143 rfl ⟨hS.c, hS.c⟩ (fun w hS => y_load pl_3 rfl hS.2) (zD 11 8191 rfl ⟨hS.c, hS.c⟩ (fun w hS => y_load pl_3 rfl hS.2) (zP 13 16383 rfl (fun w => y_add rfl rfl (w64 (by omega) (by omega))) (zP 14 32767 rfl (fun w => y_sl_s Tryz.underlying9 rfl (lv := q.at_) (hv := q.at_ + n) ⟨_, _, rfl, by omega, by omega⟩ ⟨_, _, rfl, by omega, by omega⟩ (by omega) (by omega) rfl) (zPa 15 65535 rfl (zH (zQ (zR (zM rfl (zM rfl (zN rfl (zF fl_120_1 rfl (wl (y_load pl_3 rfl (hS.c (v := .int .i64 q.at_))) rfl (zM rfl (wl ((y_add rfl rfl (w64 (by omega) (by omega))).val (u := .int .i64 ((q.at_ + n : Nat) : Int)) (congrArg (Value.int .i64) (by omega))) rfl (zN rfl (zF fl_120_1 rfl (zS sz_3 rfl hS fun w hS => zE (zQ (zR (zM rfl (zA rfl (zE (zV (z1 rfl ?_)))))))))))))))))))))))))))))))))))))
  first
  | exact ⟨rfl, hS⟩
  | (simp only [zL, cells_agg, setCells] at hS
     exact ⟨rfl, hS⟩)
theorem qend_c {p : Nat} {r : Rdr} (h : r.ok) (hS : St M w ([(p, rdrQ r)] :: Ls)) :
    CallsR Tryz.prog 75 [.pointer (some ⟨p, 0, none⟩)].toArray w fun v w' => v = .int .i64 (rend r).e ∧ St M w' ([(p, rdrQ (rend r))] :: Ls) := by
  have hx1 := h.1
  have hx2 := h.2
  unfold rdrQ at hS
  refine zC 27 Tryz.func75 rfl (zQ (zR (zA rfl (zE (zQ (zQ (zW hS (fun w => w.cell? ⟨p, 0, none⟩ = some (.string r.b) ∧ w.cell? ⟨p, 1, none⟩ = some (.int .i64 r.at_) ∧ w.cell? ⟨p, 2, none⟩ = some (.int .i64 r.e)) [] wide_ rfl fun w hS => zPm 0 1 rfl (zPn 1 3 rfl (zPf 2 7 fl_120_2 rfl (zD 3 15 rfl ⟨hS.c, hS.c, hS.c⟩ (fun w hS => y_load pl_3 rfl hS.2.2) (zP 4 31 rfl (fun w => y_eql rfl rfl) (zPm 5 63 rfl (zDc (s := 8) rfl (fun hg8 => ?_) fun hg8 => ?_)))))))))))))
  · refine zPG 6 127 rfl (fun w => y_move rfl) ?_
    refine zPG 7 255 rfl (fun w => y_nil rfl) (zPG 8 511 rfl (fun w => y_fld fl_120_1 rfl) (zPG 10 1535 rfl (fun w => y_move rfl) (zPG 11 3583 rfl (fun w => y_nil rfl) (zPG 12 7679 rfl (fun w => y_fld fl_120_0 rfl) (zDG 9 8191 rfl ⟨hS.c, hS.c, hS.c⟩ (fun w hS => y_load pl_3 rfl hS.2.1) (zDG 13 16383 rfl ⟨hS.c, hS.c, hS.c⟩ (fun w hS => y_load pl_9 rfl hS.1) (zPG 14 32767 rfl (fun w => y_len_s Tryz.underlying9 rfl) (zPG 15 65535 rfl (fun w => y_lss rfl rfl) (zP 16 131071 rfl (fun w => y_pickT rfl rfl) (zH (zIf rfl (fun hc19 => ?_) fun hc19 => ?_)))))))))))
    · have hq : rend r = ⟨r.b, r.at_, 4⟩ := by unfold rend; rw [if_pos (by omega), rfail_0 (by omega)]
      rw [hq]
      refine zR (zM rfl (zN rfl (zF fl_120_2 rfl (zS sz_3 rfl hS fun w hS => zE (zQ (zR (zM rfl (zN rfl (zF fl_120_2 rfl (wl (y_load pl_3 rfl (hS.cell rfl)) rfl (zA rfl (zE (zV (z1 rfl ?_))))))))))))))
      first
      | exact ⟨rfl, hS⟩
      | (simp only [zL, cells_agg, setCells] at hS
         exact ⟨rfl, hS⟩)
    have hq : rend r = r := by unfold rend; rw [if_neg (by omega)]
    rw [hq]
    refine zK (zQ (zR (zM rfl (zN rfl (zF fl_120_2 rfl (wl (y_load pl_3 rfl (hS.cell rfl)) rfl (zA rfl (zE (zV (z1 rfl ?_))))))))))
    first
    | exact ⟨rfl, hS⟩
    | (simp only [zL, cells_agg, setCells] at hS
       exact ⟨rfl, hS⟩)
  rw [rend_e (by omega)]
  refine zDO 6 127 rfl (zDO 7 255 rfl (zDO 8 511 rfl (zDO 10 1535 rfl (zDO 11 3583 rfl (zDO 12 7679 rfl (zDO 9 8191 rfl (zDO 13 16383 rfl (zDO 14 32767 rfl (zDO 15 65535 rfl (zP 16 131071 rfl (fun w => y_pickF rfl rfl) (zH (wc_ifF rfl rfl (zK (zQ (zR (zM rfl (zN rfl (zF fl_120_2 rfl (wl (y_load pl_3 rfl (hS.cell rfl)) rfl (zA rfl (zE (zV (z1 rfl ?_)))))))))))))))))))))))
  first
  | exact ⟨rfl, hS⟩
  | (simp only [zL, cells_agg, setCells] at hS
     exact ⟨rfl, hS⟩)
end
end Go.Proofs.YtndahppmjdbifaaGreatDoor.Pak
set_option linter.unusedVariables false
set_option linter.unusedSimpArgs false
namespace Go.Proofs.YtndahppmjdbifaaGreatDoor.Fra
open Go Go.Proofs Eng Pre Pak Crc
theorem rtext_v {r : Rdr} {lim : Nat} (h : (rtext r lim).2.e ≠ 0) : (rtext r lim).1 = ByteArray.empty := by
  have hq : rtext r lim = if (rnum r lim).1 > (rnum r lim).2.b.size - (rnum r lim).2.at_ then (ByteArray.empty, rfail (rnum r lim).2 2) else ((rnum r lim).2.b.extract (rnum r lim).2.at_ ((rnum r lim).2.at_ + (rnum r lim).1), ⟨(rnum r lim).2.b, (rnum r lim).2.at_ + (rnum r lim).1, (rnum r lim).2.e⟩) := by unfold rtext; rfl
  rw [hq] at h ⊢
  split
  · rfl
  rename_i hc
  rw [if_neg hc] at h
  simp only at h ⊢
  rw [rnum_v h]
  exact bytes_eq (by simp [ByteArray.data_extract])
theorem fge_1 {s : ByteArray} (hs : s.size ≤ 140737488351232) (h : (fg1 s).2.e = 0) (h0 : (fg1 s).1 = 0) : fge s = 1 := by
  obtain ⟨o1, o1', o2, o3, o4, o5⟩ := fg_ok s hs
  have e1 : (fg1' s).e ≠ 0 := by unfold fg1'; rw [if_pos h0, rfail_0 h]; simp
  have e1b : (fg1' s).e = 1 := by unfold fg1'; rw [if_pos h0, rfail_0 h]
  have e2 : fg2 s = (0, fg1' s) := by unfold fg2; exact rnum_e e1 _
  have e3 : fg3 s = (0, fg1' s) := by unfold fg3; rw [e2]; exact rnum_e e1 _
  have e4 : fg4 s = (ByteArray.empty, fg1' s) := by unfold fg4; rw [e3]; exact rtext_e e1 o1' _
  have e5 : fg5 s = fg1' s := by unfold fg5; rw [e4, if_neg (by simp; rfl)]
  unfold fge
  rw [e5, rend_e e1, e1b]
theorem fg1'_eq {s : ByteArray} (h : (fg1 s).2.e ≠ 0 ∨ (fg1 s).1 ≠ 0) : fg1' s = (fg1 s).2 := by
  unfold fg1'
  split
  · rename_i h0
    rcases h with h | h
    · exact rfail_e h 1
    exact absurd h0 h
  rfl
theorem fge_13 {s : ByteArray} (h : (fg4 s).2.e = 0) (h0 : (fg2 s).1 = 0) (hd : ¬ (fg4 s).1 = ⟨#[]⟩) : fge s = 13 := by
  have e5 : fg5 s = ⟨(fg4 s).2.b, (fg4 s).2.at_, 13⟩ := by unfold fg5; rw [if_pos hd, if_pos h0, rfail_0 h]
  unfold fge
  rw [e5, rend_e (by simp)]
theorem fge_end {s : ByteArray} (h : (fg4 s).2.e ≠ 0 ∨ (fg2 s).1 ≠ 0 ∨ (fg4 s).1 = ⟨#[]⟩) : fge s = (rend (fg4 s).2).e := by
  have e5 : fg5 s = (fg4 s).2 := by
    unfold fg5
    split
    · rename_i hd
      split
      · rename_i h0
        rcases h with h | h | h
        · exact absurd (by unfold fg4 at h ⊢; exact rtext_v h) hd
        · exact absurd h0 h
        exact absurd h hd
      rfl
    rfl
  unfold fge
  rw [e5]
section
variable {M : Mem} {w : World} {Ls : List Chunk}
abbrev fvO (f : Frm) : Obj := .cells #[.int .i64 f.ep, .int .i64 f.seq, .int .i64 f.ack, .string f.data] 42
theorem qget_c (b : ByteArray) (hb : b.size ≤ 140737488351232) (hS : St M w Ls) :
    CallsR Tryz.prog 21 [.string b].toArray w fun v w' => v = .tuple [fv (fget b), .int .i64 (fgetE b)].toArray ∧ St M w' Ls := by
  unfold fget fgetE
  refine zC 69 Tryz.func21 rfl (zQ (zR (a_alloc z_42 hS rfl fun b2 w hS => zA rfl (zE (zQ (zR (wl (y_build (is := []) (xs := []) (out := [_, _, _, _]) plc_42 z_42 .nil rfl) rfl (a_alloc z_42 hS rfl fun b4 w hS => zG (vs := [_, _, _, _]) sz_42 rfl hS fun w hS => zE (zQ (zR (zM rfl (wl_call (.cons rfl .nil) (ropen_c b hb hS) rfl ?_))))))))))))
  rintro _ w ⟨rfl, hS⟩
  rw [ropen_eq, openV_eq']
  generalize ho : open_ b = o
  refine zM rfl (zX rfl (zX rfl (zA rfl (zA rfl (zE (zQ (zQ (zR (zM rfl (wl (y_not rfl) rfl (zE (zIf rfl (fun hc17 => ?_) fun hc17 => ?_))))))))))))
  · have hn : o = none := by cases o with
      | none => rfl
      | some s => simp at hc17
    rw [hn]
    simp only
    refine zQ (zR (wl (y_loadS st_42 sz_42 rfl (hS.cells (vs := [_, _, _, _]) rfl) rfl) rfl (zG (vs := [_, _, _, _]) sz_42 rfl hS fun w hS => zA rfl (zE (zV (wret (vs := [_, _]) (.cell rfl (loadVar_struct st_42 sz_42 (vs := [_, _, _, _]) rfl (hS.cells rfl)) (.tmp rfl .nil)) ?_))))))
    exact ⟨rfl, hS.keep⟩
  obtain ⟨s, hs⟩ : ∃ s, o = some s := by cases o with
    | none => simp at hc17
    | some s => exact ⟨s, rfl⟩
  rw [hs] at ho ⊢
  simp only
  have hz := open_size ho
  have hss : s.size ≤ 140737488351232 := by omega
  have h0 : (⟨s, 0, 0⟩ : Rdr).ok := ⟨Nat.zero_le _, hss⟩
  have hd1 : fg1 s = rnum ⟨s, 0, 0⟩ 1099511627776 := by unfold fg1; rfl
  have hd2 : fg2 s = rnum (fg1' s) 1125899906842624 := by unfold fg2; rfl
  have hd3 : fg3 s = rnum (fg2 s).2 1125899906842624 := by unfold fg3; rfl
  have hd4 : fg4 s = rtext (fg3 s).2 1400 := by unfold fg4; rfl
  obtain ⟨o1, o1', o2, o3, o4, o5⟩ := fg_ok s hss
  have hff : fgf s = if fge s = 0 then ⟨(fg1 s).1, (fg2 s).1, (fg3 s).1, (fg4 s).1⟩ else frm0 := by unfold fgf; rfl
  refine zK (zQ (zR (zM rfl (wl (y_build (is := [0]) (xs := [_]) (out := [_, _, _]) plc_120 z_120 (.cons rfl .nil) rfl) rfl (a_box rfl hS rfl fun b21 w hS => zA rfl (zE ?_))))))
  replace hS : St M w ([(b21, rdrQ ⟨s, 0, 0⟩)] :: _) := hS
  refine zQ (zR (wl (y_build (is := []) (xs := []) (out := [_, _, _, _]) plc_42 z_42 .nil rfl) rfl (a_alloc z_42 hS rfl fun b8 w hS => zG (vs := [_, _, _, _]) sz_42 rfl hS fun w hS => zE (zQ (zR (zM rfl (wl_call (.cons rfl (.cons rfl .nil)) (qnum_c 1099511627776 (by decide) h0 (hS.pull [(b21, rdrQ ⟨s, 0, 0⟩)])) rfl ?_)))))))
  rintro _ w ⟨rfl, hS⟩
  rw [← hd1] at hS ⊢
  refine zF fl_42_0 rfl (zS sz_3 rfl hS fun w hS => zE (zQ (zQ (zR (zM rfl (zN rfl (zF fl_120_2 rfl (wl (y_load pl_3 rfl (hS.c (v := .int .i64 (fg1 s).2.e))) rfl (wl (y_eql rfl rfl) rfl (zM rfl (zWc (s := 31) rfl (fun hg31 => ?_) fun hg31 => ?_)))))))))))
  · refine zI rfl ?_
    refine zF fl_42_0 rfl (zI rfl (wl (y_load pl_3 rfl (hS.c (v := .int .i64 (fg1 s).1))) rfl (zI rfl (wl (y_eql rfl rfl) rfl (wl (y_pickT rfl rfl) rfl (zE (zIf rfl (fun hc35 => ?_) fun hc35 => ?_)))))))
    · have hge : fge s = 1 := fge_1 hss (by omega) (by omega)
      rw [hff, if_neg (by omega), hge]
      refine zQ (zR (wl (y_loadS st_42 sz_42 rfl (hS.cells (vs := [_, _, _, _]) rfl) rfl) rfl (zG (vs := [_, _, _, _]) sz_42 rfl hS fun w hS => zA rfl (zE (zV (wret (vs := [_, _]) (.cell rfl (loadVar_struct st_42 sz_42 (vs := [_, _, _, _]) rfl (hS.cells rfl)) (.tmp rfl .nil)) ?_))))))
      exact ⟨rfl, hS.keep⟩
    have hp := fg1'_eq (s := s) (.inr (by omega))
    refine zK (zQ ?_)
    rw [← hp] at hS
    refine zR (zM rfl (wl_call (.cons rfl (.cons rfl .nil)) (qnum_c 1125899906842624 (by decide) o1' (hS.pull [(b21, rdrQ (fg1' s))])) rfl ?_))
    rintro _ w ⟨rfl, hS⟩
    rw [← hd2] at hS ⊢
    refine zF fl_42_1 rfl (zS sz_3 rfl hS fun w hS => zE (zQ (zR (zM rfl (wl_call (.cons rfl (.cons rfl .nil)) (qnum_c 1125899906842624 (by decide) o2 (hS.pull [(b21, rdrQ (fg2 s).2)])) rfl ?_)))))
    rintro _ w ⟨rfl, hS⟩
    rw [← hd3] at hS ⊢
    refine zF fl_42_2 rfl (zS sz_3 rfl hS fun w hS => zE (zQ (zR (zM rfl (wl_call (.cons rfl (.cons rfl .nil)) (qtext_c 1400 (by decide) o3 (hS.pull [(b21, rdrQ (fg3 s).2)])) rfl ?_)))))
    rintro _ w ⟨rfl, hS⟩
    rw [← hd4] at hS ⊢
    refine zF fl_42_3 rfl (zS sz_9 rfl hS fun w hS => zE (zQ (zQ (zR (zM rfl (zN rfl (zF fl_120_2 rfl (wl (y_load pl_3 rfl (hS.c (v := .int .i64 (fg4 s).2.e))) rfl (wl (y_eql rfl rfl) rfl (zM rfl (zWc (s := 51) rfl (fun hg51 => ?_) fun hg51 => ?_)))))))))))
    · refine zI rfl ?_
      refine zF fl_42_1 rfl (zI rfl (wl (y_load pl_3 rfl (hS.c (v := .int .i64 (fg2 s).1))) rfl (zI rfl (wl (y_eql rfl rfl) rfl (wl (y_pickT rfl rfl) rfl (zM rfl (zWc (s := 56) rfl (fun hg56 => ?_) fun hg56 => ?_)))))))
      · refine zI rfl ?_
        refine zF fl_42_3 rfl (zI rfl (wl (y_load pl_9 rfl (hS.c (v := .string (fg4 s).1))) rfl (zI rfl (wl (y_sneq rfl rfl) rfl (wl (y_pickT rfl rfl) rfl (zE (zIf rfl (fun hc60 => ?_) fun hc60 => ?_)))))))
        · have hge : fge s = 13 := fge_13 (by omega) (by omega) hc60
          rw [hff, if_neg (by omega), hge]
          refine zQ (zR (wl (y_loadS st_42 sz_42 rfl (hS.cells (vs := [_, _, _, _]) rfl) rfl) rfl (zG (vs := [_, _, _, _]) sz_42 rfl hS fun w hS => zA rfl (zE (zV (wret (vs := [_, _]) (.cell rfl (loadVar_struct st_42 sz_42 (vs := [_, _, _, _]) rfl (hS.cells rfl)) (.tmp rfl .nil)) ?_))))))
          exact ⟨rfl, hS.keep⟩
        have hge := fge_end (s := s) (.inr (.inr hc60))
        refine zK (zQ (zQ (zR (zM rfl (wl_call (.cons rfl .nil) (qend_c o4 (hS.pull [(b21, rdrQ (fg4 s).2)])) rfl ?_)))))
        rintro _ w ⟨rfl, hS⟩
        rw [← hge] at ⊢
        refine zA rfl (zE (zQ (zR (zM rfl (wl (y_neq rfl rfl) rfl (zE (zIf rfl (fun hc65 => ?_) fun hc65 => ?_)))))))
        · rw [hff, if_neg (by omega)]
          refine zQ (zR (wl (y_loadS st_42 sz_42 rfl (hS.cells (vs := [_, _, _, _]) rfl) rfl) rfl (zM rfl (zG (vs := [_, _, _, _]) sz_42 rfl hS fun w hS => zA rfl (zE (zV (wret (vs := [_, _]) (.cell rfl (loadVar_struct st_42 sz_42 (vs := [_, _, _, _]) rfl (hS.cells rfl)) (.tmp rfl .nil)) ?_)))))))
          exact ⟨rfl, hS.keep⟩
        have hz0 : fge s = 0 := by omega
        rw [hff, if_pos hz0, hz0]
        refine zK (zQ (zR (wl (y_loadS st_42 sz_42 rfl (hS.cells (vs := [_, _, _, _]) rfl) rfl) rfl (zG (vs := [_, _, _, _]) sz_42 rfl hS fun w hS => zA rfl (zE (zV (wret (vs := [_, _]) (.cell rfl (loadVar_struct st_42 sz_42 (vs := [_, _, _, _]) rfl (hS.cells rfl)) (.tmp rfl .nil)) ?_)))))))
        exact ⟨rfl, hS.keep⟩
      have hge := fge_end (s := s) (.inr (.inl (by omega)))
      refine zO rfl (zO rfl (zO rfl (wl (y_pickF rfl rfl) rfl (zE (wc_ifF rfl rfl (zK (zQ (zQ (zR (zM rfl (wl_call (.cons rfl .nil) (qend_c o4 (hS.pull [(b21, rdrQ (fg4 s).2)])) rfl ?_)))))))))))
      rintro _ w ⟨rfl, hS⟩
      rw [← hge] at ⊢
      refine zA rfl (zE (zQ (zR (zM rfl (wl (y_neq rfl rfl) rfl (zE (zIf rfl (fun hc65 => ?_) fun hc65 => ?_)))))))
      · rw [hff, if_neg (by omega)]
        refine zQ (zR (wl (y_loadS st_42 sz_42 rfl (hS.cells (vs := [_, _, _, _]) rfl) rfl) rfl (zM rfl (zG (vs := [_, _, _, _]) sz_42 rfl hS fun w hS => zA rfl (zE (zV (wret (vs := [_, _]) (.cell rfl (loadVar_struct st_42 sz_42 (vs := [_, _, _, _]) rfl (hS.cells rfl)) (.tmp rfl .nil)) ?_)))))))
        exact ⟨rfl, hS.keep⟩
      have hz0 : fge s = 0 := by omega
      rw [hff, if_pos hz0, hz0]
      refine zK (zQ (zR (wl (y_loadS st_42 sz_42 rfl (hS.cells (vs := [_, _, _, _]) rfl) rfl) rfl (zG (vs := [_, _, _, _]) sz_42 rfl hS fun w hS => zA rfl (zE (zV (wret (vs := [_, _]) (.cell rfl (loadVar_struct st_42 sz_42 (vs := [_, _, _, _]) rfl (hS.cells rfl)) (.tmp rfl .nil)) ?_)))))))
      exact ⟨rfl, hS.keep⟩
    have hge := fge_end (s := s) (.inl (by omega))
    refine zO rfl (zO rfl (zO rfl (wl (y_pickF rfl rfl) rfl (zM rfl (zO rfl (zO rfl (zO rfl (wl (y_pickF rfl rfl) rfl (zE (wc_ifF rfl rfl (zK (zQ (zQ (zR (zM rfl (wl_call (.cons rfl .nil) (qend_c o4 (hS.pull [(b21, rdrQ (fg4 s).2)])) rfl ?_))))))))))))))))
    rintro _ w ⟨rfl, hS⟩
    rw [← hge] at ⊢
    refine zA rfl (zE (zQ (zR (zM rfl (wl (y_neq rfl rfl) rfl (zE (zIf rfl (fun hc65 => ?_) fun hc65 => ?_)))))))
    · rw [hff, if_neg (by omega)]
      refine zQ (zR (wl (y_loadS st_42 sz_42 rfl (hS.cells (vs := [_, _, _, _]) rfl) rfl) rfl (zM rfl (zG (vs := [_, _, _, _]) sz_42 rfl hS fun w hS => zA rfl (zE (zV (wret (vs := [_, _]) (.cell rfl (loadVar_struct st_42 sz_42 (vs := [_, _, _, _]) rfl (hS.cells rfl)) (.tmp rfl .nil)) ?_)))))))
      exact ⟨rfl, hS.keep⟩
    have hz0 : fge s = 0 := by omega
    rw [hff, if_pos hz0, hz0]
    refine zK (zQ (zR (wl (y_loadS st_42 sz_42 rfl (hS.cells (vs := [_, _, _, _]) rfl) rfl) rfl (zG (vs := [_, _, _, _]) sz_42 rfl hS fun w hS => zA rfl (zE (zV (wret (vs := [_, _]) (.cell rfl (loadVar_struct st_42 sz_42 (vs := [_, _, _, _]) rfl (hS.cells rfl)) (.tmp rfl .nil)) ?_)))))))
    exact ⟨rfl, hS.keep⟩
  have hp := fg1'_eq (s := s) (.inl (by omega))
  refine zO rfl (zO rfl (zO rfl (wl (y_pickF rfl rfl) rfl (zE (wc_ifF rfl rfl (zK (zQ ?_)))))))
  rw [← hp] at hS
  refine zR (zM rfl (wl_call (.cons rfl (.cons rfl .nil)) (qnum_c 1125899906842624 (by decide) o1' (hS.pull [(b21, rdrQ (fg1' s))])) rfl ?_))
  rintro _ w ⟨rfl, hS⟩
  rw [← hd2] at hS ⊢
  refine zF fl_42_1 rfl (zS sz_3 rfl hS fun w hS => zE (zQ (zR (zM rfl (wl_call (.cons rfl (.cons rfl .nil)) (qnum_c 1125899906842624 (by decide) o2 (hS.pull [(b21, rdrQ (fg2 s).2)])) rfl ?_)))))
  rintro _ w ⟨rfl, hS⟩
  rw [← hd3] at hS ⊢
  refine zF fl_42_2 rfl (zS sz_3 rfl hS fun w hS => zE (zQ (zR (zM rfl (wl_call (.cons rfl (.cons rfl .nil)) (qtext_c 1400 (by decide) o3 (hS.pull [(b21, rdrQ (fg3 s).2)])) rfl ?_)))))
  rintro _ w ⟨rfl, hS⟩
  rw [← hd4] at hS ⊢
  refine zF fl_42_3 rfl (zS sz_9 rfl hS fun w hS => zE (zQ (zQ (zR (zM rfl (zN rfl (zF fl_120_2 rfl (wl (y_load pl_3 rfl (hS.c (v := .int .i64 (fg4 s).2.e))) rfl (wl (y_eql rfl rfl) rfl (zM rfl (zWc (s := 51) rfl (fun hg51 => ?_) fun hg51 => ?_)))))))))))
  · refine zI rfl ?_
    refine zF fl_42_1 rfl (zI rfl (wl (y_load pl_3 rfl (hS.c (v := .int .i64 (fg2 s).1))) rfl (zI rfl (wl (y_eql rfl rfl) rfl (wl (y_pickT rfl rfl) rfl (zM rfl (zWc (s := 56) rfl (fun hg56 => ?_) fun hg56 => ?_)))))))
    · refine zI rfl ?_
      refine zF fl_42_3 rfl (zI rfl (wl (y_load pl_9 rfl (hS.c (v := .string (fg4 s).1))) rfl (zI rfl (wl (y_sneq rfl rfl) rfl (wl (y_pickT rfl rfl) rfl (zE (zIf rfl (fun hc60 => ?_) fun hc60 => ?_)))))))
      · have hge : fge s = 13 := fge_13 (by omega) (by omega) hc60
        rw [hff, if_neg (by omega), hge]
        refine zQ (zR (wl (y_loadS st_42 sz_42 rfl (hS.cells (vs := [_, _, _, _]) rfl) rfl) rfl (zG (vs := [_, _, _, _]) sz_42 rfl hS fun w hS => zA rfl (zE (zV (wret (vs := [_, _]) (.cell rfl (loadVar_struct st_42 sz_42 (vs := [_, _, _, _]) rfl (hS.cells rfl)) (.tmp rfl .nil)) ?_))))))
        exact ⟨rfl, hS.keep⟩
      have hge := fge_end (s := s) (.inr (.inr hc60))
      refine zK (zQ (zQ (zR (zM rfl (wl_call (.cons rfl .nil) (qend_c o4 (hS.pull [(b21, rdrQ (fg4 s).2)])) rfl ?_)))))
      rintro _ w ⟨rfl, hS⟩
      rw [← hge] at ⊢
      refine zA rfl (zE (zQ (zR (zM rfl (wl (y_neq rfl rfl) rfl (zE (zIf rfl (fun hc65 => ?_) fun hc65 => ?_)))))))
      · rw [hff, if_neg (by omega)]
        refine zQ (zR (wl (y_loadS st_42 sz_42 rfl (hS.cells (vs := [_, _, _, _]) rfl) rfl) rfl (zM rfl (zG (vs := [_, _, _, _]) sz_42 rfl hS fun w hS => zA rfl (zE (zV (wret (vs := [_, _]) (.cell rfl (loadVar_struct st_42 sz_42 (vs := [_, _, _, _]) rfl (hS.cells rfl)) (.tmp rfl .nil)) ?_)))))))
        exact ⟨rfl, hS.keep⟩
      have hz0 : fge s = 0 := by omega
      rw [hff, if_pos hz0, hz0]
      refine zK (zQ (zR (wl (y_loadS st_42 sz_42 rfl (hS.cells (vs := [_, _, _, _]) rfl) rfl) rfl (zG (vs := [_, _, _, _]) sz_42 rfl hS fun w hS => zA rfl (zE (zV (wret (vs := [_, _]) (.cell rfl (loadVar_struct st_42 sz_42 (vs := [_, _, _, _]) rfl (hS.cells rfl)) (.tmp rfl .nil)) ?_)))))))
      exact ⟨rfl, hS.keep⟩
    have hge := fge_end (s := s) (.inr (.inl (by omega)))
    refine zO rfl (zO rfl (zO rfl (wl (y_pickF rfl rfl) rfl (zE (wc_ifF rfl rfl (zK (zQ (zQ (zR (zM rfl (wl_call (.cons rfl .nil) (qend_c o4 (hS.pull [(b21, rdrQ (fg4 s).2)])) rfl ?_)))))))))))
    rintro _ w ⟨rfl, hS⟩
    rw [← hge] at ⊢
    refine zA rfl (zE (zQ (zR (zM rfl (wl (y_neq rfl rfl) rfl (zE (zIf rfl (fun hc65 => ?_) fun hc65 => ?_)))))))
    · rw [hff, if_neg (by omega)]
      refine zQ (zR (wl (y_loadS st_42 sz_42 rfl (hS.cells (vs := [_, _, _, _]) rfl) rfl) rfl (zM rfl (zG (vs := [_, _, _, _]) sz_42 rfl hS fun w hS => zA rfl (zE (zV (wret (vs := [_, _]) (.cell rfl (loadVar_struct st_42 sz_42 (vs := [_, _, _, _]) rfl (hS.cells rfl)) (.tmp rfl .nil)) ?_)))))))
      exact ⟨rfl, hS.keep⟩
    have hz0 : fge s = 0 := by omega
    rw [hff, if_pos hz0, hz0]
    refine zK (zQ (zR (wl (y_loadS st_42 sz_42 rfl (hS.cells (vs := [_, _, _, _]) rfl) rfl) rfl (zG (vs := [_, _, _, _]) sz_42 rfl hS fun w hS => zA rfl (zE (zV (wret (vs := [_, _]) (.cell rfl (loadVar_struct st_42 sz_42 (vs := [_, _, _, _]) rfl (hS.cells rfl)) (.tmp rfl .nil)) ?_)))))))
    exact ⟨rfl, hS.keep⟩
  have hge := fge_end (s := s) (.inl (by omega))
  refine zO rfl (zO rfl (zO rfl (wl (y_pickF rfl rfl) rfl (zM rfl (zO rfl (zO rfl (zO rfl (wl (y_pickF rfl rfl) rfl (zE (wc_ifF rfl rfl (zK (zQ (zQ (zR (zM rfl (wl_call (.cons rfl .nil) (qend_c o4 (hS.pull [(b21, rdrQ (fg4 s).2)])) rfl ?_))))))))))))))))
  rintro _ w ⟨rfl, hS⟩
  rw [← hge] at ⊢
  refine zA rfl (zE (zQ (zR (zM rfl (wl (y_neq rfl rfl) rfl (zE (zIf rfl (fun hc65 => ?_) fun hc65 => ?_)))))))
  · rw [hff, if_neg (by omega)]
    refine zQ (zR (wl (y_loadS st_42 sz_42 rfl (hS.cells (vs := [_, _, _, _]) rfl) rfl) rfl (zM rfl (zG (vs := [_, _, _, _]) sz_42 rfl hS fun w hS => zA rfl (zE (zV (wret (vs := [_, _]) (.cell rfl (loadVar_struct st_42 sz_42 (vs := [_, _, _, _]) rfl (hS.cells rfl)) (.tmp rfl .nil)) ?_)))))))
    exact ⟨rfl, hS.keep⟩
  have hz0 : fge s = 0 := by omega
  rw [hff, if_pos hz0, hz0]
  refine zK (zQ (zR (wl (y_loadS st_42 sz_42 rfl (hS.cells (vs := [_, _, _, _]) rfl) rfl) rfl (zG (vs := [_, _, _, _]) sz_42 rfl hS fun w hS => zA rfl (zE (zV (wret (vs := [_, _]) (.cell rfl (loadVar_struct st_42 sz_42 (vs := [_, _, _, _]) rfl (hS.cells rfl)) (.tmp rfl .nil)) ?_)))))))
  exact ⟨rfl, hS.keep⟩
end
end Go.Proofs.YtndahppmjdbifaaGreatDoor.Fra
set_option linter.unusedVariables false
set_option linter.unusedSimpArgs false
namespace Go.Proofs.YtndahppmjdbifaaGreatDoor.Nod
open Go Go.Proofs Eng Pre Pak Val Rou Fra Go.Proofs.YtndahppmjdbifaaGreatDoor.Snd Go.Proofs.YtndahppmjdbifaaGreatDoor.Lnk Jnl Go.Proofs.YtndahppmjdbifaaGreatDoor.Cli Sto
theorem Nod.tick_ep (m : Nod) : m.tick.k.ep = m.k.ep := (offl_r _ _ _).2.1
section
variable {M : Mem} {w : World} {Ls : List Chunk}
end
end Go.Proofs.YtndahppmjdbifaaGreatDoor.Nod
set_option linter.unusedVariables false
set_option linter.unusedSimpArgs false
namespace Go.Proofs.YtndahppmjdbifaaGreatDoor.Pak
open Go Go.Proofs Eng Pre
theorem be_cons (y : Nat) : ∀ j, be y (j + 1) = UInt8.ofNat (y / 256 ^ j) :: be y j := by
  intro j
  induction j generalizing y with
  | zero => simp [be]
  | succ j ih =>
    rw [show be y (j + 1 + 1) = be (y / 256) (j + 1) ++ [UInt8.ofNat y] from rfl, ih]
    rw [Nat.div_div_eq_div_mul, List.cons_append]
    rw [show 256 * 256 ^ j = 256 ^ (j + 1) by rw [Nat.pow_succ, Nat.mul_comm]]
    rfl
end Go.Proofs.YtndahppmjdbifaaGreatDoor.Pak
set_option linter.unusedVariables false
set_option linter.unusedSimpArgs false
namespace Go.Proofs.YtndahppmjdbifaaGreatDoor.Nod
open Go Go.Proofs Eng Pre Pak Val Rou Fra Go.Proofs.YtndahppmjdbifaaGreatDoor.Snd Go.Proofs.YtndahppmjdbifaaGreatDoor.Lnk Jnl Go.Proofs.YtndahppmjdbifaaGreatDoor.Cli Sto Crc
theorem pput_size (n : Nat) : (pput n).length = psize n := by unfold pput; rw [be_length]
theorem psize_2 {n : Nat} (h : n ≤ 64) : psize n ≤ 2 := by
  unfold psize spell
  rw [if_pos (by omega)]
  (repeat' split) <;> first | omega | simp
theorem rbytes_fit {r : Rnd} {mtu : Int} (h : mayR r = 0) (hf : fits r.ups mtu = true) : ((rbytes r).length : Int) ≤ mtu - 40 := by
  obtain ⟨_, _, h3⟩ := fits_ok hf
  obtain ⟨m1, m2, m3, m4, _, _, _⟩ := mayR_ok h
  have e : ∀ r : Rnd, (rbytes r).length = (pput r.o.toNat).length + (pput r.n.toNat).length + (pput r.ups.length).length + (r.ups.flatMap ubytes).length := by
    intro r; unfold rbytes; simp only [List.length_append]
  rw [e] at h3 ⊢
  simp only at h3
  have a := psize_2 (n := r.o.toNat) (by omega)
  have b := psize_le r.n.toNat
  have c : (pput (64 : Int).toNat).length = 2 := by rw [pput_size]; decide
  have d : (pput (1099511627776 : Int).toNat).length = 8 := by rw [pput_size]; decide
  rw [← pput_size] at a b
  rw [c, d] at h3
  omega
theorem putB_eq {r : Rnd} (h : mayR r = 0) : putB r = str (rbytes r) := by unfold putB; rw [if_pos h]
theorem str_size (l : List UInt8) : (str l).size = l.length := by
  show l.toArray.size = l.length
  simp
structure Nod.fit (m : Nod) : Prop where
  jr : ∀ r ∈ m.j.l, mayR r = 0 ∧ ((rbytes r).length : Int) ≤ m.c.mtu - 40
  jn : ∀ i r, m.j.l[i]? = some r → r.n = ((i + 1 : Nat) : Int) ∧ r.o = m.origin
  jo : m.j.origin = m.origin
  opn : m.own.opn = [] ∨ fits m.own.opn m.c.mtu = true
  sd : ∀ d ∈ m.k.s.all, (d.size : Int) ≤ m.c.mtu - 40
  ep : 1 ≤ m.k.ep
theorem Nod.new_fit (c : Cfg) (o : Int) : (Nod.new c o).fit := by
  refine ⟨?_, ?_, rfl, .inl rfl, ?_, ?_⟩
  · intro r hr; unfold Nod.new Jnl.new at hr; simp at hr
  · intro i r hr; unfold Nod.new Jnl.new at hr; simp at hr
  · intro d hd; unfold Nod.new Lnk.new Snd.new at hd; simp at hd
  show 1 ≤ epc 1; decide
theorem behind_all {l : List Rnd} (h : ∀ i r, l[i]? = some r → r.n = ((i + 1 : Nat) : Int)) : behind 0 l = l := by
  unfold behind
  rw [List.filter_eq_self]
  intro r hr
  obtain ⟨i, hi⟩ := List.getElem?_of_mem hr
  have := h i r hi
  exact decide_eq_true (by omega)
theorem Nod.act_fit {t : Nat} {m : Nod} (hi : m.inv t) (h : m.fit) (a : Act) : (m.act a).fit := by
  have hc := mayC_ok hi.c
  unfold Nod.act
  split
  · unfold Nod.upd Cli.upd
    split
    · rename_i he
      refine ⟨h.jr, h.jn, h.jo, .inr ?_, h.sd, h.ep⟩
      simp only
      unfold Cli.updE at he
      split at he
      · omega
      split at he; · cases he
      split at he; · cases he
      rename_i hf
      rw [hi.mtu] at hf
      simpa using hf
    exact h
  split
  · unfold Nod.push Cli.pushC Cli.pushJ
    split
    · rename_i he
      have hadd : m.j.addE m.own.opn = 0 ∧ m.own.opn.length ≠ 0 := by
        unfold Cli.pushE at he
        split at he; · cases he
        split at he; · cases he
        rename_i h1 h2
        exact ⟨he, h1⟩
      have hmr : mayR (m.j.next m.own.opn) = 0 := by
        have := hadd.1
        unfold Jnl.addE at this
        split at this
        · cases this
        exact this
      have hft : fits m.own.opn m.c.mtu = true := by
        rcases h.opn with h0 | h0
        · exact absurd (by rw [h0] <;> rfl) hadd.2
        exact h0
      have hj : m.j.add m.own.opn = ⟨m.j.origin, m.j.last, m.j.l ++ [m.j.next m.own.opn]⟩ := by unfold Jnl.add; rw [if_pos hadd.1]
      rw [hj]
      refine ⟨?_, ?_, h.jo, .inl rfl, h.sd, h.ep⟩
      · intro r hr
        simp only [List.mem_append, List.mem_singleton] at hr
        rcases hr with hr | rfl
        · exact h.jr r hr
        exact ⟨hmr, rbytes_fit hmr hft⟩
      intro i r hr
      simp only at hr
      rcases Nat.lt_or_ge i m.j.l.length with hl | hl
      · rw [List.getElem?_append_left hl] at hr; exact h.jn i r hr
      rw [List.getElem?_append_right hl] at hr
      have hz : i - m.j.l.length = 0 := by
        rcases Nat.eq_zero_or_pos (i - m.j.l.length) with h | h
        · exact h
        rw [List.getElem?_eq_none (by simp; omega)] at hr; cases hr
      rw [hz] at hr
      simp only [List.getElem?_cons_zero, Option.some.injEq] at hr
      subst hr
      refine ⟨?_, h.jo⟩
      show (m.j.l.length : Int) + 1 = _
      omega
    exact h
  split
  · obtain ⟨_, _, _, a4, _⟩ := Cli.takeL_same m.own m.k.r.came
    exact ⟨h.jr, h.jn, h.jo, by unfold Nod.pull; simp only [a4]; exact h.opn, h.sd, h.ep⟩
  split
  · unfold Nod.reset
    split
    · rename_i he
      refine ⟨h.jr, h.jn, h.jo, .inl rfl, ?_, ?_⟩
      · intro d hd; unfold Lnk.new Snd.new at hd; simp at hd
      unfold Lnk.new epc; simp only []; omega
    exact h
  split
  · unfold Nod.hear
    split
    · rename_i he
      have hpep : (fget a.bytes).ep = m.k.ep := by
        unfold Nod.hearE at he
        split at he
        · omega
        split at he
        · cases he
        rename_i h2; exact Decidable.not_not.1 h2
      have hep : (m.k.hear (fget a.bytes)).ep = m.k.ep := by
        unfold Lnk.hear
        rw [if_neg (by omega), if_neg (by omega)]
        rfl
      exact ⟨h.jr, h.jn, h.jo, h.opn, Lnk.hear_s h.sd, by show 1 ≤ (m.k.hear (fget a.bytes)).ep; rw [hep]; exact h.ep⟩
    exact h
  split
  · refine ⟨h.jr, h.jn, h.jo, h.opn, ?_, ?_⟩
    · show ∀ d ∈ (offl (m.j.l.drop m.offered) m.k m.offered).1.s.all, (d.size : Int) ≤ m.c.mtu - 40
      refine offl_s h.sd fun r hr => ?_
      have hjr := h.jr r (List.mem_of_mem_drop hr)
      rw [putB_eq hjr.1, str_size]
      exact hjr.2
    rw [Nod.tick_ep]; exact h.ep
  exact h
theorem Nod.acts_fit {t : Nat} {m : Nod} (hi : m.inv t) (h : m.fit) (l : List Act) (hb : ∀ a ∈ l, a.bytes.size ≤ 140737488351232) : (m.acts l).fit := by
  induction l generalizing m t with
  | nil => exact h
  | cons a l ih => exact ih (Nod.act_inv hi a (hb a List.mem_cons_self)) (Nod.act_fit hi h a) fun x hx => hb x (List.mem_cons_of_mem _ hx)
end Go.Proofs.YtndahppmjdbifaaGreatDoor.Nod
set_option linter.unusedVariables false
set_option linter.unusedSimpArgs false
namespace Go.Proofs.YtndahppmjdbifaaGreatDoor.Nod
open Go Go.Proofs Eng Pre Pak Val Rou Fra Go.Proofs.YtndahppmjdbifaaGreatDoor.Snd Go.Proofs.YtndahppmjdbifaaGreatDoor.Lnk Jnl Go.Proofs.YtndahppmjdbifaaGreatDoor.Cli Sto Crc
end Go.Proofs.YtndahppmjdbifaaGreatDoor.Nod
set_option linter.unusedVariables false
set_option linter.unusedSimpArgs false
namespace Go.Proofs.YtndahppmjdbifaaGreatDoor.Nod
open Go Go.Proofs Eng Pre Pak Val Rou Fra Go.Proofs.YtndahppmjdbifaaGreatDoor.Snd Go.Proofs.YtndahppmjdbifaaGreatDoor.Lnk Jnl Go.Proofs.YtndahppmjdbifaaGreatDoor.Cli Sto
section
variable {M : Mem} {w : World} {Ls : List Chunk}
end
end Go.Proofs.YtndahppmjdbifaaGreatDoor.Nod
set_option linter.unusedVariables false
set_option linter.unusedSimpArgs false
namespace Go.Proofs.YtndahppmjdbifaaGreatDoor.Pak
open Go Go.Proofs Eng Pre Crc Snd
theorem be_mod (y : Nat) : ∀ j, be (y % 256 ^ j) j = be y j := by
  intro j
  induction j generalizing y with
  | zero => rfl
  | succ j ih =>
    simp only [be]
    have h1 : y % 256 ^ (j + 1) / 256 = (y / 256) % 256 ^ j := by
      rw [Nat.pow_succ, Nat.mul_comm (256 ^ j) 256, Nat.mod_mul_right_div_self]
    have h2 : UInt8.ofNat (y % 256 ^ (j + 1)) = UInt8.ofNat y := by
      apply UInt8.toNat_inj.1
      simp only [UInt8.toNat_ofNat']
      rw [Nat.pow_succ, Nat.mul_comm (256 ^ j) 256]
      exact Nat.mod_mul_right_mod y 256 (256 ^ j)
    rw [h1, ih, h2]
theorem nmod256 (q : Nat) : ((q : Nat) : Int).tmod 256 = ((q % 256 : Nat) : Int) := by rw [Int.tmod_eq_emod_of_nonneg (by omega)]; omega
theorem ndiv256 (q : Nat) : ((q : Nat) : Int).tdiv 256 = ((q / 256 : Nat) : Int) := by rw [Int.tdiv_eq_ediv_of_nonneg (by omega)]; omega
theorem conv256 (q : Nat) : IntKind.u8.wrap ((q % 256 : Nat) : Int) = ((UInt8.ofNat q).toNat : Int) := by
  rw [wu8, show (UInt8.ofNat q).toNat = q % 256 from by simp [UInt8.toNat_ofNat']]; omega
theorem pput_mark {n k : Nat} (h : n < 4611686018427387904) (hk : psize n = k + 1) : pput n = UInt8.ofNat (n / 256 ^ k + 64 * spell n) :: be n k := by
  have hps : psize n = 2 ^ spell n := by unfold psize; rw [if_pos h]
  unfold pput
  rw [hk, be_cons]
  have hN : pnum n = n + 256 ^ k * (64 * spell n) := by
    unfold pnum
    rw [hk]
    have : 8 * (k + 1) - 2 = 6 + 8 * k := by omega
    rw [this, Nat.pow_add, Nat.pow_mul]
    have e : (2 : Nat) ^ 6 * (2 ^ 8) ^ k * spell n = 256 ^ k * (64 * spell n) := by
      rw [show (2 : Nat) ^ 8 = 256 from rfl, show (2 : Nat) ^ 6 = 64 from rfl, Nat.mul_comm 64 (256 ^ k), Nat.mul_assoc]
    rw [e]
  rw [hN]
  congr 1
  · rw [Nat.add_mul_div_left _ _ (Nat.pow_pos (by omega))]
  rw [← be_mod (n + 256 ^ k * (64 * spell n)), Nat.add_mul_mod_self_left, be_mod]
theorem _root_.Go.Proofs.YtndahppmjdbifaaGreatDoor.Eng.Holds.cellB {α : Type} {A : Enc α} {w : World} {b off m c i j : Nat} {xs : List α} {x : α} {v : Value} (h : Holds w A (.slice (some ⟨b, off, none⟩) m c) xs) (hx : xs[i]? = some x) (hv : (A.f x)[j]? = some v) : w.cell? ⟨b, off + i * A.k + j, none⟩ = some v := by
  obtain ⟨b', off', c', hse, hce⟩ := h.at hx
  simp only [Value.slice.injEq, Option.some.injEq, Addr.mk.injEq] at hse
  obtain ⟨⟨rfl, rfl, _⟩, _⟩ := hse
  exact hce j v hv
def mark (n : Nat) : Nat := if psize n = 2 then 64 else if psize n = 4 then 128 else if psize n = 8 then 192 else 0
theorem mark_eq {n : Nat} (h : n < 4611686018427387904) : mark n = 64 * spell n := by
  unfold mark psize
  rw [if_pos h]
  unfold spell
  (repeat' split) <;> first | rfl | omega | simp_all
def put1V (n : Nat) : Value := if n < 4611686018427387904 then .tuple [.string (str (pput n)), .int .i64 0].toArray else .tuple [.string ⟨#[]⟩, .int .i64 1].toArray
section
variable {M : Mem} {w : World} {Ls : List Chunk}
theorem r1put_c (n : Nat) (hn : n < 18446744073709551616) (hS : St M w Ls) :
    CallsR Tryz.prog 132 [.int .u64 n].toArray w fun v w' => v = put1V n ∧ St M w' Ls := by
  refine zC 45 Tryz.func132 rfl (zQ (zR (zA rfl (zA rfl (zE (zQ (zR (zM rfl (wl_call (.cons rfl .nil) (r1size_c n hS) rfl ?_)))))))))
  rintro _ w ⟨rfl, hS⟩
  refine zA rfl (zE (zQ (zQ (zR (zM rfl (wl (y_eql rfl rfl) rfl (zE (zIf rfl (fun hc11 => ?_) fun hc11 => ?_))))))))
  · have hbig : ¬ n < 4611686018427387904 := by
      intro h
      have : psize n = 2 ^ spell n := by unfold psize; rw [if_pos h]
      have : 0 < 2 ^ spell n := Nat.pow_pos (by omega)
      omega
    have hv : put1V n = .tuple [.string ⟨#[]⟩, .int .i64 1].toArray := by unfold put1V; rw [if_neg hbig]
    rw [hv]
    refine zQ (zR (zA rfl (zA rfl (zE (zV (z2 rfl ?_))))))
    first
    | exact ⟨rfl, hS.keep⟩
    | (refine ⟨?_, hS.keep⟩
       rw [append_mk]
       show Value.tuple _ = _
       rw [hpm]
       rfl)
  have hsm : n < 4611686018427387904 := by
    rcases Nat.lt_or_ge n 4611686018427387904 with h | h
    · exact h
    exact absurd (show psize n = 0 by unfold psize; rw [if_neg (by omega)]) (by omega)
  have hv : put1V n = .tuple [.string (str (pput n)), .int .i64 0].toArray := by unfold put1V; rw [if_pos hsm]
  rw [hv]
  have hp8 := psize_le n
  obtain ⟨k, hk⟩ : ∃ k, psize n = k + 1 := ⟨psize n - 1, by omega⟩
  have hmk := mark_eq hsm
  have hpm := pput_mark hsm hk
  rw [← hmk] at hpm
  refine zK (zQ (zR (a_bslice encB [] (vs := []) (ps := []) Tryz.underlying173 sz_5 z_5 rfl .nil rfl rfl rfl (by decide) hS rfl fun s H w ho hS => zA rfl (zE (zQ (zQ (zR (zA rfl (zE (zB (wc_loop (α := Nat × Value × Chunk) (fun ⟨i, s, _⟩ => [(0, .int .u64 ((n / 256 ^ i : Nat) : Int)), (4, .int .i64 (psize n)), (5, s), (6, .int .i64 i)]) (fun ⟨i, s, H⟩ w => i ≤ psize n ∧ Own 5 encB s (be n i) H ∧ St M w (H :: Ls)) (fun ⟨i, _, _⟩ => psize n - i) (0, s, H) (sub_cons (show _ = some (Value.int .u64 ((n / 256 ^ 0 : Nat) : Int)) by rw [Nat.pow_zero, Nat.div_one] <;> rfl) (sub_cons rfl (sub_cons rfl (subR rfl)))) ⟨by omega, ho, hS⟩ ?_)))))))))))
  clear hS ho
  rintro ⟨i, s, H⟩ w ⟨hi, ho, hS⟩
  have hbl := be_length n i
  have hqi : n / 256 ^ i < 18446744073709551616 := Nat.lt_of_le_of_lt (Nat.div_le_self _ _) hn
  have hu8 : (UInt8.ofNat (n / 256 ^ i)).toNat = n / 256 ^ i % 256 := by simp [UInt8.toNat_ofNat']
  refine zQ (zQ (zR (zM rfl (zM rfl (wl (y_lss rfl rfl) rfl (zE (zIf rfl (fun hc15 => ?_) fun hc15 => ?_)))))))
  · refine zK ?_
    refine zQ (zB (zQ (zR (zM rfl (wl (y_rem (r := ((n / 256 ^ i % 256 : Nat) : Int)) rfl rfl (by decide) (nmod256 _)) rfl (wl (y_conv (r := ((UInt8.ofNat (n / 256 ^ i)).toNat : Int)) Tryz.underlying190 Tryz.underlying5 rfl (conv256 _)) rfl (a_bslice encB [UInt8.ofNat (n / 256 ^ i)] Tryz.underlying173 sz_5 z_5 rfl (.cons rfl .nil) rfl rfl rfl (by decide) hS rfl fun s1 H1 w ho1 hS => zM rfl (a_append (A := encB) (H := H1) Tryz.underlying173 Tryz.underlying173 sz_5 z_5 rfl by_5 (by decide) rfl rfl ho1 (ho.holds (hS.pull H)) hS (by rw [hbl]; simp; omega) rfl fun s2 H2 w ho2 hS => ?_))))))))
    rw [List.singleton_append, ← be_cons] at ho2
    refine zA rfl (zE (zR (zM rfl (wl (y_quo (r := ((n / 256 ^ (i + 1) : Nat) : Int)) rfl rfl (by decide) (by rw [ndiv256, Nat.div_div_eq_div_mul, ← Nat.pow_succ]; exact natwrap64 _ (Nat.lt_of_le_of_lt (Nat.div_le_self _ _) hn))) rfl (zA rfl (zE (zR (zM rfl (wl (y_add rfl rfl (w64 (by omega) (by omega))) rfl (zA rfl (zE ?_)))))))))))
    exact ⟨(i + 1, s2, H2), by simp only; omega, sub_cons rfl (sub_cons rfl (sub_cons rfl (subR rfl))), by omega, ho2, hS.keep⟩
  obtain rfl : i = k + 1 := by omega
  refine wc_exit (zQ (zR (zA rfl (zE (zQ (zQ (zR (zM rfl (wl (y_eql rfl rfl) rfl (zE (zIf rfl (fun hc27 => ?_) fun hc27 => ?_)))))))))))
  · refine zR ?_
    refine zA rfl (zE (zQ (zQ (zR (zM rfl (wl (y_eql rfl rfl) rfl (zE (zIf rfl (fun hc29 => ?_) fun hc29 => ?_))))))))
    · refine zR ?_
      refine zA rfl (zE (wc_cut (α := Unit) (fun _ => [(5, s), (7, .int .i64 ((mark n : Nat) : Int))]) (fun _ w => St M w (H :: Ls)) ?_ ?_))
      have hmz : ∀ z : Int, z = ((mark n : Nat) : Int) → some (Value.int .i64 z) = some (Value.int .i64 ((mark n : Nat) : Int)) := fun z h => by rw [h]
      · refine zQ ?_
        refine zR (zM rfl (wl (y_eql rfl rfl) rfl (zE (zIf rfl (fun hc31 => ?_) fun hc31 => ?_))))
        · refine zR ?_
          refine zA rfl (zE ?_)
          exact ⟨(), sub_cons rfl (sub_cons (hmz _ (by unfold mark; (repeat' split) <;> omega)) sub_nil), hS⟩
        refine zK ?_
        exact ⟨(), sub_cons rfl (sub_cons (hmz _ (by unfold mark; (repeat' split) <;> omega)) sub_nil), hS⟩
      clear hS
      rintro _ w hS
      have hq : n / 256 ^ k < 256 := by
        have h1 := (pnum_bound n hsm).1
        rw [hk] at h1
        have h2 : 2 ^ (8 * (k + 1) - 2) ≤ 2 ^ (8 * (k + 1)) := Nat.pow_le_pow_right (by omega) (by omega)
        have h3 : 2 ^ (8 * (k + 1)) = 256 * 256 ^ k := by rw [Nat.mul_add, Nat.pow_add, Nat.pow_mul, Nat.mul_comm]
        exact Nat.div_lt_of_lt_mul (by rw [Nat.mul_comm]; omega)
      have hmk2 : mark n ≤ 192 := by unfold mark; (repeat' split) <;> omega
      have hu8 : (UInt8.ofNat (n / 256 ^ k)).toNat = n / 256 ^ k := by simp [UInt8.toNat_ofNat']; omega
      have hv8 : (UInt8.ofNat (n / 256 ^ k + mark n)).toNat = (n / 256 ^ k + mark n) % 256 := by simp [UInt8.toNat_ofNat']
      have hbe := be_cons n k
      have h0 : (be n (k + 1))[0]? = some (UInt8.ofNat (n / 256 ^ k)) := by rw [hbe] <;> rfl
      obtain ⟨bb, off, c', hse, _⟩ := (ho.holds hS).at h0
      subst hse
      have hbl := be_length n (k + 1)
      have hcut := cutFrom (k := 1) ho (by omega)
      rw [show (be n (k + 1)).drop 1 = be n k by rw [hbe] <;> rfl] at hcut
      generalize hcv : cutV _ _ _ _ _ = sq at hcut
      obtain ⟨qa, qc, rfl⟩ := hcut.slice
      have hbk := be_length n k
      refine zQ (zW hS (fun w => Holds w encB (.slice (some ⟨bb, off, none⟩) (be n (k + 1)).length c') (be n (k + 1)) ∧ Holds w encB (.slice qa (be n k).length qc) (be n k)) [13, 14] wide_ rfl fun w hS => zPm 0 1 rfl (zP 1 3 rfl (fun w => y_ixa_sl Tryz.underlying173 sz_5 rfl rfl (by omega) (by omega)) (zPm 4 19 rfl (zPm 9 531 rfl (zP 10 1555 rfl (fun w => (y_slFrom (lv := 1) Tryz.underlying173 sz_5 rfl rfl (by omega) (by omega) (by omega)).val hcv) (zD 2 1559 rfl ⟨ho.holds (hS.pull H), hcut.holds (hS.pull H)⟩ (fun w hS => y_load pl_5 rfl (hS.1.cellB h0 (j := 0) rfl)) (zP 3 1567 rfl (fun w => y_conv (r := ((n / 256 ^ k : Nat) : Int)) Tryz.underlying5 Tryz.underlying3 rfl (by rw [hu8]; exact w64 (by omega) (by omega))) (zP 5 1599 rfl (fun w => y_add (r := ((n / 256 ^ k + mark n : Nat) : Int)) rfl rfl (by rw [w64 (by omega) (by omega)]; omega)) (zP 6 1663 rfl (fun w => y_conv (r := ((UInt8.ofNat (n / 256 ^ k + mark n)).toNat : Int)) Tryz.underlying3 Tryz.underlying5 rfl (by rw [wu8, hv8]; omega)) (zD 11 3711 rfl ⟨ho.holds (hS.pull H), hcut.holds (hS.pull H)⟩ (fun w hS => y_b2sh Tryz.underlying173 Tryz.underlying9 Tryz.underlying5 rfl hS.2) (zU 7 3839 rfl (a_bslice encB [UInt8.ofNat (n / 256 ^ k + mark n)] Tryz.underlying173 sz_5 z_5 rfl (.cons rfl .nil) rfl rfl rfl (by decide) hS rfl fun s1 H1 w ho1 hS => zE ⟨fun _ _ => ⟨ho.holds (hS.pull H), hcut.holds (hS.pull H)⟩, zU 8 4095 rfl (wl (y_b2sh Tryz.underlying173 Tryz.underlying9 Tryz.underlying5 rfl (ho1.holds hS)) rfl (zE ⟨fun _ _ => ⟨ho.holds (hS.pull H), hcut.holds (hS.pull H)⟩, zP 12 8191 rfl (fun w => y_sadd rfl rfl (by simp only [ByteArray.size, List.size_toArray, List.length_singleton]; omega)) (zPa 13 16383 rfl (zPa 14 32767 rfl (zH (zV (z2 rfl ?_)))))⟩))⟩))))))))))))
      first
      | exact ⟨rfl, hS.keep⟩
      | (refine ⟨?_, hS.keep⟩
         rw [append_mk]
         show Value.tuple _ = _
         rw [hpm]
         rfl)
    refine zK ?_
    refine wc_cut (α := Unit) (fun _ => [(5, s), (7, .int .i64 ((mark n : Nat) : Int))]) (fun _ w => St M w (H :: Ls)) ?_ ?_
    have hmz : ∀ z : Int, z = ((mark n : Nat) : Int) → some (Value.int .i64 z) = some (Value.int .i64 ((mark n : Nat) : Int)) := fun z h => by rw [h]
    · refine zQ ?_
      refine zR (zM rfl (wl (y_eql rfl rfl) rfl (zE (zIf rfl (fun hc31 => ?_) fun hc31 => ?_))))
      · refine zR ?_
        refine zA rfl (zE ?_)
        exact ⟨(), sub_cons rfl (sub_cons (hmz _ (by unfold mark; (repeat' split) <;> omega)) sub_nil), hS⟩
      refine zK ?_
      exact ⟨(), sub_cons rfl (sub_cons (hmz _ (by unfold mark; (repeat' split) <;> omega)) sub_nil), hS⟩
    clear hS
    rintro _ w hS
    have hq : n / 256 ^ k < 256 := by
      have h1 := (pnum_bound n hsm).1
      rw [hk] at h1
      have h2 : 2 ^ (8 * (k + 1) - 2) ≤ 2 ^ (8 * (k + 1)) := Nat.pow_le_pow_right (by omega) (by omega)
      have h3 : 2 ^ (8 * (k + 1)) = 256 * 256 ^ k := by rw [Nat.mul_add, Nat.pow_add, Nat.pow_mul, Nat.mul_comm]
      exact Nat.div_lt_of_lt_mul (by rw [Nat.mul_comm]; omega)
    have hmk2 : mark n ≤ 192 := by unfold mark; (repeat' split) <;> omega
    have hu8 : (UInt8.ofNat (n / 256 ^ k)).toNat = n / 256 ^ k := by simp [UInt8.toNat_ofNat']; omega
    have hv8 : (UInt8.ofNat (n / 256 ^ k + mark n)).toNat = (n / 256 ^ k + mark n) % 256 := by simp [UInt8.toNat_ofNat']
    have hbe := be_cons n k
    have h0 : (be n (k + 1))[0]? = some (UInt8.ofNat (n / 256 ^ k)) := by rw [hbe] <;> rfl
    obtain ⟨bb, off, c', hse, _⟩ := (ho.holds hS).at h0
    subst hse
    have hbl := be_length n (k + 1)
    have hcut := cutFrom (k := 1) ho (by omega)
    rw [show (be n (k + 1)).drop 1 = be n k by rw [hbe] <;> rfl] at hcut
    generalize hcv : cutV _ _ _ _ _ = sq at hcut
    obtain ⟨qa, qc, rfl⟩ := hcut.slice
    have hbk := be_length n k
    refine zQ (zW hS (fun w => Holds w encB (.slice (some ⟨bb, off, none⟩) (be n (k + 1)).length c') (be n (k + 1)) ∧ Holds w encB (.slice qa (be n k).length qc) (be n k)) [13, 14] wide_ rfl fun w hS => zPm 0 1 rfl (zP 1 3 rfl (fun w => y_ixa_sl Tryz.underlying173 sz_5 rfl rfl (by omega) (by omega)) (zPm 4 19 rfl (zPm 9 531 rfl (zP 10 1555 rfl (fun w => (y_slFrom (lv := 1) Tryz.underlying173 sz_5 rfl rfl (by omega) (by omega) (by omega)).val hcv) (zD 2 1559 rfl ⟨ho.holds (hS.pull H), hcut.holds (hS.pull H)⟩ (fun w hS => y_load pl_5 rfl (hS.1.cellB h0 (j := 0) rfl)) (zP 3 1567 rfl (fun w => y_conv (r := ((n / 256 ^ k : Nat) : Int)) Tryz.underlying5 Tryz.underlying3 rfl (by rw [hu8]; exact w64 (by omega) (by omega))) (zP 5 1599 rfl (fun w => y_add (r := ((n / 256 ^ k + mark n : Nat) : Int)) rfl rfl (by rw [w64 (by omega) (by omega)]; omega)) (zP 6 1663 rfl (fun w => y_conv (r := ((UInt8.ofNat (n / 256 ^ k + mark n)).toNat : Int)) Tryz.underlying3 Tryz.underlying5 rfl (by rw [wu8, hv8]; omega)) (zD 11 3711 rfl ⟨ho.holds (hS.pull H), hcut.holds (hS.pull H)⟩ (fun w hS => y_b2sh Tryz.underlying173 Tryz.underlying9 Tryz.underlying5 rfl hS.2) (zU 7 3839 rfl (a_bslice encB [UInt8.ofNat (n / 256 ^ k + mark n)] Tryz.underlying173 sz_5 z_5 rfl (.cons rfl .nil) rfl rfl rfl (by decide) hS rfl fun s1 H1 w ho1 hS => zE ⟨fun _ _ => ⟨ho.holds (hS.pull H), hcut.holds (hS.pull H)⟩, zU 8 4095 rfl (wl (y_b2sh Tryz.underlying173 Tryz.underlying9 Tryz.underlying5 rfl (ho1.holds hS)) rfl (zE ⟨fun _ _ => ⟨ho.holds (hS.pull H), hcut.holds (hS.pull H)⟩, zP 12 8191 rfl (fun w => y_sadd rfl rfl (by simp only [ByteArray.size, List.size_toArray, List.length_singleton]; omega)) (zPa 13 16383 rfl (zPa 14 32767 rfl (zH (zV (z2 rfl ?_)))))⟩))⟩))))))))))))
    first
    | exact ⟨rfl, hS.keep⟩
    | (refine ⟨?_, hS.keep⟩
       rw [append_mk]
       show Value.tuple _ = _
       rw [hpm]
       rfl)
  refine zK ?_
  refine zQ (zQ (zR (zM rfl (wl (y_eql rfl rfl) rfl (zE (zIf rfl (fun hc29 => ?_) fun hc29 => ?_))))))
  · refine zR ?_
    refine zA rfl (zE (wc_cut (α := Unit) (fun _ => [(5, s), (7, .int .i64 ((mark n : Nat) : Int))]) (fun _ w => St M w (H :: Ls)) ?_ ?_))
    have hmz : ∀ z : Int, z = ((mark n : Nat) : Int) → some (Value.int .i64 z) = some (Value.int .i64 ((mark n : Nat) : Int)) := fun z h => by rw [h]
    · refine zQ ?_
      refine zR (zM rfl (wl (y_eql rfl rfl) rfl (zE (zIf rfl (fun hc31 => ?_) fun hc31 => ?_))))
      · refine zR ?_
        refine zA rfl (zE ?_)
        exact ⟨(), sub_cons rfl (sub_cons (hmz _ (by unfold mark; (repeat' split) <;> omega)) sub_nil), hS⟩
      refine zK ?_
      exact ⟨(), sub_cons rfl (sub_cons (hmz _ (by unfold mark; (repeat' split) <;> omega)) sub_nil), hS⟩
    clear hS
    rintro _ w hS
    have hq : n / 256 ^ k < 256 := by
      have h1 := (pnum_bound n hsm).1
      rw [hk] at h1
      have h2 : 2 ^ (8 * (k + 1) - 2) ≤ 2 ^ (8 * (k + 1)) := Nat.pow_le_pow_right (by omega) (by omega)
      have h3 : 2 ^ (8 * (k + 1)) = 256 * 256 ^ k := by rw [Nat.mul_add, Nat.pow_add, Nat.pow_mul, Nat.mul_comm]
      exact Nat.div_lt_of_lt_mul (by rw [Nat.mul_comm]; omega)
    have hmk2 : mark n ≤ 192 := by unfold mark; (repeat' split) <;> omega
    have hu8 : (UInt8.ofNat (n / 256 ^ k)).toNat = n / 256 ^ k := by simp [UInt8.toNat_ofNat']; omega
    have hv8 : (UInt8.ofNat (n / 256 ^ k + mark n)).toNat = (n / 256 ^ k + mark n) % 256 := by simp [UInt8.toNat_ofNat']
    have hbe := be_cons n k
    have h0 : (be n (k + 1))[0]? = some (UInt8.ofNat (n / 256 ^ k)) := by rw [hbe] <;> rfl
    obtain ⟨bb, off, c', hse, _⟩ := (ho.holds hS).at h0
    subst hse
    have hbl := be_length n (k + 1)
    have hcut := cutFrom (k := 1) ho (by omega)
    rw [show (be n (k + 1)).drop 1 = be n k by rw [hbe] <;> rfl] at hcut
    generalize hcv : cutV _ _ _ _ _ = sq at hcut
    obtain ⟨qa, qc, rfl⟩ := hcut.slice
    have hbk := be_length n k
    refine zQ (zW hS (fun w => Holds w encB (.slice (some ⟨bb, off, none⟩) (be n (k + 1)).length c') (be n (k + 1)) ∧ Holds w encB (.slice qa (be n k).length qc) (be n k)) [13, 14] wide_ rfl fun w hS => zPm 0 1 rfl (zP 1 3 rfl (fun w => y_ixa_sl Tryz.underlying173 sz_5 rfl rfl (by omega) (by omega)) (zPm 4 19 rfl (zPm 9 531 rfl (zP 10 1555 rfl (fun w => (y_slFrom (lv := 1) Tryz.underlying173 sz_5 rfl rfl (by omega) (by omega) (by omega)).val hcv) (zD 2 1559 rfl ⟨ho.holds (hS.pull H), hcut.holds (hS.pull H)⟩ (fun w hS => y_load pl_5 rfl (hS.1.cellB h0 (j := 0) rfl)) (zP 3 1567 rfl (fun w => y_conv (r := ((n / 256 ^ k : Nat) : Int)) Tryz.underlying5 Tryz.underlying3 rfl (by rw [hu8]; exact w64 (by omega) (by omega))) (zP 5 1599 rfl (fun w => y_add (r := ((n / 256 ^ k + mark n : Nat) : Int)) rfl rfl (by rw [w64 (by omega) (by omega)]; omega)) (zP 6 1663 rfl (fun w => y_conv (r := ((UInt8.ofNat (n / 256 ^ k + mark n)).toNat : Int)) Tryz.underlying3 Tryz.underlying5 rfl (by rw [wu8, hv8]; omega)) (zD 11 3711 rfl ⟨ho.holds (hS.pull H), hcut.holds (hS.pull H)⟩ (fun w hS => y_b2sh Tryz.underlying173 Tryz.underlying9 Tryz.underlying5 rfl hS.2) (zU 7 3839 rfl (a_bslice encB [UInt8.ofNat (n / 256 ^ k + mark n)] Tryz.underlying173 sz_5 z_5 rfl (.cons rfl .nil) rfl rfl rfl (by decide) hS rfl fun s1 H1 w ho1 hS => zE ⟨fun _ _ => ⟨ho.holds (hS.pull H), hcut.holds (hS.pull H)⟩, zU 8 4095 rfl (wl (y_b2sh Tryz.underlying173 Tryz.underlying9 Tryz.underlying5 rfl (ho1.holds hS)) rfl (zE ⟨fun _ _ => ⟨ho.holds (hS.pull H), hcut.holds (hS.pull H)⟩, zP 12 8191 rfl (fun w => y_sadd rfl rfl (by simp only [ByteArray.size, List.size_toArray, List.length_singleton]; omega)) (zPa 13 16383 rfl (zPa 14 32767 rfl (zH (zV (z2 rfl ?_)))))⟩))⟩))))))))))))
    first
    | exact ⟨rfl, hS.keep⟩
    | (refine ⟨?_, hS.keep⟩
       rw [append_mk]
       show Value.tuple _ = _
       rw [hpm]
       rfl)
  refine zK ?_
  refine wc_cut (α := Unit) (fun _ => [(5, s), (7, .int .i64 ((mark n : Nat) : Int))]) (fun _ w => St M w (H :: Ls)) ?_ ?_
  have hmz : ∀ z : Int, z = ((mark n : Nat) : Int) → some (Value.int .i64 z) = some (Value.int .i64 ((mark n : Nat) : Int)) := fun z h => by rw [h]
  · refine zQ ?_
    refine zR (zM rfl (wl (y_eql rfl rfl) rfl (zE (zIf rfl (fun hc31 => ?_) fun hc31 => ?_))))
    · refine zR ?_
      refine zA rfl (zE ?_)
      exact ⟨(), sub_cons rfl (sub_cons (hmz _ (by unfold mark; (repeat' split) <;> omega)) sub_nil), hS⟩
    refine zK ?_
    exact ⟨(), sub_cons rfl (sub_cons (hmz _ (by unfold mark; (repeat' split) <;> omega)) sub_nil), hS⟩
  clear hS
  rintro _ w hS
  have hq : n / 256 ^ k < 256 := by
    have h1 := (pnum_bound n hsm).1
    rw [hk] at h1
    have h2 : 2 ^ (8 * (k + 1) - 2) ≤ 2 ^ (8 * (k + 1)) := Nat.pow_le_pow_right (by omega) (by omega)
    have h3 : 2 ^ (8 * (k + 1)) = 256 * 256 ^ k := by rw [Nat.mul_add, Nat.pow_add, Nat.pow_mul, Nat.mul_comm]
    exact Nat.div_lt_of_lt_mul (by rw [Nat.mul_comm]; omega)
  have hmk2 : mark n ≤ 192 := by unfold mark; (repeat' split) <;> omega
  have hu8 : (UInt8.ofNat (n / 256 ^ k)).toNat = n / 256 ^ k := by simp [UInt8.toNat_ofNat']; omega
  have hv8 : (UInt8.ofNat (n / 256 ^ k + mark n)).toNat = (n / 256 ^ k + mark n) % 256 := by simp [UInt8.toNat_ofNat']
  have hbe := be_cons n k
  have h0 : (be n (k + 1))[0]? = some (UInt8.ofNat (n / 256 ^ k)) := by rw [hbe] <;> rfl
  obtain ⟨bb, off, c', hse, _⟩ := (ho.holds hS).at h0
  subst hse
  have hbl := be_length n (k + 1)
  have hcut := cutFrom (k := 1) ho (by omega)
  rw [show (be n (k + 1)).drop 1 = be n k by rw [hbe] <;> rfl] at hcut
  generalize hcv : cutV _ _ _ _ _ = sq at hcut
  obtain ⟨qa, qc, rfl⟩ := hcut.slice
  have hbk := be_length n k
  refine zQ (zW hS (fun w => Holds w encB (.slice (some ⟨bb, off, none⟩) (be n (k + 1)).length c') (be n (k + 1)) ∧ Holds w encB (.slice qa (be n k).length qc) (be n k)) [13, 14] wide_ rfl fun w hS => zPm 0 1 rfl (zP 1 3 rfl (fun w => y_ixa_sl Tryz.underlying173 sz_5 rfl rfl (by omega) (by omega)) (zPm 4 19 rfl (zPm 9 531 rfl (zP 10 1555 rfl (fun w => (y_slFrom (lv := 1) Tryz.underlying173 sz_5 rfl rfl (by omega) (by omega) (by omega)).val hcv) (zD 2 1559 rfl ⟨ho.holds (hS.pull H), hcut.holds (hS.pull H)⟩ (fun w hS => y_load pl_5 rfl (hS.1.cellB h0 (j := 0) rfl)) (zP 3 1567 rfl (fun w => y_conv (r := ((n / 256 ^ k : Nat) : Int)) Tryz.underlying5 Tryz.underlying3 rfl (by rw [hu8]; exact w64 (by omega) (by omega))) (zP 5 1599 rfl (fun w => y_add (r := ((n / 256 ^ k + mark n : Nat) : Int)) rfl rfl (by rw [w64 (by omega) (by omega)]; omega)) (zP 6 1663 rfl (fun w => y_conv (r := ((UInt8.ofNat (n / 256 ^ k + mark n)).toNat : Int)) Tryz.underlying3 Tryz.underlying5 rfl (by rw [wu8, hv8]; omega)) (zD 11 3711 rfl ⟨ho.holds (hS.pull H), hcut.holds (hS.pull H)⟩ (fun w hS => y_b2sh Tryz.underlying173 Tryz.underlying9 Tryz.underlying5 rfl hS.2) (zU 7 3839 rfl (a_bslice encB [UInt8.ofNat (n / 256 ^ k + mark n)] Tryz.underlying173 sz_5 z_5 rfl (.cons rfl .nil) rfl rfl rfl (by decide) hS rfl fun s1 H1 w ho1 hS => zE ⟨fun _ _ => ⟨ho.holds (hS.pull H), hcut.holds (hS.pull H)⟩, zU 8 4095 rfl (wl (y_b2sh Tryz.underlying173 Tryz.underlying9 Tryz.underlying5 rfl (ho1.holds hS)) rfl (zE ⟨fun _ _ => ⟨ho.holds (hS.pull H), hcut.holds (hS.pull H)⟩, zP 12 8191 rfl (fun w => y_sadd rfl rfl (by simp only [ByteArray.size, List.size_toArray, List.length_singleton]; omega)) (zPa 13 16383 rfl (zPa 14 32767 rfl (zH (zV (z2 rfl ?_)))))⟩))⟩))))))))))))
  first
  | exact ⟨rfl, hS.keep⟩
  | (refine ⟨?_, hS.keep⟩
     rw [append_mk]
     show Value.tuple _ = _
     rw [hpm]
     rfl)
end
end Go.Proofs.YtndahppmjdbifaaGreatDoor.Pak
set_option linter.unusedVariables false
set_option linter.unusedSimpArgs false
namespace Go.Proofs.YtndahppmjdbifaaGreatDoor.Rou
open Go Go.Proofs Eng Pre Pak Val
theorem str_app (a b : List UInt8) : str a ++ str b = str (a ++ b) := by
  apply bytes_eq; simp [str]
theorem str_len (a : List UInt8) : (str a).size = a.length := by
  show a.toArray.size = a.length
  simp
section
variable {M : Mem} {w : World} {Ls : List Chunk}
theorem r3num_c (n : Nat) (hn : n < 4611686018427387904) (hS : St M w Ls) :
    CallsR Tryz.prog 70 [.int .i64 n].toArray w fun v w' => v = .tuple [.string (str (pput n)), .bool true].toArray ∧ St M w' Ls := by
  have hv : put1V n = .tuple [.string (str (pput n)), .int .i64 0].toArray := by unfold put1V; rw [if_pos hn]
  refine zC 17 Tryz.func70 rfl (zQ (zR (zA rfl (zA rfl (zE (zQ (zQ (zR (zM rfl (wl (y_lss rfl rfl) rfl (zE (wc_ifF rfl (decide_eq_false (by omega)) (zK (zQ (zR (zM rfl (wl (y_conv (r := (n : Int)) Tryz.underlying3 Tryz.underlying190 rfl (natwrap64 _ (by omega))) rfl (wl_call (.cons rfl .nil) (r1put_c n (by omega) hS) rfl ?_))))))))))))))))))
  rintro _ w ⟨rfl, hS⟩
  rw [hv]
  refine zM rfl (zX rfl (zX rfl (zA rfl (zA rfl (zE (zQ (zR (zM rfl (zM rfl (wl (y_eql rfl rfl) rfl (zA rfl (zA rfl (zE (zV (z2 rfl ?_)))))))))))))))
  exact ⟨rfl, hS⟩
theorem r3text_c (b : ByteArray) (hn : b.size ≤ 1099511627776) (hS : St M w Ls) :
    CallsR Tryz.prog 133 [.string b].toArray w fun v w' => v = .string (str (ptext b)) ∧ St M w' Ls := by
  have hpl := pput_length b.size
  refine zC 14 Tryz.func133 rfl (zQ (zR (zA rfl (zE (zQ (zR (zM rfl (wl (y_len_s Tryz.underlying9 rfl) rfl (wl_call (.cons rfl .nil) (r3num_c b.size (by omega) hS) rfl ?_)))))))))
  rintro _ w ⟨rfl, hS⟩
  refine zM rfl (zX rfl (zX rfl (zA rfl (zA rfl (zE (zQ (zR (zM rfl (zM rfl (wl (y_sadd rfl rfl (by rw [str_len]; omega)) rfl (zA rfl (zE (zV (z1 rfl ?_))))))))))))))
  exact ⟨congrArg Value.string (bytes_eq (by unfold ptext; simp [str])), hS⟩
theorem r1zig_c (n : Int) (h0 : -2305843009213693952 ≤ n) (h1 : n < 2305843009213693952) (hS : St M w Ls) :
    CallsR Tryz.prog 169 [.int .i64 n].toArray w fun v w' => v = .tuple [.int .u64 (zig n), .bool true].toArray ∧ St M w' Ls := by
  have hz : zig n < 4611686018427387904 := by unfold zig; split <;> omega
  refine zC 21 Tryz.func169 rfl (zQ (zR (zA rfl (zA rfl (zE (zQ (zQ (zR (zM rfl (wl ((y_lss rfl rfl).val (u := .bool false) (congrArg Value.bool (decide_eq_false (by omega)))) rfl (zM rfl (zI rfl (zM rfl (zI rfl (wl ((y_gtr rfl rfl).val (u := .bool false) (congrArg Value.bool (decide_eq_false (by omega)))) rfl (wl (y_pickF rfl rfl) rfl (zE (wc_ifF rfl rfl (zK (zQ (zQ (zR (zM rfl (wl (y_lss rfl rfl) rfl (zE (zIf rfl (fun hc11 => ?_) fun hc11 => ?_))))))))))))))))))))))))))
  · obtain ⟨m, hm⟩ : ∃ m : Nat, -(n + 1) = m := ⟨(-(n + 1)).toNat, by omega⟩
    have hzm : zig n = 2 * m + 1 := by unfold zig; rw [if_pos hc11]; omega
    refine zQ (zR (zM rfl (wl (y_add rfl rfl (w64 (by omega) (by omega))) rfl (wl (y_neg (r := (m : Int)) rfl (by rw [w64 (by omega) (by omega)]; omega)) rfl (wl (y_conv (r := (m : Int)) Tryz.underlying2 Tryz.underlying190 rfl (natwrap64 _ (by omega))) rfl (wl (y_mul (r := ((2 * m : Nat) : Int)) rfl rfl (by rw [show (2 : Int) * (m : Int) = ((2 * m : Nat) : Int) by omega]; exact natwrap64 _ (by omega))) rfl (wl (y_add (r := ((zig n : Nat) : Int)) rfl rfl (by rw [show ((2 * m : Nat) : Int) + 1 = ((zig n : Nat) : Int) by omega]; exact natwrap64 _ (by omega))) rfl (zA rfl (zA rfl (zE (zV (z2 rfl ?_))))))))))))
    exact ⟨rfl, hS⟩
  obtain ⟨m, hm⟩ : ∃ m : Nat, n = m := ⟨n.toNat, by omega⟩
  have hzm : zig n = 2 * m := by unfold zig; rw [if_neg hc11]; omega
  refine zK (zQ (zR (zM rfl (wl (y_conv (r := (m : Int)) Tryz.underlying2 Tryz.underlying190 rfl (by rw [hm]; exact natwrap64 _ (by omega))) rfl (wl (y_mul (r := ((zig n : Nat) : Int)) rfl rfl (by rw [show (2 : Int) * (m : Int) = ((zig n : Nat) : Int) by omega]; exact natwrap64 _ (by omega))) rfl (zA rfl (zA rfl (zE (zV (z2 rfl ?_))))))))))
  exact ⟨rfl, hS⟩
theorem r3sig_c (n : Int) (h0 : -2305843009213693952 ≤ n) (h1 : n < 2305843009213693952) (hS : St M w Ls) :
    CallsR Tryz.prog 134 [.int .i64 n].toArray w fun v w' => v = .tuple [.string (str (pput (zig n))), .bool true].toArray ∧ St M w' Ls := by
  have hz : zig n < 4611686018427387904 := by unfold zig; split <;> omega
  have hv : put1V (zig n) = .tuple [.string (str (pput (zig n))), .int .i64 0].toArray := by unfold put1V; rw [if_pos hz]
  refine zC 21 Tryz.func134 rfl (zQ (zR (zA rfl (zA rfl (zE (zQ (zR (zM rfl (wl_call (.cons rfl .nil) (r1zig_c n h0 h1 hS) rfl ?_)))))))))
  rintro _ w ⟨rfl, hS⟩
  refine zM rfl (zX rfl (zX rfl (zA rfl (zA rfl (zE (zQ (zQ (zR (zM rfl (wl (y_not rfl) rfl (zE (wc_ifF rfl (rfl) (zK (zQ (zR (zM rfl (wl_call (.cons rfl .nil) (r1put_c (zig n) (by omega) hS) rfl ?_)))))))))))))))))
  rintro _ w ⟨rfl, hS⟩
  rw [hv]
  refine zM rfl (zX rfl (zX rfl (zA rfl (zA rfl (zE (zQ (zR (zM rfl (zA rfl (zA rfl (zE (zV (z2 rfl ?_)))))))))))))
  exact ⟨rfl, hS⟩
theorem mayU_facts {u : Upd} (h : mayU u = 0) : u.key.size ≤ 16 ∧ (1 ≤ u.kind ∧ u.kind ≤ 5) ∧ (u.kind = 1 ∨ u.kind = 3 → -2305843009213693952 ≤ u.n ∧ u.n < 2305843009213693952) ∧ (u.kind = 2 ∨ u.kind = 4 → u.s.size ≤ 32) := by
  unfold mayU at h
  split at h; · cases h
  split at h; · cases h
  split at h
  · rename_i hk
    split at h; · cases h
    split at h; · cases h
    split at h; · cases h
    exact ⟨by omega, by omega, fun _ => by omega, fun h => by omega⟩
  split at h
  · rename_i hk
    split at h; · cases h
    split at h; · cases h
    exact ⟨by omega, by omega, fun h => by omega, fun _ => by omega⟩
  split at h
  · exact ⟨by omega, by omega, fun h => by omega, fun h => by omega⟩
  cases h
theorem r6bytes_c (u : Upd) (hu : mayU u = 0) (hS : St M w Ls) :
    CallsR Tryz.prog 71 [uv u].toArray w fun v w' => v = .string (str (ubytes u)) ∧ St M w' Ls := by
  obtain ⟨f1, f2, f3, f4⟩ := mayU_facts hu
  obtain ⟨k, hk⟩ : ∃ k : Nat, u.kind = k := ⟨u.kind.toNat, by omega⟩
  have p1 := pput_length k
  have p2 := ptext_length u.key
  have p3 := pput_length (zig u.n)
  have p4 := ptext_length u.s
  have hub : ubytes u = pput k ++ ptext u.key ++ (if u.kind = 1 ∨ u.kind = 3 then pput (zig u.n) else if u.kind = 2 ∨ u.kind = 4 then ptext u.s else []) := by unfold ubytes; rw [hk] <;> rfl
  refine zC 49 Tryz.func71 rfl (zQ (zR (a_box rfl hS rfl fun b1 w hS => zA rfl (zE (zQ (zR (zF fl_59_1 rfl (wl ((y_load pl_3 rfl (hS.c (v := .int .i64 u.kind))).val (congrArg (Value.int .i64) hk)) rfl (wl_call (.cons rfl .nil) (r3num_c k (by omega) hS) rfl ?_)))))))))
  rintro _ w ⟨rfl, hS⟩
  refine zM rfl (zX rfl (zX rfl (zA rfl (zA rfl (zE (zQ (zR (zM rfl (zF fl_59_0 rfl (wl (y_load pl_9 rfl (hS.c (v := .string u.key))) rfl (wl_call (.cons rfl .nil) (r3text_c u.key (by omega) hS) rfl ?_)))))))))))
  rintro _ w ⟨rfl, hS⟩
  refine wl ((y_sadd rfl rfl (by rw [str_len, str_len]; omega)).val (congrArg Value.string (str_app _ _))) rfl (zA rfl (zE (zQ (zQ (zR (zF fl_59_1 rfl (wl (y_load pl_3 rfl (hS.c (v := .int .i64 u.kind))) rfl (wl (y_eql rfl rfl) rfl (zM rfl (zWc (s := 21) rfl (fun hg21 => ?_) fun hg21 => ?_))))))))))
  · refine zO rfl ?_
    refine zO rfl (zO rfl (wl (y_pickT rfl rfl) rfl (zE (wc_ifT rfl rfl (zQ (zR (zF fl_59_2 rfl (wl (y_load pl_2 rfl (hS.c (v := .int .i64 u.n))) rfl (wl_call (.cons rfl .nil) (r3sig_c u.n (f3 (by omega)).1 (f3 (by omega)).2 hS) rfl ?_)))))))))
    rintro _ w ⟨rfl, hS⟩
    refine zM rfl (zX rfl (zX rfl (zA rfl (zA rfl (zE (zR (zM rfl (zM rfl (wl ((y_sadd rfl rfl (by rw [str_len, str_len, List.length_append]; omega)).val (congrArg Value.string (str_app _ _))) rfl (zA rfl (zE (zQ (zQ (zR (zF fl_59_1 rfl (wl (y_load pl_3 rfl (hS.c (v := .int .i64 u.kind))) rfl (wl (y_eql rfl rfl) rfl (zM rfl (zWc (s := 38) rfl (fun hg38 => ?_) fun hg38 => ?_)))))))))))))))))))
    · refine zO rfl ?_
      refine zO rfl (zO rfl (wl (y_pickT rfl rfl) rfl (zE (wc_ifT rfl rfl (zR (zM rfl (zF fl_59_3 rfl (wl (y_load pl_9 rfl (hS.c (v := .string u.s))) rfl (wl_call (.cons rfl .nil) (r3text_c u.s (by have := f4 (by omega); omega) hS) rfl ?_)))))))))
      rintro _ w ⟨rfl, hS⟩
      refine wl ((y_sadd rfl rfl (by have := f4 (by omega); rw [str_len, str_len, List.length_append]; omega)).val (congrArg Value.string (str_app _ _))) rfl (zA rfl (zE (zQ (zR (zM rfl (zA rfl (zE (zV (z1 rfl ?_)))))))))
      first
      | (exfalso; omega)
      | exact ⟨congrArg (fun x => Value.string (str x)) (by rw [hub, if_pos (by omega)]), hS.keep⟩
      | exact ⟨congrArg (fun x => Value.string (str x)) (by rw [hub, if_neg (by omega), if_pos (by omega)]), hS.keep⟩
      | exact ⟨congrArg (fun x => Value.string (str x)) (by rw [hub, if_neg (by omega), if_neg (by omega), List.append_nil]), hS.keep⟩
    refine zI rfl ?_
    refine zF fl_59_1 rfl (zI rfl (wl (y_load pl_3 rfl (hS.c (v := .int .i64 u.kind))) rfl (zI rfl (wl (y_eql rfl rfl) rfl (wl (y_pickF rfl rfl) rfl (zE (zIf rfl (fun hc42 => ?_) fun hc42 => ?_)))))))
    · refine zR ?_
      refine zM rfl (zF fl_59_3 rfl (wl (y_load pl_9 rfl (hS.c (v := .string u.s))) rfl (wl_call (.cons rfl .nil) (r3text_c u.s (by have := f4 (by omega); omega) hS) rfl ?_)))
      rintro _ w ⟨rfl, hS⟩
      refine wl ((y_sadd rfl rfl (by have := f4 (by omega); rw [str_len, str_len, List.length_append]; omega)).val (congrArg Value.string (str_app _ _))) rfl (zA rfl (zE (zQ (zR (zM rfl (zA rfl (zE (zV (z1 rfl ?_)))))))))
      first
      | (exfalso; omega)
      | exact ⟨congrArg (fun x => Value.string (str x)) (by rw [hub, if_pos (by omega)]), hS.keep⟩
      | exact ⟨congrArg (fun x => Value.string (str x)) (by rw [hub, if_neg (by omega), if_pos (by omega)]), hS.keep⟩
      | exact ⟨congrArg (fun x => Value.string (str x)) (by rw [hub, if_neg (by omega), if_neg (by omega), List.append_nil]), hS.keep⟩
    refine zK ?_
    refine zQ (zR (zM rfl (zA rfl (zE (zV (z1 rfl ?_))))))
    first
    | (exfalso; omega)
    | exact ⟨congrArg (fun x => Value.string (str x)) (by rw [hub, if_pos (by omega)]), hS.keep⟩
    | exact ⟨congrArg (fun x => Value.string (str x)) (by rw [hub, if_neg (by omega), if_pos (by omega)]), hS.keep⟩
    | exact ⟨congrArg (fun x => Value.string (str x)) (by rw [hub, if_neg (by omega), if_neg (by omega), List.append_nil]), hS.keep⟩
  refine zI rfl ?_
  refine zF fl_59_1 rfl (zI rfl (wl (y_load pl_3 rfl (hS.c (v := .int .i64 u.kind))) rfl (zI rfl (wl (y_eql rfl rfl) rfl (wl (y_pickF rfl rfl) rfl (zE (zIf rfl (fun hc25 => ?_) fun hc25 => ?_)))))))
  · refine zQ ?_
    refine zR (zF fl_59_2 rfl (wl (y_load pl_2 rfl (hS.c (v := .int .i64 u.n))) rfl (wl_call (.cons rfl .nil) (r3sig_c u.n (f3 (by omega)).1 (f3 (by omega)).2 hS) rfl ?_)))
    rintro _ w ⟨rfl, hS⟩
    refine zM rfl (zX rfl (zX rfl (zA rfl (zA rfl (zE (zR (zM rfl (zM rfl (wl ((y_sadd rfl rfl (by rw [str_len, str_len, List.length_append]; omega)).val (congrArg Value.string (str_app _ _))) rfl (zA rfl (zE (zQ (zQ (zR (zF fl_59_1 rfl (wl (y_load pl_3 rfl (hS.c (v := .int .i64 u.kind))) rfl (wl (y_eql rfl rfl) rfl (zM rfl (zWc (s := 38) rfl (fun hg38 => ?_) fun hg38 => ?_)))))))))))))))))))
    · refine zO rfl ?_
      refine zO rfl (zO rfl (wl (y_pickT rfl rfl) rfl (zE (wc_ifT rfl rfl (zR (zM rfl (zF fl_59_3 rfl (wl (y_load pl_9 rfl (hS.c (v := .string u.s))) rfl (wl_call (.cons rfl .nil) (r3text_c u.s (by have := f4 (by omega); omega) hS) rfl ?_)))))))))
      rintro _ w ⟨rfl, hS⟩
      refine wl ((y_sadd rfl rfl (by have := f4 (by omega); rw [str_len, str_len, List.length_append]; omega)).val (congrArg Value.string (str_app _ _))) rfl (zA rfl (zE (zQ (zR (zM rfl (zA rfl (zE (zV (z1 rfl ?_)))))))))
      first
      | (exfalso; omega)
      | exact ⟨congrArg (fun x => Value.string (str x)) (by rw [hub, if_pos (by omega)]), hS.keep⟩
      | exact ⟨congrArg (fun x => Value.string (str x)) (by rw [hub, if_neg (by omega), if_pos (by omega)]), hS.keep⟩
      | exact ⟨congrArg (fun x => Value.string (str x)) (by rw [hub, if_neg (by omega), if_neg (by omega), List.append_nil]), hS.keep⟩
    refine zI rfl ?_
    refine zF fl_59_1 rfl (zI rfl (wl (y_load pl_3 rfl (hS.c (v := .int .i64 u.kind))) rfl (zI rfl (wl (y_eql rfl rfl) rfl (wl (y_pickF rfl rfl) rfl (zE (zIf rfl (fun hc42 => ?_) fun hc42 => ?_)))))))
    · refine zR ?_
      refine zM rfl (zF fl_59_3 rfl (wl (y_load pl_9 rfl (hS.c (v := .string u.s))) rfl (wl_call (.cons rfl .nil) (r3text_c u.s (by have := f4 (by omega); omega) hS) rfl ?_)))
      rintro _ w ⟨rfl, hS⟩
      refine wl ((y_sadd rfl rfl (by have := f4 (by omega); rw [str_len, str_len, List.length_append]; omega)).val (congrArg Value.string (str_app _ _))) rfl (zA rfl (zE (zQ (zR (zM rfl (zA rfl (zE (zV (z1 rfl ?_)))))))))
      first
      | (exfalso; omega)
      | exact ⟨congrArg (fun x => Value.string (str x)) (by rw [hub, if_pos (by omega)]), hS.keep⟩
      | exact ⟨congrArg (fun x => Value.string (str x)) (by rw [hub, if_neg (by omega), if_pos (by omega)]), hS.keep⟩
      | exact ⟨congrArg (fun x => Value.string (str x)) (by rw [hub, if_neg (by omega), if_neg (by omega), List.append_nil]), hS.keep⟩
    refine zK ?_
    refine zQ (zR (zM rfl (zA rfl (zE (zV (z1 rfl ?_))))))
    first
    | (exfalso; omega)
    | exact ⟨congrArg (fun x => Value.string (str x)) (by rw [hub, if_pos (by omega)]), hS.keep⟩
    | exact ⟨congrArg (fun x => Value.string (str x)) (by rw [hub, if_neg (by omega), if_pos (by omega)]), hS.keep⟩
    | exact ⟨congrArg (fun x => Value.string (str x)) (by rw [hub, if_neg (by omega), if_neg (by omega), List.append_nil]), hS.keep⟩
  refine zK ?_
  refine zQ (zQ (zR (zF fl_59_1 rfl (wl (y_load pl_3 rfl (hS.c (v := .int .i64 u.kind))) rfl (wl (y_eql rfl rfl) rfl (zM rfl (zWc (s := 38) rfl (fun hg38 => ?_) fun hg38 => ?_)))))))
  · refine zO rfl ?_
    refine zO rfl (zO rfl (wl (y_pickT rfl rfl) rfl (zE (wc_ifT rfl rfl (zR (zM rfl (zF fl_59_3 rfl (wl (y_load pl_9 rfl (hS.c (v := .string u.s))) rfl (wl_call (.cons rfl .nil) (r3text_c u.s (by have := f4 (by omega); omega) hS) rfl ?_)))))))))
    rintro _ w ⟨rfl, hS⟩
    refine wl ((y_sadd rfl rfl (by have := f4 (by omega); rw [str_len, str_len, List.length_append]; omega)).val (congrArg Value.string (str_app _ _))) rfl (zA rfl (zE (zQ (zR (zM rfl (zA rfl (zE (zV (z1 rfl ?_)))))))))
    first
    | (exfalso; omega)
    | exact ⟨congrArg (fun x => Value.string (str x)) (by rw [hub, if_pos (by omega)]), hS.keep⟩
    | exact ⟨congrArg (fun x => Value.string (str x)) (by rw [hub, if_neg (by omega), if_pos (by omega)]), hS.keep⟩
    | exact ⟨congrArg (fun x => Value.string (str x)) (by rw [hub, if_neg (by omega), if_neg (by omega), List.append_nil]), hS.keep⟩
  refine zI rfl ?_
  refine zF fl_59_1 rfl (zI rfl (wl (y_load pl_3 rfl (hS.c (v := .int .i64 u.kind))) rfl (zI rfl (wl (y_eql rfl rfl) rfl (wl (y_pickF rfl rfl) rfl (zE (zIf rfl (fun hc42 => ?_) fun hc42 => ?_)))))))
  · refine zR ?_
    refine zM rfl (zF fl_59_3 rfl (wl (y_load pl_9 rfl (hS.c (v := .string u.s))) rfl (wl_call (.cons rfl .nil) (r3text_c u.s (by have := f4 (by omega); omega) hS) rfl ?_)))
    rintro _ w ⟨rfl, hS⟩
    refine wl ((y_sadd rfl rfl (by have := f4 (by omega); rw [str_len, str_len, List.length_append]; omega)).val (congrArg Value.string (str_app _ _))) rfl (zA rfl (zE (zQ (zR (zM rfl (zA rfl (zE (zV (z1 rfl ?_)))))))))
    first
    | (exfalso; omega)
    | exact ⟨congrArg (fun x => Value.string (str x)) (by rw [hub, if_pos (by omega)]), hS.keep⟩
    | exact ⟨congrArg (fun x => Value.string (str x)) (by rw [hub, if_neg (by omega), if_pos (by omega)]), hS.keep⟩
    | exact ⟨congrArg (fun x => Value.string (str x)) (by rw [hub, if_neg (by omega), if_neg (by omega), List.append_nil]), hS.keep⟩
  refine zK ?_
  refine zQ (zR (zM rfl (zA rfl (zE (zV (z1 rfl ?_))))))
  first
  | (exfalso; omega)
  | exact ⟨congrArg (fun x => Value.string (str x)) (by rw [hub, if_pos (by omega)]), hS.keep⟩
  | exact ⟨congrArg (fun x => Value.string (str x)) (by rw [hub, if_neg (by omega), if_pos (by omega)]), hS.keep⟩
  | exact ⟨congrArg (fun x => Value.string (str x)) (by rw [hub, if_neg (by omega), if_neg (by omega), List.append_nil]), hS.keep⟩
theorem r7bytes_c (r : Rnd) (s : Value) (hs : Rd M encU s r.ups) (hr : mayR r = 0) (hS : St M w Ls) :
    CallsR Tryz.prog 19 [rvS r s].toArray w fun v w' => v = .string (str (rbytes r)) ∧ St M w' Ls := by
  obtain ⟨m1, m2, m3, m4, m5, m6, m7⟩ := mayR_ok hr
  have hs0 := hs
  obtain ⟨sa, sc, rfl⟩ := (hs.holds hS).slice
  obtain ⟨o, ho⟩ : ∃ o : Nat, r.o = o := ⟨r.o.toNat, by omega⟩
  obtain ⟨n, hn⟩ : ∃ n : Nat, r.n = n := ⟨r.n.toNat, by omega⟩
  have hrb : rbytes r = pput o ++ pput n ++ pput r.ups.length ++ r.ups.flatMap ubytes := by unfold rbytes; rw [ho, hn] <;> rfl
  have p1 := pput_length o
  have p2 := pput_length n
  have p3 := pput_length r.ups.length
  refine zC 51 Tryz.func19 rfl (zQ (zR (a_box rfl hS rfl fun b1 w hS => zA rfl (zE (zQ (zR (zF fl_48_0 rfl (wl ((y_load pl_3 rfl (hS.c (v := .int .i64 r.o))).val (congrArg (Value.int .i64) ho)) rfl (wl_call (.cons rfl .nil) (r3num_c o (by omega) hS) rfl ?_)))))))))
  rintro _ w ⟨rfl, hS⟩
  refine zM rfl (zX rfl (zX rfl (zA rfl (zA rfl (zE (zQ (zR (zF fl_48_1 rfl (wl ((y_load pl_3 rfl (hS.c (v := .int .i64 r.n))).val (congrArg (Value.int .i64) hn)) rfl (wl_call (.cons rfl .nil) (r3num_c n (by omega) hS) rfl ?_))))))))))
  rintro _ w ⟨rfl, hS⟩
  refine zM rfl (zX rfl (zX rfl (zA rfl (zA rfl (zE (zQ (zR (zF fl_48_2 rfl (wl (y_load pl_46 rfl (hS.c (v := .slice sa r.ups.length sc))) rfl (wl (y_len_sl Tryz.underlying46 rfl) rfl (wl_call (.cons rfl .nil) (r3num_c r.ups.length (by omega) hS) rfl ?_)))))))))))
  rintro _ w ⟨rfl, hS⟩
  refine zM rfl (zX rfl (zX rfl (zA rfl (zA rfl (zE (zQ (zR (zM rfl (zM rfl (wl ((y_sadd rfl rfl (by rw [str_len, str_len]; omega)).val (congrArg Value.string (str_app _ _))) rfl (zM rfl (wl ((y_sadd rfl rfl (by rw [str_len, str_len, List.length_append]; omega)).val (congrArg Value.string (str_app _ _))) rfl (zA rfl (zE (zQ (zQ (zR (zA rfl (zE (zB (wc_loop (α := Nat) (fun i => [(1, .pointer (some ⟨b1, 0, none⟩)), (9, .string (str (pput o ++ pput n ++ pput r.ups.length ++ (r.ups.take i).flatMap ubytes))), (10, .int .i64 i)]) (fun i w => i ≤ r.ups.length ∧ St M w ([(b1, .cells (rvS r (.slice sa r.ups.length sc)).cells 48)] :: Ls)) (fun i => r.ups.length - i) 0 (sub_cons rfl (sub_cons (show _ = some (Value.string _) by rw [List.take_zero, List.flatMap_nil, List.append_nil] <;> rfl) (subR rfl))) ⟨by omega, hS⟩ ?_)))))))))))))))))))))
  clear hS
  rintro i w ⟨hi, hS⟩
  refine zQ (zQ (zR (zM rfl (zF fl_48_2 rfl (wl (y_load pl_46 rfl (hS.c (v := .slice sa r.ups.length sc))) rfl (wl (y_len_sl Tryz.underlying46 rfl) rfl (wl (y_lss rfl rfl) rfl (zE (zIf rfl (fun hc39 => ?_) fun hc39 => ?_)))))))))
  · refine zK ?_
    refine zQ (zB ?_)
    have hi' : i < r.ups.length := by omega
    obtain ⟨u, hu⟩ : ∃ u, r.ups[i]? = some u := ⟨_, List.getElem?_eq_getElem hi'⟩
    have hut : (r.ups.take (i + 1)).flatMap ubytes = (r.ups.take i).flatMap ubytes ++ ubytes u := by rw [List.take_add_one, hu]; simp
    have hul := ups_length (l := r.ups.take i) fun x hx => m7 x (List.mem_of_mem_take hx)
    have hu1 := ubytes_length (m7 u (List.mem_of_getElem? hu))
    rw [List.length_take] at hul
    obtain ⟨bb, off, c', hse, hce⟩ := (hs0.holds hS).at hu
    simp only [Value.slice.injEq] at hse
    have hSk := hS
    obtain ⟨rfl, _, rfl⟩ := hse
    replace hS := hSk
    refine zR (zM rfl (zF fl_48_2 rfl (wl (y_load pl_46 rfl (hS.c (v := .slice (some ⟨bb, off, none⟩) r.ups.length sc))) rfl (zM rfl (wl (y_ixa_sl Tryz.underlying46 sz_59 rfl rfl (by omega) (by omega)) rfl (wl ((y_loadS st_59 sz_59 rfl (vs := encU.f u) hce rfl).val (show _ = uv u from rfl)) rfl (wl_call (.cons rfl .nil) (r6bytes_c u (m7 u (List.mem_of_getElem? hu)) hS) rfl ?_)))))))
    rintro _ w ⟨rfl, hS⟩
    refine wl ((y_sadd rfl rfl (by rw [str_len, str_len]; simp only [List.length_append]; omega)).val (u := .string (str (pput o ++ pput n ++ pput r.ups.length ++ (r.ups.take (i + 1)).flatMap ubytes))) (congrArg Value.string (by rw [str_app, hut, List.append_assoc]))) rfl (zA rfl (zE (zR (zM rfl (wl (y_add rfl rfl (w64 (by omega) (by omega))) rfl (zA rfl (zE ?_)))))))
    exact ⟨i + 1, by omega, sub_cons rfl (sub_cons rfl (subR rfl)), by omega, hS⟩
  obtain rfl : i = r.ups.length := by omega
  rw [List.take_length, ← hrb]
  refine wc_exit (zQ (zR (zM rfl (zA rfl (zE (zV (z1 rfl ?_)))))))
  exact ⟨rfl, hS.keep⟩
end
end Go.Proofs.YtndahppmjdbifaaGreatDoor.Rou
set_option linter.unusedVariables false
set_option linter.unusedSimpArgs false
namespace Go.Proofs.YtndahppmjdbifaaGreatDoor.Eng
open Go
section
variable {P : Program} {n : Nat} {ops : Array Oper} {KE : Env → World → Prop} {E : Env} {w : World}
theorem wl_offU {lo : List Oper} {d : Nat} {op : Op} {T : TypeId} {pos : String} {af : Array Edge} {j s : Nat} {want : Bool}
    (hj : (ops[j]?).bind (·.dst) = some s) (ht : Env.get E s = some undef) (hd : Nat.blt d n = true) (h : WL P n ops KE lo ((d, undef) :: E) w) : WL P n ops KE (⟨some d, op, T, pos, af, some (j, want)⟩ :: lo) E w := by
  intro a hn ha
  unfold wpList
  rw [if_neg (by simp [Region.wanted, yielded_undef ha hj ht])]
  exact h _ (ok_put hn) (has_put hn hd ha)
end
end Go.Proofs.YtndahppmjdbifaaGreatDoor.Eng
