/-
  Part 3 of the proof: CliC, CldC, ClpC, CltC, NodC, NopC, NotC, NlkC, NplC, NtkC, StoC, RepC, NinM, LhpC, SamC, LawC, AwaM, AwaC, NsaC, NpsC, RefA, RefB, RefC, NstC, GetL, FrpL, FrqL, NpkC, RefD, RefE, NrsC, Fin.
-/
import Derived.Test.YtndahppmjdbifaaGreatDoorPb
import Derived.KernelRfl
import Derived.ProofKit
import Derived.Carry
import Derived.OpenVars
import Derived.OpenShut
set_option linter.unusedVariables false
set_option linter.unusedSimpArgs false
namespace Go.Proofs.YtndahppmjdbifaaGreatDoor.Cli
open Go Go.Proofs Go.Proofs.YtndahppmjdbifaaGreatDoor.Eng Go.Proofs.YtndahppmjdbifaaGreatDoor.Pre Go.Proofs.YtndahppmjdbifaaGreatDoor.Val Go.Proofs.YtndahppmjdbifaaGreatDoor.Rou Go.Proofs.YtndahppmjdbifaaGreatDoor.Jnl Go.Proofs.YtndahppmjdbifaaGreatDoor.Snd
structure Cli where
  origin : Int
  mtu : Int
  push : Nat
  known : List Rnd
  pending : List Rnd
  opn : List Upd
def Cli.new (j : Jnl) (origin mtu push : Int) : Cli := ⟨origin, mtu, (min (max push 1) 16).toNat, [], behind 0 j.l, []⟩
@[irreducible] def Cli.updE (m : Cli) (u : Upd) : Nat :=
  if mayU u ≠ 0 then mayU u else if fits [u] m.mtu = false then 3 else if fits (m.opn ++ [u]) m.mtu = false then 7 else 0
def Cli.upd (m : Cli) (u : Upd) : Cli := if m.updE u = 0 then { m with opn := m.opn ++ [u] } else m
@[irreducible] def Cli.pushE (m : Cli) (j : Jnl) : Nat :=
  if m.opn.length = 0 then 11 else if m.pending.length ≥ m.push then 7 else j.addE m.opn
def Cli.pushR (m : Cli) (j : Jnl) : Rnd := if m.pushE j = 0 then j.next m.opn else ⟨0, 0, []⟩
def Cli.pushC (m : Cli) (j : Jnl) : Cli := if m.pushE j = 0 then { m with opn := [], pending := m.pending ++ [j.next m.opn] } else m
def Cli.pushJ (m : Cli) (j : Jnl) : Jnl := if m.pushE j = 0 then j.add m.opn else j
@[irreducible] def Cli.takE (m : Cli) (r : Rnd) : Nat :=
  if r.o = m.origin then (match m.pending with | [] => 10 | x :: _ => if x.n = r.n then 0 else 10) else 0
def Cli.take (m : Cli) (r : Rnd) : Cli := if m.takE r = 0 then { m with known := m.known ++ [r], pending := if r.o = m.origin then m.pending.tail else m.pending } else m
def Cli.resume (m : Cli) (j : Jnl) : Cli := { m with known := [], opn := [], pending := behind 0 j.l }
abbrev cliO (jp : Nat) (m : Cli) (sk sp so : Value) : Obj := .cells #[.pointer (some ⟨jp, 0, none⟩), .int .i64 m.origin, .int .i64 m.mtu, .int .i64 m.push, sk, sp, so] 168
def IsC (M : Mem) (p jp : Nat) (m : Cli) (H : Chunk) : Prop :=
  ∃ xs sk Hk ys sp Hp so, Own 48 encRV sk xs Hk ∧ Rvs M xs m.known ∧ Own 48 encRV sp ys Hp ∧ Rvs M ys m.pending ∧ Rd M encU so m.opn ∧ H = (p, cliO jp m sk sp so) :: (Hk ++ Hp)
theorem IsC.mono {M M' : Mem} {p jp : Nat} {m : Cli} {H : Chunk} (h : IsC M p jp m H) (hm : Mle M M') : IsC M' p jp m H := by
  obtain ⟨xs, sk, Hk, ys, sp, Hp, so, h1, h2, h3, h4, h5, h6⟩ := h
  exact ⟨xs, sk, Hk, ys, sp, Hp, so, h1, h2.mono hm, h3, h4.mono hm, h5.mono hm, h6⟩
section
variable {M : Mem} {w : World} {Ls : List Chunk}
theorem cnew_c {jp : Nat} {j : Jnl} {H : Chunk} (origin mtu push : Int) (hl : j.l.length ≤ 137438953472) (hb : IsJ M jp j H) (hS : St M w (H :: Ls)) :
    CallsR Tryz.prog 79 [.pointer (some ⟨jp, 0, none⟩), .int .i64 origin, .int .i64 mtu, .int .i64 push].toArray w fun v w' => ∃ M' p Hc, v = .pointer (some ⟨p, 0, none⟩) ∧ Mle M M' ∧ IsC M' p jp (Cli.new j origin mtu push) Hc ∧ IsJ M' jp j H ∧ St M' w' (Hc :: H :: Ls) := by
  refine calls_of (c := _) (rs := _) (n := 19) Tryz.func79 rfl rfl rfl rfl rfl (zQ (zR (zA rfl rfl (zE (zQ (zR (zM rfl rfl (zM rfl rfl (zM rfl rfl (zM rfl rfl (wl (y_max rfl rfl) rfl (wl ((y_min rfl rfl).val (u := .int .i64 ((min (max push 1) 16).toNat : Nat)) (congrArg (Value.int .i64) (by omega))) rfl (zM rfl rfl (wl_call (.cons rfl (.cons rfl .nil)) (jfrom_c 0 hl hb hS) rfl ?_))))))))))))))
  rintro v w ⟨M1, ys, Hp, hM, hoy, hry, hb1, hS⟩
  obtain ⟨ya, yc, rfl⟩ := hoy.slice
  refine wl (y_build (is := [0, 1, 2, 3, 5]) (xs := [_, _, _, _, _]) (out := [_, _, _, _, _, _, _]) plc_168 z_168 (.cons rfl (.cons rfl (.cons rfl (.cons rfl (.cons rfl .nil))))) rfl) rfl (a_box rfl hS rfl fun b18 w hS => zA rfl rfl (zE (wc_ret (wret (vs := [_]) (.tmp rfl .nil) ?_))))
  exact ⟨M1, _, _, rfl, hM, ⟨[], .slice none 0 0, [], ys, _, Hp, .slice none 0 0, .nil, .nil, hoy, hry, .nil, rfl⟩, hb1, hS.cons⟩
theorem copies_c (l : List Rnd) (xs : List RV) (s : Value) {Hx : Chunk} (hl : l.length ≤ 137438953472) (hx : Own 48 encRV s xs Hx) (hr : Rvs M xs l) (hS : St M w (Hx :: Ls)) :
    CallsR Tryz.prog 117 [s].toArray w fun v w' => ∃ M' ys H', Mle M M' ∧ Own 48 encRV v ys H' ∧ Rvs M' ys l ∧ St M' w' (H' :: Hx :: Ls) := by
  have hlen := hr.len
  obtain ⟨sa, sc, rfl⟩ := hx.slice
  refine calls_of (c := _) (rs := _) (n := 19) Tryz.func117 rfl rfl rfl rfl rfl (zQ (zR (zA rfl rfl (zE (zQ (zR (zA rfl rfl (zE (zQ (zQ (zR (zM rfl rfl (wl (y_len_sl Tryz.underlying32 rfl) rfl (zM rfl rfl (zE (zB (wc_loop (α := Nat × Value × Chunk × Mem × List RV) (fun ⟨i, s, H1, M1, ys⟩ => [(3, s), (6, .slice sa xs.length sc), (7, .int .i64 xs.length), (8, .int .i64 i)]) (fun ⟨i, s, H1, M1, ys⟩ w => i ≤ xs.length ∧ Mle M M1 ∧ Own 48 encRV s ys H1 ∧ ys.length ≤ i ∧ Rvs M1 ys (l.take i) ∧ St M1 w (H1 :: Hx :: Ls)) (fun ⟨i, _, _, _, _⟩ => xs.length - i) (0, .slice none 0 0, [], M, []) (sub_cons rfl (sub_cons rfl (sub_cons rfl (sub_cons rfl sub_nil)))) ⟨by omega, Mle.refl _, .nil, by simp, .nil, St.nil hS⟩ ?_)))))))))))))))))
  clear hS
  rintro ⟨i, s, H1, M1, ys⟩ w ⟨hi, hM, hoy, hyl, hry, hS⟩
  refine zQ (zR (wl (y_lss rfl rfl) rfl (zE (zQ (wc_if rfl (fun hc9 => ?_) (fun hc9 => ?_))))))
  · try simp only [zZ] at hc9
    refine zK (zQ (zB (zQ ?_)))
    have hi' : i < xs.length := by omega
    obtain ⟨r, hri⟩ : ∃ r, l[i]? = some r := ⟨_, List.getElem?_eq_getElem (by omega)⟩
    obtain ⟨x, hx', hxr⟩ := (hr.mono hM).at hri
    obtain ⟨bb, off, c', hse, hce⟩ := (hx.holds (hS.pull Hx)).at hx'
    simp only [Value.slice.injEq] at hse
    have hSk := hS
    obtain ⟨rfl, _, rfl⟩ := hse
    replace hS := hSk
    obtain ⟨ya, yc, rfl⟩ := hoy.slice
    have htk : l.take (i + 1) = l.take i ++ [r] := by rw [List.take_add_one, hri]; rfl
    refine zR (wl (y_ixa_sl Tryz.underlying32 sz_48 rfl rfl (by omega) (by omega)) rfl (wl ((y_loadS st_48 sz_48 rfl (vs := encRV.f x) hce rfl).val hxr.val) rfl (a_alloc z_48 hS rfl fun b5 w hS => a_storeS (vs := [_, _, _]) sz_48 rfl rfl rfl rfl hS (Nat.le_of_ble_eq_true rfl) fun w hS => zE (zR (zM rfl rfl (wl (y_loadS st_48 sz_48 rfl (hS.cells (vs := [_, _, _]) rfl) rfl) rfl (wl_call (.cons rfl .nil) (rcopy_c r x.s hxr.2.2.2 hxr.2.2.1 hS) rfl ?_)))))))
    rintro _ w ⟨M', s', rfl, hM', hs', hS⟩
    obtain ⟨sa', sc', rfl⟩ := (hs'.holds hS).slice
    refine a_bslice encRV [⟨r.o, r.n, sa', r.ups.length, sc'⟩] Tryz.underlying32 sz_48 z_48 rfl (.cons rfl .nil) rfl rfl rfl (by decide) hS rfl fun u Hu w hou hS => a_append Tryz.underlying32 Tryz.underlying32 sz_48 z_48 rfl by_48 (by decide) rfl rfl hoy (hou.holds hS) hS (by simp; omega) rfl fun s1 H2 w ho1 hS => ?_
    have hry2 : Rvs M' (ys ++ [⟨r.o, r.n, sa', r.ups.length, sc'⟩]) (l.take i ++ [r]) := (hry.mono hM').append (.cons ⟨rfl, rfl, hs', hxr.2.2.2⟩ .nil)
    rw [← htk] at hry2
    refine zA rfl rfl (zE (zR (wl (y_add rfl rfl (w64 (by omega) (by omega))) rfl (zM rfl rfl (zE ?_)))))
    exact ⟨(i + 1, _, H2, M', _), by simp only; omega, sub_cons rfl (sub_cons rfl (sub_cons rfl (sub_cons rfl sub_nil))), by omega, hM.trans hM', ho1, by simp; omega, hry2, hS.keep⟩
  · try simp only [zZ] at hc9
    obtain rfl : i = xs.length := by omega
    rw [hlen, List.take_length] at hry
    refine wc_exit (zQ (zR (zM rfl rfl (zA rfl rfl (zE (wc_ret (wret (vs := [_]) (.tmp rfl .nil) ?_)))))))
    exact ⟨M1, ys, H1, hM, hoy, hry, hS⟩
theorem cknown_c {p jp : Nat} {m : Cli} {H : Chunk} (hl : m.known.length ≤ 137438953472) (hb : IsC M p jp m H) (hS : St M w (H :: Ls)) :
    CallsR Tryz.prog 50 [.pointer (some ⟨p, 0, none⟩)].toArray w fun v w' => ∃ M' ys H', Mle M M' ∧ Own 48 encRV v ys H' ∧ Rvs M' ys m.known ∧ IsC M' p jp m H ∧ St M' w' (H' :: H :: Ls) := by
  have hb0 := hb
  obtain ⟨xs, sk, Hk, ys, sp, Hp, so, h1, h2, h3, h4, h5, rfl⟩ := hb
  replace hS := hS.un2
  refine calls_of (c := _) (rs := _) (n := 8) Tryz.func50 rfl rfl rfl rfl rfl (zQ (zR (zA rfl rfl (zE (zQ (zR (zM rfl rfl (zN rfl rfl (zF fl_168_4 rfl rfl (wl (y_load pl_32 rfl (hS.cell (v := sk) rfl)) rfl (wl_call (.cons rfl .nil) (copies_c m.known xs sk hl h1 h2 (hS.pull Hk)) rfl ?_)))))))))))
  rintro v w ⟨M', zs, Hz, hM, ho, hr, hS⟩
  refine zA rfl rfl (zE (wc_ret (wret (vs := [_]) (.tmp rfl .nil) ?_)))
  exact ⟨M', zs, Hz, hM, ho, hr, hb0.mono hM, hS.keep⟩
theorem cpending_c {p jp : Nat} {m : Cli} {H : Chunk} (hl : m.pending.length ≤ 137438953472) (hb : IsC M p jp m H) (hS : St M w (H :: Ls)) :
    CallsR Tryz.prog 51 [.pointer (some ⟨p, 0, none⟩)].toArray w fun v w' => ∃ M' ys H', Mle M M' ∧ Own 48 encRV v ys H' ∧ Rvs M' ys m.pending ∧ IsC M' p jp m H ∧ St M' w' (H' :: H :: Ls) := by
  have hb0 := hb
  obtain ⟨xs, sk, Hk, ys, sp, Hp, so, h1, h2, h3, h4, h5, rfl⟩ := hb
  replace hS := hS.un2
  refine calls_of (c := _) (rs := _) (n := 8) Tryz.func51 rfl rfl rfl rfl rfl (zQ (zR (zA rfl rfl (zE (zQ (zR (zM rfl rfl (zN rfl rfl (zF fl_168_5 rfl rfl (wl (y_load pl_32 rfl (hS.cell (v := sp) rfl)) rfl (wl_call (.cons rfl .nil) (copies_c m.pending ys sp hl h3 h4 (hS.pull Hp)) rfl ?_)))))))))))
  rintro v w ⟨M', zs, Hz, hM, ho, hr, hS⟩
  refine zA rfl rfl (zE (wc_ret (wret (vs := [_]) (.tmp rfl .nil) ?_)))
  exact ⟨M', zs, Hz, hM, ho, hr, hb0.mono hM, hS.keep⟩
theorem copen_c {p jp : Nat} {m : Cli} {H : Chunk} (hl : m.opn.length ≤ 137438953472) (hb : IsC M p jp m H) (hS : St M w (H :: Ls)) :
    CallsR Tryz.prog 52 [.pointer (some ⟨p, 0, none⟩)].toArray w fun v w' => ∃ H', Own 59 encU v m.opn H' ∧ St M w' (H' :: H :: Ls) := by
  obtain ⟨xs, sk, Hk, ys, sp, Hp, so, h1, h2, h3, h4, h5, rfl⟩ := hb
  replace hS := hS.un2
  refine calls_of (c := _) (rs := _) (n := 9) Tryz.func52 rfl rfl rfl rfl rfl (zQ (zR (zA rfl rfl (zE (zQ (zR (a_bslice encU [] (vs := []) (ps := []) Tryz.underlying46 sz_59 z_59 rfl .nil rfl rfl rfl (by decide) hS rfl fun u Hu w hou hS => zM rfl rfl (zN rfl rfl (zF fl_168_6 rfl rfl (wl (y_load pl_46 rfl (hS.cell (v := so) rfl)) rfl (a_append Tryz.underlying46 Tryz.underlying46 sz_59 z_59 rfl by_59 (by decide) rfl rfl hou (h5.holds hS) hS (by simp; omega) rfl fun s1 H2 w ho1 hS => ?_)))))))))))
  rw [List.nil_append] at ho1
  refine zA rfl rfl (zE (wc_ret (wret (vs := [_]) (.tmp rfl .nil) ?_)))
  exact ⟨_, ho1, hS.keep⟩
theorem cconf_c {p jp : Nat} {m : Cli} {H : Chunk} (hb : IsC M p jp m H) (hS : St M w (H :: Ls)) :
    CallsR Tryz.prog 107 [.pointer (some ⟨p, 0, none⟩)].toArray w fun v w' => v = .bool (decide (m.pending = [] ∧ m.opn = [])) ∧ St M w' (H :: Ls) := by
  obtain ⟨xs, sk, Hk, ys, sp, Hp, so, h1, h2, h3, h4, h5, rfl⟩ := hb
  have hSH := hS
  replace hS := hS.un2
  have e4 := h4.len
  obtain ⟨pa, pc, rfl⟩ := h3.slice
  obtain ⟨oa, oc, rfl⟩ := (h5.holds hS).slice
  have fin : ∀ b : Bool, (b = true ↔ (ys.length : Int) = 0 ∧ (m.opn.length : Int) = 0) → b = decide (m.pending = [] ∧ m.opn = []) := by
    intro b hb
    rw [Bool.eq_iff_iff, hb, decide_eq_true_iff, ← List.length_eq_zero_iff, ← List.length_eq_zero_iff]
    omega
  refine calls_of (c := _) (rs := _) (n := 17) Tryz.func107 rfl rfl rfl rfl rfl (zQ (zR (zA rfl rfl (zE (zQ (zR (zM rfl rfl (zN rfl rfl (zF fl_168_5 rfl rfl (wl (y_load pl_32 rfl (hS.cell (v := .slice pa ys.length pc) rfl)) rfl (wl (y_len_sl Tryz.underlying32 rfl) rfl (wl (y_eql rfl rfl) rfl (zM rfl rfl (wl_cases (s := 9) rfl (fun hg9 => ?_) (fun hg9 => ?_)))))))))))))))
  · try simp only [zZ] at hg9
    refine zI rfl rfl (zM rfl rfl (zI rfl rfl (zN rfl rfl (zI rfl rfl (zF fl_168_6 rfl rfl (zI rfl rfl (wl (y_load pl_46 rfl (hS.cell (v := .slice oa m.opn.length oc) rfl)) rfl (zI rfl rfl (wl (y_len_sl Tryz.underlying46 rfl) rfl (zI rfl rfl (wl (y_eql rfl rfl) rfl (wl (y_pickT rfl rfl) rfl (zA rfl rfl (zE (wc_ret (wret (vs := [_]) (.tmp rfl .nil) ?_))))))))))))))))
    exact ⟨congrArg Value.bool (fin _ (by first | (rw [decide_eq_true_iff]; omega) | (simp only [Bool.false_eq_true, false_iff]; omega))), hS.keep⟩
  · try simp only [zZ] at hg9
    refine zO rfl rfl rfl rfl (zO rfl rfl rfl rfl (zO rfl rfl rfl rfl (zO rfl rfl rfl rfl (zO rfl rfl rfl rfl (zO rfl rfl rfl rfl (wl (y_pickF rfl rfl) rfl (zA rfl rfl (zE (wc_ret (wret (vs := [_]) (.tmp rfl .nil) ?_))))))))))
    exact ⟨congrArg Value.bool (fin _ (by first | (rw [decide_eq_true_iff]; omega) | (simp only [Bool.false_eq_true, false_iff]; omega))), hS.keep⟩
theorem cseen_c {p jp : Nat} {m : Cli} {H : Chunk} (hl : m.known.length + m.pending.length ≤ 137438953472) (hb : IsC M p jp m H) (hS : St M w (H :: Ls)) :
    CallsR Tryz.prog 144 [.pointer (some ⟨p, 0, none⟩)].toArray w fun v w' => ∃ ys H', Own 48 encRV v ys H' ∧ Rvs M ys (m.known ++ m.pending) ∧ St M w' (H' :: H :: Ls) := by
  obtain ⟨xs, sk, Hk, ys, sp, Hp, so, h1, h2, h3, h4, h5, rfl⟩ := hb
  replace hS := hS.un2
  have e2 := h2.len
  have e4 := h4.len
  refine calls_of (c := _) (rs := _) (n := 14) Tryz.func144 rfl rfl rfl rfl rfl (zQ (zR (zA rfl rfl (zE (zQ (zW hS (fun w => w.cell? ⟨p, 4, none⟩ = some sk ∧ w.cell? ⟨p, 5, none⟩ = some sp) [11] wide_ rfl rfl fun w hS => zP (i := 1) 2 rfl rfl (by kernel_rfl) (fun _ => y_move rfl) (zP (i := 2) 6 rfl rfl (by kernel_rfl) (fun w => y_nil rfl) (zP (i := 3) 14 rfl rfl (by kernel_rfl) (fun w => y_fld fl_168_4 rfl) (zP (i := 6) 78 rfl rfl (by kernel_rfl) (fun _ => y_move rfl) (zP (i := 7) 206 rfl rfl (by kernel_rfl) (fun w => y_nil rfl) (zP (i := 8) 462 rfl rfl (by kernel_rfl) (fun w => y_fld fl_168_5 rfl) (zD (i := 4) 478 rfl rfl (by kernel_rfl) ⟨hS.cell rfl, hS.cell rfl⟩ (fun w hS => y_load pl_32 rfl hS.1) (zD (i := 9) 990 rfl rfl (by kernel_rfl) ⟨hS.cell rfl, hS.cell rfl⟩ (fun w hS => y_load pl_32 rfl hS.2) (zU (i := 0) 991 rfl (by kernel_rfl) (a_bslice encRV [] (vs := []) (ps := []) Tryz.underlying32 sz_48 z_48 rfl .nil rfl rfl rfl (by decide) hS rfl fun u Hu w hou hS => zE ⟨fun _ _ => ⟨hS.cell rfl, hS.cell rfl⟩, zU (i := 5) 1023 rfl (by kernel_rfl) (a_append Tryz.underlying32 Tryz.underlying32 sz_48 z_48 rfl by_48 (by decide) rfl rfl hou (h1.holds (hS.pull Hk)) hS (by simp; omega) rfl fun s1 H1 w ho1 hS => ?_)⟩)))))))))))))))
  rw [List.nil_append] at ho1
  refine zE ⟨fun _ _ => ⟨hS.cell rfl, hS.cell rfl⟩, zU (i := 10) 2047 rfl (by kernel_rfl) (a_append Tryz.underlying32 Tryz.underlying32 sz_48 z_48 rfl by_48 (by decide) rfl rfl ho1 (h3.holds (hS.pull Hp)) hS (by omega) rfl fun s2 H2 w ho2 hS => zE ⟨fun _ _ => ⟨hS.cell rfl, hS.cell rfl⟩, zP (i := 11) 4095 rfl rfl (by kernel_rfl) (fun w => y_assign rfl) (zH (by kernel_rfl) (wc_ret (wret (vs := [_]) (.tmp rfl .nil) ?_)))⟩)⟩
  exact ⟨_, _, ho2, h2.append h4, hS.keep⟩
end
end Go.Proofs.YtndahppmjdbifaaGreatDoor.Cli
set_option linter.unusedVariables false
set_option linter.unusedSimpArgs false
namespace Go.Proofs.YtndahppmjdbifaaGreatDoor.Cli
open Go Go.Proofs Go.Proofs.YtndahppmjdbifaaGreatDoor.Eng Go.Proofs.YtndahppmjdbifaaGreatDoor.Pre Go.Proofs.YtndahppmjdbifaaGreatDoor.Val Go.Proofs.YtndahppmjdbifaaGreatDoor.Rou Go.Proofs.YtndahppmjdbifaaGreatDoor.Jnl Go.Proofs.YtndahppmjdbifaaGreatDoor.Snd
section
variable {M : Mem} {w : World} {Ls : List Chunk}
theorem cupd_c (hG : Bits M) (u : Upd) {p jp : Nat} {m : Cli} {H : Chunk} (hmt : 0 ≤ m.mtu ∧ m.mtu ≤ 1400) (hl : m.opn.length ≤ 13743895) (hb : IsC M p jp m H) (hS : St M w (H :: Ls)) :
    CallsR Tryz.prog 88 [.pointer (some ⟨p, 0, none⟩), uv u].toArray w fun v w' => ∃ M' H', Mle M M' ∧ v = .int .i64 (m.updE u) ∧ IsC M' p jp (m.upd u) H' ∧ St M' w' (H' :: Ls) := by
  have hb0 := hb
  obtain ⟨xs, sk, Hk, ys, sp, Hp, so, h1, h2, h3, h4, h5, rfl⟩ := hb
  replace hS := hS.un2
  obtain ⟨oa, oc, rfl⟩ := (h5.holds hS).slice
  refine calls_of (c := _) (rs := _) (n := 40) Tryz.func88 rfl rfl rfl rfl rfl (zQ (zR (a_box rfl hS rfl fun b3 w hS => zA rfl rfl (zE (zQ (zQ (zR (wl ((y_loadS st_59 sz_59 rfl (vs := encU.f u) (hS.cells rfl) rfl).val (show _ = uv u from rfl)) rfl (wl_call (.cons rfl .nil) (may_c u hS) rfl ?_)))))))))
  rintro _ w ⟨rfl, hS⟩
  refine zA rfl rfl (zE (zQ (zR (zM rfl rfl (wl (y_neq rfl rfl) rfl (zE (wc_if rfl (fun hc10 => ?_) (fun hc10 => ?_))))))))
  · try simp only [zZ] at hc10
    have he : m.updE u = mayU u := by unfold Cli.updE; rw [if_pos (by omega)]
    have hq : m.upd u = m := by unfold Cli.upd; rw [if_neg (by omega)]
    rw [he, hq]
    refine zQ (zR (zM rfl rfl (zA rfl rfl (zE (wc_ret (wret (vs := [_]) (.tmp rfl .nil) ?_))))))
    first
    | exact ⟨M, _, Mle.refl _, rfl, hb0, hS.keep⟩
    | exact ⟨M1, _, hM1, rfl, hb0.mono hM1, hS.keep⟩
    | exact ⟨M2, _, hM1.trans hM2, rfl, hb0.mono (hM1.trans hM2), hS.keep⟩
    | (simp only [zL, cells_agg, setCells] at hS
       exact ⟨M2, _, hM1.trans hM2, rfl, ⟨xs, sk, Hk, ys, sp, Hp, _, h1, h2.mono (hM1.trans hM2), h3, h4.mono (hM1.trans hM2), hr5, rfl⟩, hS.keep⟩)
  · try simp only [zZ] at hc10
    have hm0 : mayU u = 0 := by omega
    refine zK (zQ (zQ (zW hS (fun w => CellsAt w b3 0 (encU.f u) ∧ w.cell? ⟨p, 2, none⟩ = some (.int .i64 m.mtu)) [6] wide_ rfl rfl fun w hS => zP (i := 2) 4 rfl rfl (by kernel_rfl) (fun _ => y_move rfl) (zP (i := 3) 12 rfl rfl (by kernel_rfl) (fun w => y_nil rfl) (zP (i := 4) 28 rfl rfl (by kernel_rfl) (fun w => y_fld fl_168_2 rfl) (zD (i := 0) 29 rfl rfl (by kernel_rfl) ⟨hS.cells rfl, hS.cell rfl⟩ (fun w hS => (y_loadS st_59 sz_59 rfl hS.1 rfl).val (show _ = uv u from rfl)) (zD (i := 5) 61 rfl rfl (by kernel_rfl) ⟨hS.cells rfl, hS.cell rfl⟩ (fun w hS => y_load pl_3 rfl hS.2) (zU (i := 1) 63 rfl (by kernel_rfl) (a_bslice encU [u] Tryz.underlying46 sz_59 z_59 rfl (.cons rfl .nil) rfl rfl rfl (by decide) hS rfl fun u1 Hu w hou hS => ?_)))))))))
    obtain ⟨M1, hM1, hHu, hS⟩ := hS.freeze
    have hru := hou.rd hHu
    obtain ⟨ua, uc, rfl⟩ := (hru.holds hS).slice
    refine zE ⟨fun _ _ => ⟨hS.cells rfl, hS.cell rfl⟩, zU (i := 6) 127 rfl (by kernel_rfl) (wl_call (.cons rfl (.cons rfl .nil)) (fits_c (hG.mono hM1) [u] m.mtu _ (by omega) hru hS) rfl ?_)⟩
    rintro _ w ⟨rfl, hS⟩
    refine zE ⟨fun _ _ => ⟨hS.cells rfl, hS.cell rfl⟩, zP (i := 7) 255 rfl rfl (by kernel_rfl) (fun w => y_not rfl) (zH (by kernel_rfl) (wc_if rfl (fun hc19 => ?_) (fun hc19 => ?_)))⟩
    · try simp only [zZ] at hc19
      have he : m.updE u = 3 := by unfold Cli.updE; rw [if_neg (by omega), if_pos (by simpa using hc19)]
      have hq : m.upd u = m := by unfold Cli.upd; rw [if_neg (by omega)]
      rw [he, hq]
      refine zQ (zR (zA rfl rfl (zE (wc_ret (wret (vs := [_]) (.tmp rfl .nil) ?_)))))
      first
      | exact ⟨M, _, Mle.refl _, rfl, hb0, hS.keep⟩
      | exact ⟨M1, _, hM1, rfl, hb0.mono hM1, hS.keep⟩
      | exact ⟨M2, _, hM1.trans hM2, rfl, hb0.mono (hM1.trans hM2), hS.keep⟩
      | (simp only [zL, cells_agg, setCells] at hS
         exact ⟨M2, _, hM1.trans hM2, rfl, ⟨xs, sk, Hk, ys, sp, Hp, _, h1, h2.mono (hM1.trans hM2), h3, h4.mono (hM1.trans hM2), hr5, rfl⟩, hS.keep⟩)
    · try simp only [zZ] at hc19
      refine zK (zQ (zW hS (fun w => w.cell? ⟨p, 6, none⟩ = some (.slice oa m.opn.length oc) ∧ CellsAt w b3 0 (encU.f u)) [9] wide_ rfl rfl fun w hS => zP (i := 1) 2 rfl rfl (by kernel_rfl) (fun _ => y_move rfl) (zP (i := 2) 6 rfl rfl (by kernel_rfl) (fun w => y_nil rfl) (zP (i := 3) 14 rfl rfl (by kernel_rfl) (fun w => y_fld fl_168_6 rfl) (zD (i := 4) 30 rfl rfl (by kernel_rfl) ⟨hS.cell rfl, hS.cells rfl⟩ (fun w hS => y_load pl_46 rfl hS.1) (zD (i := 6) 94 rfl rfl (by kernel_rfl) ⟨hS.cell rfl, hS.cells rfl⟩ (fun w hS => (y_loadS st_59 sz_59 rfl hS.2 rfl).val (show _ = uv u from rfl)) (dr_do2 (i := 0) (j := 7) (lb 10 95) (lb 10 222) rfl rfl (by kernel_rfl) ?_ ?_)))))))
      · skip
        refine a_bslice encU [] (vs := []) (ps := []) Tryz.underlying46 sz_59 z_59 rfl .nil rfl rfl rfl (by decide) hS rfl fun u2 H2 w ho2 hS => zE ⟨fun _ _ => ⟨hS.cell rfl, hS.cells rfl⟩, dr_do2 (i := 5) (j := 7) (lb 10 127) (lb 10 223) rfl rfl (by kernel_rfl) ?_ ?_⟩
        · skip
          refine a_append Tryz.underlying46 Tryz.underlying46 sz_59 z_59 rfl by_59 (by decide) rfl rfl ho2 ((h5.mono hM1).holds hS) hS (by simp; omega) rfl fun s3 H3 w ho3 hS => ?_
          rw [List.nil_append] at ho3
          refine zE ⟨fun _ _ => ⟨hS.cell rfl, hS.cells rfl⟩, zU (i := 7) 255 rfl (by kernel_rfl) (a_bslice encU [u] Tryz.underlying46 sz_59 z_59 rfl (.cons rfl .nil) rfl rfl rfl (by decide) hS rfl fun u4 H4 w ho4 hS => zE ⟨fun _ _ => ⟨hS.cell rfl, hS.cells rfl⟩, zU (i := 8) 511 rfl (by kernel_rfl) (a_append Tryz.underlying46 Tryz.underlying46 sz_59 z_59 rfl by_59 (by decide) rfl rfl ho3 (ho4.holds (hS.pull H4)) hS (by simp; omega) rfl fun s5 H5 w ho5 hS => zE ⟨fun _ _ => ⟨hS.cell rfl, hS.cells rfl⟩, zP (i := 9) 1023 rfl rfl (by kernel_rfl) (fun w => y_assign rfl) (zH (by kernel_rfl) ?_)⟩)⟩)⟩
          obtain ⟨M2, hM2, hH5, hS⟩ := hS.freeze
          have hr5 := ho5.rd hH5
          obtain ⟨ma, mc, rfl⟩ := (hr5.holds hS).slice
          refine zQ (zQ (zR (zM rfl rfl (zM rfl rfl (zN rfl rfl (zF fl_168_2 rfl rfl (wl (y_load pl_3 rfl (hS.cell (v := .int .i64 m.mtu) rfl)) rfl (wl_call (.cons rfl (.cons rfl .nil)) (fits_c ((hG.mono hM1).mono hM2) (m.opn ++ [u]) m.mtu _ (by omega) hr5 hS) rfl ?_))))))))
          rintro _ w ⟨rfl, hS⟩
          refine wl (y_not rfl) rfl (zE (wc_if rfl (fun hc35 => ?_) (fun hc35 => ?_)))
          · try simp only [zZ] at hc35
            have he : m.updE u = 7 := by unfold Cli.updE; rw [if_neg (by omega), if_neg (by simpa using hc19), if_pos (by simpa using hc35)]
            have hq : m.upd u = m := by unfold Cli.upd; rw [if_neg (by omega)]
            rw [he, hq]
            refine zQ (zR (zA rfl rfl (zE (wc_ret (wret (vs := [_]) (.tmp rfl .nil) ?_)))))
            first
            | exact ⟨M, _, Mle.refl _, rfl, hb0, hS.keep⟩
            | exact ⟨M1, _, hM1, rfl, hb0.mono hM1, hS.keep⟩
            | exact ⟨M2, _, hM1.trans hM2, rfl, hb0.mono (hM1.trans hM2), hS.keep⟩
            | (simp only [zL, cells_agg, setCells] at hS
               exact ⟨M2, _, hM1.trans hM2, rfl, ⟨xs, sk, Hk, ys, sp, Hp, _, h1, h2.mono (hM1.trans hM2), h3, h4.mono (hM1.trans hM2), hr5, rfl⟩, hS.keep⟩)
          · try simp only [zZ] at hc35
            have he : m.updE u = 0 := by unfold Cli.updE; rw [if_neg (by omega), if_neg (by simpa using hc19), if_neg (by simpa using hc35)]
            have hq : m.upd u = { m with opn := m.opn ++ [u] } := by unfold Cli.upd; rw [if_pos he]
            rw [he, hq]
            refine zK (zQ (zR (zM rfl rfl (zM rfl rfl (zN rfl rfl (zF fl_168_6 rfl rfl (a_store sz_46 rfl rfl rfl hS (Nat.le_of_ble_eq_true rfl) fun w hS => zE (zQ (zR (zA rfl rfl (zE (wc_ret (wret (vs := [_]) (.tmp rfl .nil) ?_)))))))))))))
            first
            | exact ⟨M, _, Mle.refl _, rfl, hb0, hS.keep⟩
            | exact ⟨M1, _, hM1, rfl, hb0.mono hM1, hS.keep⟩
            | exact ⟨M2, _, hM1.trans hM2, rfl, hb0.mono (hM1.trans hM2), hS.keep⟩
            | (simp only [zL, cells_agg, setCells] at hS
               exact ⟨M2, _, hM1.trans hM2, rfl, ⟨xs, sk, Hk, ys, sp, Hp, _, h1, h2.mono (hM1.trans hM2), h3, h4.mono (hM1.trans hM2), hr5, rfl⟩, hS.keep⟩)
        · skip
          refine a_bslice encU [u] Tryz.underlying46 sz_59 z_59 rfl (.cons rfl .nil) rfl rfl rfl (by decide) hS rfl fun u4 H4 w ho4 hS => zE ⟨fun _ _ => ⟨hS.cell rfl, hS.cells rfl⟩, zU (i := 5) 255 rfl (by kernel_rfl) (a_append Tryz.underlying46 Tryz.underlying46 sz_59 z_59 rfl by_59 (by decide) rfl rfl ho2 ((h5.mono hM1).holds hS) hS (by simp; omega) rfl fun s3 H3 w ho3 hS => ?_)⟩
          rw [List.nil_append] at ho3
          refine zE ⟨fun _ _ => ⟨hS.cell rfl, hS.cells rfl⟩, zU (i := 8) 511 rfl (by kernel_rfl) (a_append Tryz.underlying46 Tryz.underlying46 sz_59 z_59 rfl by_59 (by decide) rfl rfl ho3 (ho4.holds (hS.pull H4)) hS (by simp; omega) rfl fun s5 H5 w ho5 hS => zE ⟨fun _ _ => ⟨hS.cell rfl, hS.cells rfl⟩, zP (i := 9) 1023 rfl rfl (by kernel_rfl) (fun w => y_assign rfl) (zH (by kernel_rfl) ?_)⟩)⟩
          obtain ⟨M2, hM2, hH5, hS⟩ := hS.freeze
          have hr5 := ho5.rd hH5
          obtain ⟨ma, mc, rfl⟩ := (hr5.holds hS).slice
          refine zQ (zQ (zR (zM rfl rfl (zM rfl rfl (zN rfl rfl (zF fl_168_2 rfl rfl (wl (y_load pl_3 rfl (hS.cell (v := .int .i64 m.mtu) rfl)) rfl (wl_call (.cons rfl (.cons rfl .nil)) (fits_c ((hG.mono hM1).mono hM2) (m.opn ++ [u]) m.mtu _ (by omega) hr5 hS) rfl ?_))))))))
          rintro _ w ⟨rfl, hS⟩
          refine wl (y_not rfl) rfl (zE (wc_if rfl (fun hc35 => ?_) (fun hc35 => ?_)))
          · try simp only [zZ] at hc35
            have he : m.updE u = 7 := by unfold Cli.updE; rw [if_neg (by omega), if_neg (by simpa using hc19), if_pos (by simpa using hc35)]
            have hq : m.upd u = m := by unfold Cli.upd; rw [if_neg (by omega)]
            rw [he, hq]
            refine zQ (zR (zA rfl rfl (zE (wc_ret (wret (vs := [_]) (.tmp rfl .nil) ?_)))))
            first
            | exact ⟨M, _, Mle.refl _, rfl, hb0, hS.keep⟩
            | exact ⟨M1, _, hM1, rfl, hb0.mono hM1, hS.keep⟩
            | exact ⟨M2, _, hM1.trans hM2, rfl, hb0.mono (hM1.trans hM2), hS.keep⟩
            | (simp only [zL, cells_agg, setCells] at hS
               exact ⟨M2, _, hM1.trans hM2, rfl, ⟨xs, sk, Hk, ys, sp, Hp, _, h1, h2.mono (hM1.trans hM2), h3, h4.mono (hM1.trans hM2), hr5, rfl⟩, hS.keep⟩)
          · try simp only [zZ] at hc35
            have he : m.updE u = 0 := by unfold Cli.updE; rw [if_neg (by omega), if_neg (by simpa using hc19), if_neg (by simpa using hc35)]
            have hq : m.upd u = { m with opn := m.opn ++ [u] } := by unfold Cli.upd; rw [if_pos he]
            rw [he, hq]
            refine zK (zQ (zR (zM rfl rfl (zM rfl rfl (zN rfl rfl (zF fl_168_6 rfl rfl (a_store sz_46 rfl rfl rfl hS (Nat.le_of_ble_eq_true rfl) fun w hS => zE (zQ (zR (zA rfl rfl (zE (wc_ret (wret (vs := [_]) (.tmp rfl .nil) ?_)))))))))))))
            first
            | exact ⟨M, _, Mle.refl _, rfl, hb0, hS.keep⟩
            | exact ⟨M1, _, hM1, rfl, hb0.mono hM1, hS.keep⟩
            | exact ⟨M2, _, hM1.trans hM2, rfl, hb0.mono (hM1.trans hM2), hS.keep⟩
            | (simp only [zL, cells_agg, setCells] at hS
               exact ⟨M2, _, hM1.trans hM2, rfl, ⟨xs, sk, Hk, ys, sp, Hp, _, h1, h2.mono (hM1.trans hM2), h3, h4.mono (hM1.trans hM2), hr5, rfl⟩, hS.keep⟩)
      · skip
        refine a_bslice encU [u] Tryz.underlying46 sz_59 z_59 rfl (.cons rfl .nil) rfl rfl rfl (by decide) hS rfl fun u4 H4 w ho4 hS => zE ⟨fun _ _ => ⟨hS.cell rfl, hS.cells rfl⟩, zU (i := 0) 223 rfl (by kernel_rfl) (a_bslice encU [] (vs := []) (ps := []) Tryz.underlying46 sz_59 z_59 rfl .nil rfl rfl rfl (by decide) hS rfl fun u2 H2 w ho2 hS => zE ⟨fun _ _ => ⟨hS.cell rfl, hS.cells rfl⟩, zU (i := 5) 255 rfl (by kernel_rfl) (a_append Tryz.underlying46 Tryz.underlying46 sz_59 z_59 rfl by_59 (by decide) rfl rfl ho2 ((h5.mono hM1).holds hS) hS (by simp; omega) rfl fun s3 H3 w ho3 hS => ?_)⟩)⟩
        rw [List.nil_append] at ho3
        refine zE ⟨fun _ _ => ⟨hS.cell rfl, hS.cells rfl⟩, zU (i := 8) 511 rfl (by kernel_rfl) (a_append Tryz.underlying46 Tryz.underlying46 sz_59 z_59 rfl by_59 (by decide) rfl rfl ho3 (ho4.holds (hS.pull H4)) hS (by simp; omega) rfl fun s5 H5 w ho5 hS => zE ⟨fun _ _ => ⟨hS.cell rfl, hS.cells rfl⟩, zP (i := 9) 1023 rfl rfl (by kernel_rfl) (fun w => y_assign rfl) (zH (by kernel_rfl) ?_)⟩)⟩
        obtain ⟨M2, hM2, hH5, hS⟩ := hS.freeze
        have hr5 := ho5.rd hH5
        obtain ⟨ma, mc, rfl⟩ := (hr5.holds hS).slice
        refine zQ (zQ (zR (zM rfl rfl (zM rfl rfl (zN rfl rfl (zF fl_168_2 rfl rfl (wl (y_load pl_3 rfl (hS.cell (v := .int .i64 m.mtu) rfl)) rfl (wl_call (.cons rfl (.cons rfl .nil)) (fits_c ((hG.mono hM1).mono hM2) (m.opn ++ [u]) m.mtu _ (by omega) hr5 hS) rfl ?_))))))))
        rintro _ w ⟨rfl, hS⟩
        refine wl (y_not rfl) rfl (zE (wc_if rfl (fun hc35 => ?_) (fun hc35 => ?_)))
        · try simp only [zZ] at hc35
          have he : m.updE u = 7 := by unfold Cli.updE; rw [if_neg (by omega), if_neg (by simpa using hc19), if_pos (by simpa using hc35)]
          have hq : m.upd u = m := by unfold Cli.upd; rw [if_neg (by omega)]
          rw [he, hq]
          refine zQ (zR (zA rfl rfl (zE (wc_ret (wret (vs := [_]) (.tmp rfl .nil) ?_)))))
          first
          | exact ⟨M, _, Mle.refl _, rfl, hb0, hS.keep⟩
          | exact ⟨M1, _, hM1, rfl, hb0.mono hM1, hS.keep⟩
          | exact ⟨M2, _, hM1.trans hM2, rfl, hb0.mono (hM1.trans hM2), hS.keep⟩
          | (simp only [zL, cells_agg, setCells] at hS
             exact ⟨M2, _, hM1.trans hM2, rfl, ⟨xs, sk, Hk, ys, sp, Hp, _, h1, h2.mono (hM1.trans hM2), h3, h4.mono (hM1.trans hM2), hr5, rfl⟩, hS.keep⟩)
        · try simp only [zZ] at hc35
          have he : m.updE u = 0 := by unfold Cli.updE; rw [if_neg (by omega), if_neg (by simpa using hc19), if_neg (by simpa using hc35)]
          have hq : m.upd u = { m with opn := m.opn ++ [u] } := by unfold Cli.upd; rw [if_pos he]
          rw [he, hq]
          refine zK (zQ (zR (zM rfl rfl (zM rfl rfl (zN rfl rfl (zF fl_168_6 rfl rfl (a_store sz_46 rfl rfl rfl hS (Nat.le_of_ble_eq_true rfl) fun w hS => zE (zQ (zR (zA rfl rfl (zE (wc_ret (wret (vs := [_]) (.tmp rfl .nil) ?_)))))))))))))
          first
          | exact ⟨M, _, Mle.refl _, rfl, hb0, hS.keep⟩
          | exact ⟨M1, _, hM1, rfl, hb0.mono hM1, hS.keep⟩
          | exact ⟨M2, _, hM1.trans hM2, rfl, hb0.mono (hM1.trans hM2), hS.keep⟩
          | (simp only [zL, cells_agg, setCells] at hS
             exact ⟨M2, _, hM1.trans hM2, rfl, ⟨xs, sk, Hk, ys, sp, Hp, _, h1, h2.mono (hM1.trans hM2), h3, h4.mono (hM1.trans hM2), hr5, rfl⟩, hS.keep⟩)
end
end Go.Proofs.YtndahppmjdbifaaGreatDoor.Cli
set_option linter.unusedVariables false
set_option linter.unusedSimpArgs false
namespace Go.Proofs.YtndahppmjdbifaaGreatDoor.Cli
open Go Go.Proofs Go.Proofs.YtndahppmjdbifaaGreatDoor.Eng Go.Proofs.YtndahppmjdbifaaGreatDoor.Pre Go.Proofs.YtndahppmjdbifaaGreatDoor.Val Go.Proofs.YtndahppmjdbifaaGreatDoor.Rou Go.Proofs.YtndahppmjdbifaaGreatDoor.Jnl Go.Proofs.YtndahppmjdbifaaGreatDoor.Snd
section
variable {M : Mem} {w : World} {Ls : List Chunk}
theorem cpush_c {p jp : Nat} {m : Cli} {j : Jnl} {H Hj : Chunk} (hpl : m.pending.length ≤ 137438953) (hjl : j.l.length ≤ 137438953472) (hl : m.opn.length ≤ 13743895) (hb : IsC M p jp m H) (hj : IsJ M jp j Hj) (hS : St M w (H :: Hj :: Ls)) :
    CallsR Tryz.prog 91 [.pointer (some ⟨p, 0, none⟩)].toArray w fun v w' => ∃ M' s' H' Hj', Mle M M' ∧ Rd M' encU s' (m.pushR j).ups ∧ v = .tuple [rvS (m.pushR j) s', .int .i64 (m.pushE j)].toArray ∧ IsC M' p jp (m.pushC j) H' ∧ IsJ M' jp (m.pushJ j) Hj' ∧ St M' w' (H' :: Hj' :: Ls) := by
  have hb0 := hb
  obtain ⟨xs, sk, Hk, ys, sp, Hp, so, h1, h2, h3, h4, h5, rfl⟩ := hb
  have e4 := h4.len
  replace hS := hS.un2
  obtain ⟨oa, oc, rfl⟩ := (h5.holds hS).slice
  obtain ⟨pa, pc, rfl⟩ := h3.slice
  have hne : ∀ e : Nat, m.pushE j = e → e ≠ 0 → m.pushR j = ⟨0, 0, []⟩ ∧ m.pushC j = m ∧ m.pushJ j = j := by
    intro e he h0
    unfold Cli.pushR Cli.pushC Cli.pushJ
    rw [if_neg (by omega), if_neg (by omega), if_neg (by omega)]
    exact ⟨rfl, rfl, rfl⟩
  refine calls_of (c := _) (rs := _) (n := 57) Tryz.func91 rfl rfl rfl rfl rfl (zQ (zR (a_alloc z_48 hS rfl fun b2 w hS => zA rfl rfl (zE (zQ (zB (zQ (zR (zM rfl rfl (zN rfl rfl (zF fl_168_6 rfl rfl (wl (y_load pl_46 rfl (hS.cell (v := .slice oa m.opn.length oc) rfl)) rfl (wl (y_len_sl Tryz.underlying46 rfl) rfl (wl (y_eql rfl rfl) rfl (zA rfl rfl (zE (wc_if rfl (fun hc6 => ?_) (fun hc6 => ?_))))))))))))))))))
  · try simp only [zZ] at hc6
    have he : m.pushE j = 11 := by unfold Cli.pushE; rw [if_pos (by omega)]
    obtain ⟨q1, q2, q3⟩ := hne _ he (by decide)
    rw [he, q1, q2, q3]
    refine zQ (zR (wl (y_build (is := []) (xs := []) (out := [_, _, _]) plc_48 z_48 .nil rfl) rfl (a_storeS (vs := [_, _, _]) sz_48 rfl rfl rfl rfl hS (Nat.le_of_ble_eq_true rfl) fun w hS => zA rfl rfl (zE (wc_ret (wret (vs := [_, _]) (.cell rfl (loadVar_struct st_48 sz_48 (vs := [_, _, _]) rfl (hS.cells rfl)) (.tmp rfl .nil)) ?_))))))
    first
    | exact ⟨M, _, _, _, Mle.refl _, Rd.nil, rfl, hb0, hj, hS.keep⟩
    | exact ⟨M1, _, _, _, hM1, Rd.nil, rfl, hb0.mono hM1, hj1, hS.keep⟩
    | (simp only [zL, cells_agg, setCells] at hS
       exact ⟨M2, _, _, _, hM1.trans hM2, hs1.mono hM2, rfl, ⟨_, _, _, _, _, _, _, h1, h2.mono (hM1.trans hM2), ho3, ((h4.mono hM1).mono hM2).append (.cons (x := ⟨(j.next m.opn).o, (j.next m.opn).n, sa2, m.opn.length, sc2⟩) ⟨rfl, rfl, hs2, show m.opn.length ≤ 137438953472 by omega⟩ .nil), Rd.nil (a := none) (c := 0), rfl⟩, hj1.mono hM2, hS.keep⟩)
  · try simp only [zZ] at hc6
    refine zQ (zW hS (fun w => w.cell? ⟨p, 5, none⟩ = some (.slice pa ys.length pc) ∧ w.cell? ⟨p, 3, none⟩ = some (.int .i64 m.push)) [] wide_ rfl rfl fun w hS => zP (i := 0) 1 rfl rfl (by kernel_rfl) (fun _ => y_move rfl) (zP (i := 1) 3 rfl rfl (by kernel_rfl) (fun w => y_nil rfl) (zP (i := 2) 7 rfl rfl (by kernel_rfl) (fun w => y_fld fl_168_5 rfl) (zP (i := 5) 39 rfl rfl (by kernel_rfl) (fun _ => y_move rfl) (zP (i := 6) 103 rfl rfl (by kernel_rfl) (fun w => y_nil rfl) (zP (i := 7) 231 rfl rfl (by kernel_rfl) (fun w => y_fld fl_168_3 rfl) (zD (i := 3) 239 rfl rfl (by kernel_rfl) ⟨hS.cell rfl, hS.cell rfl⟩ (fun w hS => y_load pl_32 rfl hS.1) (zP (i := 4) 255 rfl rfl (by kernel_rfl) (fun w => y_len_sl Tryz.underlying32 rfl) (zD (i := 8) 511 rfl rfl (by kernel_rfl) ⟨hS.cell rfl, hS.cell rfl⟩ (fun w hS => y_load pl_3 rfl hS.2) (zP (i := 9) 1023 rfl rfl (by kernel_rfl) (fun w => y_geq rfl rfl) (zP (i := 10) 2047 rfl rfl (by kernel_rfl) (fun w => y_assign rfl) (zH (by kernel_rfl) (wc_if rfl (fun hc14 => ?_) (fun hc14 => ?_))))))))))))))
    · try simp only [zZ] at hc14
      have he : m.pushE j = 7 := by unfold Cli.pushE; rw [if_neg (by omega), if_pos (by omega)]
      obtain ⟨q1, q2, q3⟩ := hne _ he (by decide)
      rw [he, q1, q2, q3]
      refine zQ (zR (wl (y_build (is := []) (xs := []) (out := [_, _, _]) plc_48 z_48 .nil rfl) rfl (a_storeS (vs := [_, _, _]) sz_48 rfl rfl rfl rfl hS (Nat.le_of_ble_eq_true rfl) fun w hS => zA rfl rfl (zE (wc_ret (wret (vs := [_, _]) (.cell rfl (loadVar_struct st_48 sz_48 (vs := [_, _, _]) rfl (hS.cells rfl)) (.tmp rfl .nil)) ?_))))))
      first
      | exact ⟨M, _, _, _, Mle.refl _, Rd.nil, rfl, hb0, hj, hS.keep⟩
      | exact ⟨M1, _, _, _, hM1, Rd.nil, rfl, hb0.mono hM1, hj1, hS.keep⟩
      | (simp only [zL, cells_agg, setCells] at hS
         exact ⟨M2, _, _, _, hM1.trans hM2, hs1.mono hM2, rfl, ⟨_, _, _, _, _, _, _, h1, h2.mono (hM1.trans hM2), ho3, ((h4.mono hM1).mono hM2).append (.cons (x := ⟨(j.next m.opn).o, (j.next m.opn).n, sa2, m.opn.length, sc2⟩) ⟨rfl, rfl, hs2, show m.opn.length ≤ 137438953472 by omega⟩ .nil), Rd.nil (a := none) (c := 0), rfl⟩, hj1.mono hM2, hS.keep⟩)
    · try simp only [zZ] at hc14
      have hea : m.pushE j = j.addE m.opn := by unfold Cli.pushE; rw [if_neg (by omega), if_neg (by omega)]
      refine zK (zQ (zW hS (fun w => w.cell? ⟨p, 0, none⟩ = some (.pointer (some ⟨jp, 0, none⟩)) ∧ w.cell? ⟨p, 6, none⟩ = some (.slice oa m.opn.length oc)) [13, 14] wide_ rfl rfl fun w hS => zP (i := 0) 1 rfl rfl (by kernel_rfl) (fun _ => y_move rfl) (zP (i := 1) 3 rfl rfl (by kernel_rfl) (fun w => y_nil rfl) (zP (i := 2) 7 rfl rfl (by kernel_rfl) (fun w => y_fld fl_168_0 rfl) (zP (i := 4) 23 rfl rfl (by kernel_rfl) (fun _ => y_move rfl) (zP (i := 5) 55 rfl rfl (by kernel_rfl) (fun w => y_nil rfl) (zP (i := 6) 119 rfl rfl (by kernel_rfl) (fun w => y_fld fl_168_6 rfl) (zD (i := 3) 127 rfl rfl (by kernel_rfl) ⟨hS.cell rfl, hS.cell rfl⟩ (fun w hS => y_load pl_93 rfl hS.1) (zD (i := 7) 255 rfl rfl (by kernel_rfl) ⟨hS.cell rfl, hS.cell rfl⟩ (fun w hS => y_load pl_46 rfl hS.2) (dr_do2 (i := 8) (j := 12) (lb 15 511) (lb 15 4351) rfl rfl (by kernel_rfl) ?_ ?_))))))))))
      · skip
        refine wl_call (.cons rfl (.cons rfl .nil)) (jadd_c m.opn _ h5 (by omega) hjl hj (hS.pull Hj)) rfl ?_
        rintro _ w ⟨M1, s1, Hj1, hM1, hs1, rfl, hj1, hS⟩
        obtain ⟨sa1, sc1, rfl⟩ := (hs1.holds hS).slice
        refine zE ⟨fun _ _ => ⟨hS.cell rfl, hS.cell rfl⟩, zP (i := 9) 1023 rfl rfl (by kernel_rfl) (fun _ => y_move rfl) (zP (i := 10) 2047 rfl rfl (by kernel_rfl) (fun w => y_extract (vs := [_, _]) rfl rfl) (zP (i := 11) 4095 rfl rfl (by kernel_rfl) (fun w => y_extract (vs := [_, _]) rfl rfl) (zU (i := 12) 8191 rfl (by kernel_rfl) (a_alloc z_48 hS rfl fun b4 w hS => zE ⟨fun _ _ => ⟨hS.cell rfl, hS.cell rfl⟩, zU (i := 13) 16383 rfl (by kernel_rfl) (a_storeS (vs := [_, _, _]) sz_48 rfl rfl rfl rfl hS (Nat.le_of_ble_eq_true rfl) fun w hS => zE ⟨fun h => absurd (by decide) h, zP (i := 14) 32767 rfl rfl (by kernel_rfl) (fun w => y_assign rfl) (zH (by kernel_rfl) (zQ (zQ (zR (zM rfl rfl (wl (y_neq rfl rfl) rfl (zE (wc_if rfl (fun hc39 => ?_) (fun hc39 => ?_)))))))))⟩)⟩))))⟩
        · try simp only [zZ] at hc39
          obtain ⟨q1, q2, q3⟩ := hne _ hea (by omega)
          have hja : j.add m.opn = j := by unfold Jnl.add; rw [if_neg (by omega)]
          rw [hja] at hj1
          rw [hea, q1, q2, q3]
          refine zQ (zR (wl (y_build (is := []) (xs := []) (out := [_, _, _]) plc_48 z_48 .nil rfl) rfl (zM rfl rfl (a_storeS (vs := [_, _, _]) sz_48 rfl rfl rfl rfl hS (Nat.le_of_ble_eq_true rfl) fun w hS => zA rfl rfl (zE (wc_ret (wret (vs := [_, _]) (.cell rfl (loadVar_struct st_48 sz_48 (vs := [_, _, _]) rfl (hS.cells rfl)) (.tmp rfl .nil)) ?_)))))))
          first
          | exact ⟨M, _, _, _, Mle.refl _, Rd.nil, rfl, hb0, hj, hS.keep⟩
          | exact ⟨M1, _, _, _, hM1, Rd.nil, rfl, hb0.mono hM1, hj1, hS.keep⟩
          | (simp only [zL, cells_agg, setCells] at hS
             exact ⟨M2, _, _, _, hM1.trans hM2, hs1.mono hM2, rfl, ⟨_, _, _, _, _, _, _, h1, h2.mono (hM1.trans hM2), ho3, ((h4.mono hM1).mono hM2).append (.cons (x := ⟨(j.next m.opn).o, (j.next m.opn).n, sa2, m.opn.length, sc2⟩) ⟨rfl, rfl, hs2, show m.opn.length ≤ 137438953472 by omega⟩ .nil), Rd.nil (a := none) (c := 0), rfl⟩, hj1.mono hM2, hS.keep⟩)
        · try simp only [zZ] at hc39
          have hz : j.addE m.opn = 0 := by omega
          rw [if_pos hz] at hs1
          rw [if_pos hz, if_pos hz] at hS
          have q1 : m.pushR j = j.next m.opn := by unfold Cli.pushR; rw [if_pos (by omega)]
          have q2 : m.pushC j = { m with opn := [], pending := m.pending ++ [j.next m.opn] } := by unfold Cli.pushC; rw [if_pos (by omega)]
          have q3 : m.pushJ j = j.add m.opn := by unfold Cli.pushJ; rw [if_pos (by omega)]
          rw [hea, q1, q2, q3, hz]
          refine zK (zQ (zR (zM rfl rfl (zN rfl rfl (zF fl_168_6 rfl rfl (a_store sz_46 rfl rfl rfl hS (Nat.le_of_ble_eq_true rfl) fun w hS => zE (zQ (zW hS (fun w => w.cell? ⟨p, 5, none⟩ = some (.slice pa ys.length pc) ∧ CellsAt w b4 0 [.int .i64 (j.next m.opn).o, .int .i64 (j.next m.opn).n, .slice sa1 m.opn.length sc1]) [8, 11] wide_ rfl rfl fun w hS => zP (i := 0) 1 rfl rfl (by kernel_rfl) (fun _ => y_move rfl) (zP (i := 1) 3 rfl rfl (by kernel_rfl) (fun _ => y_move rfl) (zP (i := 2) 7 rfl rfl (by kernel_rfl) (fun w => y_nil rfl) (zP (i := 3) 15 rfl rfl (by kernel_rfl) (fun w => y_fld fl_168_5 rfl) (zD (i := 4) 31 rfl rfl (by kernel_rfl) ⟨hS.cell rfl, hS.cells rfl⟩ (fun w hS => y_load pl_32 rfl hS.1) (zD (i := 5) 63 rfl rfl (by kernel_rfl) ⟨hS.cell rfl, hS.cells rfl⟩ (fun w hS => y_loadS st_48 sz_48 rfl hS.2 rfl) (zU (i := 6) 127 rfl (by kernel_rfl) (wl_call (.cons rfl .nil) (rcopy_c (j.next m.opn) (.slice sa1 m.opn.length sc1) (show m.opn.length ≤ 137438953472 by omega) hs1 hS) rfl ?_)))))))))))))))
          rintro _ w ⟨M2, s2, rfl, hM2, hs2, hS⟩
          obtain ⟨sa2, sc2, rfl⟩ := (hs2.holds hS).slice
          refine zE ⟨fun _ _ => ⟨hS.cell rfl, hS.cells rfl⟩, zU (i := 7) 255 rfl (by kernel_rfl) (a_bslice encRV [⟨(j.next m.opn).o, (j.next m.opn).n, sa2, m.opn.length, sc2⟩] Tryz.underlying32 sz_48 z_48 rfl (.cons rfl .nil) rfl rfl rfl (by decide) hS rfl fun u Hu w hou hS => zE ⟨fun _ _ => ⟨hS.cell rfl, hS.cells rfl⟩, zU (i := 8) 511 rfl (by kernel_rfl) (a_append Tryz.underlying32 Tryz.underlying32 sz_48 z_48 rfl by_48 (by decide) rfl rfl h3 (hou.holds hS) hS (by simp; omega) rfl fun s3 H3 w ho3 hS => ?_)⟩)⟩
          obtain ⟨sa3, sc3, rfl⟩ := ho3.slice
          refine zE ⟨fun h => absurd (by decide) h, zP (i := 9) 1023 rfl rfl (by kernel_rfl) (fun w => y_nil rfl) (zP (i := 10) 2047 rfl rfl (by kernel_rfl) (fun w => y_fld fl_168_5 rfl) (zU (i := 11) 4095 rfl (by kernel_rfl) (a_store sz_32 rfl rfl rfl hS (Nat.le_of_ble_eq_true rfl) fun w hS => zE ⟨fun h => absurd (by decide) h, zH (by kernel_rfl) (zQ (zR (wl (y_loadS st_48 sz_48 rfl (hS.cells (vs := [_, _, _]) rfl) rfl) rfl (a_storeS (vs := [_, _, _]) sz_48 rfl rfl rfl rfl hS (Nat.le_of_ble_eq_true rfl) fun w hS => zA rfl rfl (zE (wc_ret (wret (vs := [_, _]) (.cell rfl (loadVar_struct st_48 sz_48 (vs := [_, _, _]) rfl (hS.cells rfl)) (.tmp rfl .nil)) ?_)))))))⟩)))⟩
          first
          | exact ⟨M, _, _, _, Mle.refl _, Rd.nil, rfl, hb0, hj, hS.keep⟩
          | exact ⟨M1, _, _, _, hM1, Rd.nil, rfl, hb0.mono hM1, hj1, hS.keep⟩
          | (simp only [zL, cells_agg, setCells] at hS
             exact ⟨M2, _, _, _, hM1.trans hM2, hs1.mono hM2, rfl, ⟨_, _, _, _, _, _, _, h1, h2.mono (hM1.trans hM2), ho3, ((h4.mono hM1).mono hM2).append (.cons (x := ⟨(j.next m.opn).o, (j.next m.opn).n, sa2, m.opn.length, sc2⟩) ⟨rfl, rfl, hs2, show m.opn.length ≤ 137438953472 by omega⟩ .nil), Rd.nil (a := none) (c := 0), rfl⟩, hj1.mono hM2, hS.keep⟩)
      · skip
        refine a_alloc z_48 hS rfl fun b4 w hS => zE ⟨fun _ _ => ⟨hS.cell rfl, hS.cell rfl⟩, zU (i := 8) 4607 rfl (by kernel_rfl) (wl_call (.cons rfl (.cons rfl .nil)) (jadd_c m.opn _ h5 (by omega) hjl hj (hS.pull Hj)) rfl ?_)⟩
        rintro _ w ⟨M1, s1, Hj1, hM1, hs1, rfl, hj1, hS⟩
        obtain ⟨sa1, sc1, rfl⟩ := (hs1.holds hS).slice
        refine zE ⟨fun _ _ => ⟨hS.cell rfl, hS.cell rfl⟩, zP (i := 9) 5119 rfl rfl (by kernel_rfl) (fun _ => y_move rfl) (zP (i := 10) 6143 rfl rfl (by kernel_rfl) (fun w => y_extract (vs := [_, _]) rfl rfl) (zP (i := 11) 8191 rfl rfl (by kernel_rfl) (fun w => y_extract (vs := [_, _]) rfl rfl) (zU (i := 13) 16383 rfl (by kernel_rfl) (a_storeS (vs := [_, _, _]) sz_48 rfl rfl rfl rfl hS (Nat.le_of_ble_eq_true rfl) fun w hS => zE ⟨fun h => absurd (by decide) h, zP (i := 14) 32767 rfl rfl (by kernel_rfl) (fun w => y_assign rfl) (zH (by kernel_rfl) (zQ (zQ (zR (zM rfl rfl (wl (y_neq rfl rfl) rfl (zE (wc_if rfl (fun hc39 => ?_) (fun hc39 => ?_)))))))))⟩))))⟩
        · try simp only [zZ] at hc39
          obtain ⟨q1, q2, q3⟩ := hne _ hea (by omega)
          have hja : j.add m.opn = j := by unfold Jnl.add; rw [if_neg (by omega)]
          rw [hja] at hj1
          rw [hea, q1, q2, q3]
          refine zQ (zR (wl (y_build (is := []) (xs := []) (out := [_, _, _]) plc_48 z_48 .nil rfl) rfl (zM rfl rfl (a_storeS (vs := [_, _, _]) sz_48 rfl rfl rfl rfl hS (Nat.le_of_ble_eq_true rfl) fun w hS => zA rfl rfl (zE (wc_ret (wret (vs := [_, _]) (.cell rfl (loadVar_struct st_48 sz_48 (vs := [_, _, _]) rfl (hS.cells rfl)) (.tmp rfl .nil)) ?_)))))))
          first
          | exact ⟨M, _, _, _, Mle.refl _, Rd.nil, rfl, hb0, hj, hS.keep⟩
          | exact ⟨M1, _, _, _, hM1, Rd.nil, rfl, hb0.mono hM1, hj1, hS.keep⟩
          | (simp only [zL, cells_agg, setCells] at hS
             exact ⟨M2, _, _, _, hM1.trans hM2, hs1.mono hM2, rfl, ⟨_, _, _, _, _, _, _, h1, h2.mono (hM1.trans hM2), ho3, ((h4.mono hM1).mono hM2).append (.cons (x := ⟨(j.next m.opn).o, (j.next m.opn).n, sa2, m.opn.length, sc2⟩) ⟨rfl, rfl, hs2, show m.opn.length ≤ 137438953472 by omega⟩ .nil), Rd.nil (a := none) (c := 0), rfl⟩, hj1.mono hM2, hS.keep⟩)
        · try simp only [zZ] at hc39
          have hz : j.addE m.opn = 0 := by omega
          rw [if_pos hz] at hs1
          rw [if_pos hz, if_pos hz] at hS
          have q1 : m.pushR j = j.next m.opn := by unfold Cli.pushR; rw [if_pos (by omega)]
          have q2 : m.pushC j = { m with opn := [], pending := m.pending ++ [j.next m.opn] } := by unfold Cli.pushC; rw [if_pos (by omega)]
          have q3 : m.pushJ j = j.add m.opn := by unfold Cli.pushJ; rw [if_pos (by omega)]
          rw [hea, q1, q2, q3, hz]
          refine zK (zQ (zR (zM rfl rfl (zN rfl rfl (zF fl_168_6 rfl rfl (a_store sz_46 rfl rfl rfl hS (Nat.le_of_ble_eq_true rfl) fun w hS => zE (zQ (zW hS (fun w => w.cell? ⟨p, 5, none⟩ = some (.slice pa ys.length pc) ∧ CellsAt w b4 0 [.int .i64 (j.next m.opn).o, .int .i64 (j.next m.opn).n, .slice sa1 m.opn.length sc1]) [8, 11] wide_ rfl rfl fun w hS => zP (i := 0) 1 rfl rfl (by kernel_rfl) (fun _ => y_move rfl) (zP (i := 1) 3 rfl rfl (by kernel_rfl) (fun _ => y_move rfl) (zP (i := 2) 7 rfl rfl (by kernel_rfl) (fun w => y_nil rfl) (zP (i := 3) 15 rfl rfl (by kernel_rfl) (fun w => y_fld fl_168_5 rfl) (zD (i := 4) 31 rfl rfl (by kernel_rfl) ⟨hS.cell rfl, hS.cells rfl⟩ (fun w hS => y_load pl_32 rfl hS.1) (zD (i := 5) 63 rfl rfl (by kernel_rfl) ⟨hS.cell rfl, hS.cells rfl⟩ (fun w hS => y_loadS st_48 sz_48 rfl hS.2 rfl) (zU (i := 6) 127 rfl (by kernel_rfl) (wl_call (.cons rfl .nil) (rcopy_c (j.next m.opn) (.slice sa1 m.opn.length sc1) (show m.opn.length ≤ 137438953472 by omega) hs1 hS) rfl ?_)))))))))))))))
          rintro _ w ⟨M2, s2, rfl, hM2, hs2, hS⟩
          obtain ⟨sa2, sc2, rfl⟩ := (hs2.holds hS).slice
          refine zE ⟨fun _ _ => ⟨hS.cell rfl, hS.cells rfl⟩, zU (i := 7) 255 rfl (by kernel_rfl) (a_bslice encRV [⟨(j.next m.opn).o, (j.next m.opn).n, sa2, m.opn.length, sc2⟩] Tryz.underlying32 sz_48 z_48 rfl (.cons rfl .nil) rfl rfl rfl (by decide) hS rfl fun u Hu w hou hS => zE ⟨fun _ _ => ⟨hS.cell rfl, hS.cells rfl⟩, zU (i := 8) 511 rfl (by kernel_rfl) (a_append Tryz.underlying32 Tryz.underlying32 sz_48 z_48 rfl by_48 (by decide) rfl rfl h3 (hou.holds hS) hS (by simp; omega) rfl fun s3 H3 w ho3 hS => ?_)⟩)⟩
          obtain ⟨sa3, sc3, rfl⟩ := ho3.slice
          refine zE ⟨fun h => absurd (by decide) h, zP (i := 9) 1023 rfl rfl (by kernel_rfl) (fun w => y_nil rfl) (zP (i := 10) 2047 rfl rfl (by kernel_rfl) (fun w => y_fld fl_168_5 rfl) (zU (i := 11) 4095 rfl (by kernel_rfl) (a_store sz_32 rfl rfl rfl hS (Nat.le_of_ble_eq_true rfl) fun w hS => zE ⟨fun h => absurd (by decide) h, zH (by kernel_rfl) (zQ (zR (wl (y_loadS st_48 sz_48 rfl (hS.cells (vs := [_, _, _]) rfl) rfl) rfl (a_storeS (vs := [_, _, _]) sz_48 rfl rfl rfl rfl hS (Nat.le_of_ble_eq_true rfl) fun w hS => zA rfl rfl (zE (wc_ret (wret (vs := [_, _]) (.cell rfl (loadVar_struct st_48 sz_48 (vs := [_, _, _]) rfl (hS.cells rfl)) (.tmp rfl .nil)) ?_)))))))⟩)))⟩
          first
          | exact ⟨M, _, _, _, Mle.refl _, Rd.nil, rfl, hb0, hj, hS.keep⟩
          | exact ⟨M1, _, _, _, hM1, Rd.nil, rfl, hb0.mono hM1, hj1, hS.keep⟩
          | (simp only [zL, cells_agg, setCells] at hS
             exact ⟨M2, _, _, _, hM1.trans hM2, hs1.mono hM2, rfl, ⟨_, _, _, _, _, _, _, h1, h2.mono (hM1.trans hM2), ho3, ((h4.mono hM1).mono hM2).append (.cons (x := ⟨(j.next m.opn).o, (j.next m.opn).n, sa2, m.opn.length, sc2⟩) ⟨rfl, rfl, hs2, show m.opn.length ≤ 137438953472 by omega⟩ .nil), Rd.nil (a := none) (c := 0), rfl⟩, hj1.mono hM2, hS.keep⟩)
end
end Go.Proofs.YtndahppmjdbifaaGreatDoor.Cli
set_option linter.unusedVariables false
set_option linter.unusedSimpArgs false
namespace Go.Proofs.YtndahppmjdbifaaGreatDoor.Cli
open Go Go.Proofs Go.Proofs.YtndahppmjdbifaaGreatDoor.Eng Go.Proofs.YtndahppmjdbifaaGreatDoor.Pre Go.Proofs.YtndahppmjdbifaaGreatDoor.Val Go.Proofs.YtndahppmjdbifaaGreatDoor.Rou Go.Proofs.YtndahppmjdbifaaGreatDoor.Jnl Go.Proofs.YtndahppmjdbifaaGreatDoor.Snd
theorem _root_.Go.Proofs.YtndahppmjdbifaaGreatDoor.Eng.Holds.cellAt {α : Type} {A : Enc α} {w : World} {b off m c i j : Nat} {xs : List α} {x : α} {v : Value} (h : Holds w A (.slice (some ⟨b, off, none⟩) m c) xs) (hx : xs[i]? = some x) (hv : (A.f x)[j]? = some v) : w.cell? ⟨b, off + i * A.k + j, none⟩ = some v := by
  obtain ⟨b', off', c', hse, hce⟩ := h.at hx
  simp only [Value.slice.injEq, Option.some.injEq, Addr.mk.injEq] at hse
  obtain ⟨⟨rfl, rfl, _⟩, _⟩ := hse
  exact hce j v hv
section
variable {M : Mem} {w : World} {Ls : List Chunk}
theorem cresume_c {p jp : Nat} {m : Cli} {j : Jnl} {H Hj : Chunk} (hjl : j.l.length ≤ 137438953472) (hb : IsC M p jp m H) (hj : IsJ M jp j Hj) (hS : St M w (H :: Hj :: Ls)) :
    CallsR Tryz.prog 57 [.pointer (some ⟨p, 0, none⟩)].toArray w fun v w' => ∃ M' H', Mle M M' ∧ v = .tuple #[] ∧ IsC M' p jp (m.resume j) H' ∧ IsJ M' jp j Hj ∧ St M' w' (H' :: Hj :: Ls) := by
  obtain ⟨xs, sk, Hk, ys, sp, Hp, so, h1, h2, h3, h4, h5, rfl⟩ := hb
  replace hS := hS.un2
  refine calls_of (c := _) (rs := _) (n := 16) Tryz.func57 rfl rfl rfl rfl rfl (zR (zM rfl rfl (zM rfl rfl (zM rfl rfl (zM rfl rfl (zN rfl rfl (zF fl_168_0 rfl rfl (wl (y_load pl_93 rfl (hS.cell (v := .pointer (some ⟨jp, 0, none⟩)) rfl)) rfl (wl_call (.cons rfl (.cons rfl .nil)) (jfrom_c 0 hjl hj (hS.pull Hj)) rfl ?_)))))))))
  rintro v w ⟨M1, zs, Hz, hM, ho, hr, hj1, hS⟩
  obtain ⟨za, zc, rfl⟩ := ho.slice
  refine zN rfl rfl (zF fl_168_4 rfl rfl (a_store sz_32 rfl rfl rfl hS (Nat.le_of_ble_eq_true rfl) fun w hS => zN rfl rfl (zF fl_168_6 rfl rfl (a_store sz_46 rfl rfl rfl hS (Nat.le_of_ble_eq_true rfl) fun w hS => zN rfl rfl (zF fl_168_5 rfl rfl (a_store sz_32 rfl rfl rfl hS (Nat.le_of_ble_eq_true rfl) fun w hS => zE (wretN (vs := []) .nil ?_)))))))
  simp only [zL, cells_agg, setCells] at hS
  exact ⟨M1, _, hM, rfl, ⟨[], .slice none 0 0, [], zs, _, Hz, .slice none 0 0, .nil, .nil, ho, hr, .nil, rfl⟩, hj1, by have h := hS.keep (T := ((p, cliO jp m (.slice none 0 0) (.slice za zs.length zc) (.slice none 0 0)) :: Hz) :: Hj :: Ls); exact h⟩
theorem ctake_c {p jp : Nat} {m : Cli} {H : Chunk} (r : Rnd) (s : Value) (hul : r.ups.length ≤ 137438953472) (hs : Rd M encU s r.ups) (hkl : m.known.length ≤ 137438953) (hb : IsC M p jp m H) (hS : St M w (H :: Ls)) :
    CallsR Tryz.prog 82 [.pointer (some ⟨p, 0, none⟩), rvS r s].toArray w fun v w' => ∃ M' H', Mle M M' ∧ v = .int .i64 (m.takE r) ∧ IsC M' p jp (m.take r) H' ∧ St M' w' (H' :: Ls) := by
  have hb0 := hb
  have hs0 := hs
  obtain ⟨xs, sk, Hk, ys, sp, Hp, so, h1, h2, h3, h4, h5, rfl⟩ := hb
  have e2 := h2.len
  have e4 := h4.len
  replace hS := hS.un2
  obtain ⟨sa, sc, rfl⟩ := (hs.holds hS).slice
  obtain ⟨ka, kc, rfl⟩ := h1.slice
  obtain ⟨pa, pc, rfl⟩ := h3.slice
  by_cases ho : r.o = m.origin
  · cases hp : m.pending with
    | nil =>
      have he : m.takE r = 10 := by unfold Cli.takE; rw [if_pos ho, hp]
      have hq : m.take r = m := by unfold Cli.take; rw [if_neg (by omega)]
      rw [hp] at e4
      rw [he, hq]
      refine calls_of (c := _) (rs := _) (n := 49) Tryz.func82 rfl rfl rfl rfl rfl (zQ (zR (a_box rfl hS rfl fun b3 w hS => zA rfl rfl (zE (zQ (zQ (zW hS (fun w => w.cell? ⟨b3, 0, none⟩ = some (.int .i64 r.o) ∧ w.cell? ⟨p, 1, none⟩ = some (.int .i64 m.origin)) [] wide_ rfl rfl fun w hS => zP (i := 0) 1 rfl rfl (by kernel_rfl) (fun w => y_fld fl_48_0 rfl) (zP (i := 2) 5 rfl rfl (by kernel_rfl) (fun _ => y_move rfl) (zP (i := 3) 13 rfl rfl (by kernel_rfl) (fun w => y_nil rfl) (zP (i := 4) 29 rfl rfl (by kernel_rfl) (fun w => y_fld fl_168_1 rfl) (zD (i := 1) 31 rfl rfl (by kernel_rfl) ⟨hS.cell rfl, hS.cell rfl⟩ (fun w hS => y_load pl_3 rfl hS.1) (zD (i := 5) 63 rfl rfl (by kernel_rfl) ⟨hS.cell rfl, hS.cell rfl⟩ (fun w hS => y_load pl_3 rfl hS.2) (zP (i := 6) 127 rfl rfl (by kernel_rfl) (fun w => y_eql rfl rfl) (zH (by kernel_rfl) (wc_ifT rfl (decide_eq_true ho) (zQ (zQ (zW hS (fun w => w.cell? ⟨p, 5, none⟩ = some (.slice pa ys.length pc)) [] wide_ rfl rfl fun w hS => zP (i := 0) 1 rfl rfl (by kernel_rfl) (fun _ => y_move rfl) (zP (i := 1) 3 rfl rfl (by kernel_rfl) (fun w => y_nil rfl) (zP (i := 2) 7 rfl rfl (by kernel_rfl) (fun w => y_fld fl_168_5 rfl) (zD (i := 3) 15 rfl rfl (by kernel_rfl) (hS.cell rfl) (fun w hS => y_load pl_32 rfl hS) (zP (i := 4) 31 rfl rfl (by kernel_rfl) (fun w => y_len_sl Tryz.underlying32 rfl) (zP (i := 5) 63 rfl rfl (by kernel_rfl) (fun w => (y_eql rfl rfl).val (u := .bool true) (congrArg Value.bool (decide_eq_true (by simpa using e4)))) (zP (i := 6) 127 rfl rfl (by kernel_rfl) (fun _ => y_move rfl) (dr_off (i := 7) (lb 18 255) rfl rfl (by kernel_rfl) rfl rfl rfl (dr_off (i := 8) (lb 18 511) rfl rfl (by kernel_rfl) rfl rfl rfl (dr_off (i := 9) (lb 18 1023) rfl rfl (by kernel_rfl) rfl rfl rfl (dr_off (i := 14) (lb 18 17407) rfl rfl (by kernel_rfl) rfl rfl rfl (dr_off (i := 10) (lb 18 18431) rfl rfl (by kernel_rfl) rfl rfl rfl (dr_off (i := 11) (lb 18 20479) rfl rfl (by kernel_rfl) rfl rfl rfl (dr_off (i := 12) (lb 18 24575) rfl rfl (by kernel_rfl) rfl rfl rfl (dr_off (i := 13) (lb 18 32767) rfl rfl (by kernel_rfl) rfl rfl rfl (dr_off (i := 15) (lb 18 65535) rfl rfl (by kernel_rfl) rfl rfl rfl (dr_off (i := 16) (lb 18 131071) rfl rfl (by kernel_rfl) rfl rfl rfl (zP (i := 17) 262143 rfl rfl (by kernel_rfl) (fun w => y_pickT rfl rfl) (zH (by kernel_rfl) (wc_ifT rfl (rfl) (zQ (zR (zA rfl rfl (zE (wc_ret (wret (vs := [_]) (.tmp rfl .nil) ?_)))))))))))))))))))))))))))))))))))))))))))
      exact ⟨M, _, Mle.refl _, rfl, hb0, hS.keep⟩
    | cons x0 rest =>
      have hx := h4.at (i := 0) (r := x0) (by rw [hp]; rfl)
      obtain ⟨y0, hy0, hyr⟩ := hx
      have hd := hyr.2.1
      rw [hp] at e4
      simp only [List.length_cons] at e4
      obtain ⟨bb, off, c', hse, hce⟩ := (h3.holds (hS.pull Hp)).at hy0
      simp only [Value.slice.injEq] at hse
      have hSk := hS
      obtain ⟨rfl, _, rfl⟩ := hse
      replace hS := hSk
      refine calls_of (c := _) (rs := _) (n := 49) Tryz.func82 rfl rfl rfl rfl rfl (zQ (zR (a_box rfl hS rfl fun b3 w hS => zA rfl rfl (zE (zQ (zQ (zW hS (fun w => w.cell? ⟨b3, 0, none⟩ = some (.int .i64 r.o) ∧ w.cell? ⟨p, 1, none⟩ = some (.int .i64 m.origin)) [] wide_ rfl rfl fun w hS => zP (i := 0) 1 rfl rfl (by kernel_rfl) (fun w => y_fld fl_48_0 rfl) (zP (i := 2) 5 rfl rfl (by kernel_rfl) (fun _ => y_move rfl) (zP (i := 3) 13 rfl rfl (by kernel_rfl) (fun w => y_nil rfl) (zP (i := 4) 29 rfl rfl (by kernel_rfl) (fun w => y_fld fl_168_1 rfl) (zD (i := 1) 31 rfl rfl (by kernel_rfl) ⟨hS.cell rfl, hS.cell rfl⟩ (fun w hS => y_load pl_3 rfl hS.1) (zD (i := 5) 63 rfl rfl (by kernel_rfl) ⟨hS.cell rfl, hS.cell rfl⟩ (fun w hS => y_load pl_3 rfl hS.2) (zP (i := 6) 127 rfl rfl (by kernel_rfl) (fun w => y_eql rfl rfl) (zH (by kernel_rfl) (wc_ifT rfl (decide_eq_true ho) (zQ (zQ (zW hS (fun w => w.cell? ⟨p, 5, none⟩ = some (.slice (some ⟨bb, off, none⟩) ys.length pc) ∧ Holds w encRV (.slice (some ⟨bb, off, none⟩) ys.length pc) ys ∧ w.cell? ⟨b3, 1, none⟩ = some (.int .i64 r.n)) [] wide_ rfl rfl fun w hS => zP (i := 0) 1 rfl rfl (by kernel_rfl) (fun _ => y_move rfl) (zP (i := 1) 3 rfl rfl (by kernel_rfl) (fun w => y_nil rfl) (zP (i := 2) 7 rfl rfl (by kernel_rfl) (fun w => y_fld fl_168_5 rfl) (zD (i := 3) 15 rfl rfl (by kernel_rfl) ⟨hS.cell rfl, h3.holds (hS.pull Hp), hS.cell rfl⟩ (fun w hS => y_load pl_32 rfl hS.1) (zP (i := 4) 31 rfl rfl (by kernel_rfl) (fun w => y_len_sl Tryz.underlying32 rfl) (zP (i := 5) 63 rfl rfl (by kernel_rfl) (fun w => (y_eql rfl rfl).val (u := .bool false) (congrArg Value.bool (decide_eq_false (by omega)))) (zP (i := 6) 127 rfl rfl (by kernel_rfl) (fun _ => y_move rfl) (dr_pureG (i := 7) (lb 18 255) rfl rfl (by kernel_rfl) rfl rfl (fun _ => y_move rfl) (dr_pureG (i := 8) (lb 18 511) rfl rfl (by kernel_rfl) rfl rfl (fun w => y_nil rfl) (dr_pureG (i := 9) (lb 18 1023) rfl rfl (by kernel_rfl) rfl rfl (fun w => y_fld fl_168_5 rfl) (dr_pureG (i := 14) (lb 18 17407) rfl rfl (by kernel_rfl) rfl rfl (fun w => y_fld fl_48_1 rfl) (dr_readG (i := 10) (lb 18 18431) rfl rfl (by kernel_rfl) rfl rfl ⟨hS.cell rfl, h3.holds (hS.pull Hp), hS.cell rfl⟩ (fun w hS => y_load pl_32 rfl hS.1) (dr_pureG (i := 11) (lb 18 20479) rfl rfl (by kernel_rfl) rfl rfl (fun w => y_ixa_sl Tryz.underlying32 sz_48 rfl rfl (by omega) (by omega)) (dr_pureG (i := 12) (lb 18 24575) rfl rfl (by kernel_rfl) rfl rfl (fun w => y_fld fl_48_1 rfl) (dr_readG (i := 13) (lb 18 32767) rfl rfl (by kernel_rfl) rfl rfl ⟨hS.cell rfl, h3.holds (hS.pull Hp), hS.cell rfl⟩ (fun w hS => y_load pl_3 rfl (hS.2.1.cellAt hy0 (j := 1) rfl)) (dr_readG (i := 15) (lb 18 65535) rfl rfl (by kernel_rfl) rfl rfl ⟨hS.cell rfl, h3.holds (hS.pull Hp), hS.cell rfl⟩ (fun w hS => y_load pl_3 rfl hS.2.2) (dr_pureG (i := 16) (lb 18 131071) rfl rfl (by kernel_rfl) rfl rfl (fun w => y_neq rfl rfl) (zP (i := 17) 262143 rfl rfl (by kernel_rfl) (fun w => y_pickF rfl rfl) (zH (by kernel_rfl) (wc_if rfl (fun hc29 => ?_) (fun hc29 => ?_))))))))))))))))))))))))))))))))))))))
      · try simp only [zZ] at hc29
        have he : m.takE r = 10 := by unfold Cli.takE; rw [if_pos ho, hp]; simp only []; rw [if_neg (by omega)]
        have hq : m.take r = m := by unfold Cli.take; rw [if_neg (by omega)]
        rw [he, hq]
        refine zQ (zR (zA rfl rfl (zE (wc_ret (wret (vs := [_]) (.tmp rfl .nil) ?_)))))
        first
        | exact ⟨M, _, Mle.refl _, rfl, hb0, hS.keep⟩
        | (simp only [zL, cells_agg, setCells] at hS
           exact ⟨M2, _, hM2, rfl, ⟨_, _, H3, _, _, Hp, so, ho3, (h2.mono hM2).append (.cons (x := ⟨r.o, r.n, sa2, r.ups.length, sc2⟩) ⟨rfl, rfl, hs2, hul⟩ .nil), hcut, hdr.mono hM2, h5.mono hM2, rfl⟩, hS.keep⟩)
      · try simp only [zZ] at hc29
        have he : m.takE r = 0 := by unfold Cli.takE; rw [if_pos ho, hp]; simp only []; rw [if_pos (by omega)]
        have hq : m.take r = { m with known := m.known ++ [r], pending := rest } := by unfold Cli.take; rw [if_pos he, if_pos ho, hp]; rfl
        rw [he, hq]
        have hcut := cutFrom (k := 1) h3 (by omega)
        have hdr := h4.drop 1
        rw [hp, show (x0 :: rest).drop 1 = rest from rfl] at hdr
        generalize hcv : cutV _ _ _ _ _ = sq at hcut
        obtain ⟨qa, qc, rfl⟩ := hcut.slice
        refine zK (zR (zM rfl rfl (zM rfl rfl (zN rfl rfl (zF fl_168_5 rfl rfl (wl (y_load pl_32 rfl (hS.cell rfl)) rfl (wl ((y_slFrom (lv := 1) Tryz.underlying32 sz_48 rfl rfl (by omega) (by omega) (by omega)).val hcv) rfl (zN rfl rfl (zF fl_168_5 rfl rfl (a_store sz_32 rfl rfl rfl hS (Nat.le_of_ble_eq_true rfl) fun w hS => zE (zQ (zW hS (fun w => w.cell? ⟨p, 4, none⟩ = some (.slice ka xs.length kc) ∧ CellsAt w b3 0 [.int .i64 r.o, .int .i64 r.n, .slice sa r.ups.length sc]) [8, 11] wide_ rfl rfl fun w hS => zP (i := 0) 1 rfl rfl (by kernel_rfl) (fun _ => y_move rfl) (zP (i := 1) 3 rfl rfl (by kernel_rfl) (fun _ => y_move rfl) (zP (i := 2) 7 rfl rfl (by kernel_rfl) (fun w => y_nil rfl) (zP (i := 3) 15 rfl rfl (by kernel_rfl) (fun w => y_fld fl_168_4 rfl) (zD (i := 4) 31 rfl rfl (by kernel_rfl) ⟨hS.cell rfl, hS.cells rfl⟩ (fun w hS => y_load pl_32 rfl hS.1) (zD (i := 5) 63 rfl rfl (by kernel_rfl) ⟨hS.cell rfl, hS.cells rfl⟩ (fun w hS => y_loadS st_48 sz_48 rfl hS.2 rfl) (zU (i := 6) 127 rfl (by kernel_rfl) (wl_call (.cons rfl .nil) (rcopy_c r (.slice sa r.ups.length sc) hul hs0 hS) rfl ?_)))))))))))))))))))
        rintro _ w ⟨M2, s2, rfl, hM2, hs2, hS⟩
        obtain ⟨sa2, sc2, rfl⟩ := (hs2.holds hS).slice
        refine zE ⟨fun _ _ => ⟨hS.cell rfl, hS.cells rfl⟩, zU (i := 7) 255 rfl (by kernel_rfl) (a_bslice encRV [⟨r.o, r.n, sa2, r.ups.length, sc2⟩] Tryz.underlying32 sz_48 z_48 rfl (.cons rfl .nil) rfl rfl rfl (by decide) hS rfl fun u Hu w hou hS => zE ⟨fun _ _ => ⟨hS.cell rfl, hS.cells rfl⟩, zU (i := 8) 511 rfl (by kernel_rfl) (a_append Tryz.underlying32 Tryz.underlying32 sz_48 z_48 rfl by_48 (by decide) rfl rfl h1 (hou.holds hS) hS (by simp; omega) rfl fun s3 H3 w ho3 hS => ?_)⟩)⟩
        obtain ⟨sa3, sc3, rfl⟩ := ho3.slice
        refine zE ⟨fun h => absurd (by decide) h, zP (i := 9) 1023 rfl rfl (by kernel_rfl) (fun w => y_nil rfl) (zP (i := 10) 2047 rfl rfl (by kernel_rfl) (fun w => y_fld fl_168_4 rfl) (zU (i := 11) 4095 rfl (by kernel_rfl) (a_store sz_32 rfl rfl rfl hS (Nat.le_of_ble_eq_true rfl) fun w hS => zE ⟨fun h => absurd (by decide) h, zH (by kernel_rfl) (zQ (zR (zA rfl rfl (zE (wc_ret (wret (vs := [_]) (.tmp rfl .nil) ?_))))))⟩)))⟩
        first
        | exact ⟨M, _, Mle.refl _, rfl, hb0, hS.keep⟩
        | (simp only [zL, cells_agg, setCells] at hS
           exact ⟨M2, _, hM2, rfl, ⟨_, _, H3, _, _, Hp, so, ho3, (h2.mono hM2).append (.cons (x := ⟨r.o, r.n, sa2, r.ups.length, sc2⟩) ⟨rfl, rfl, hs2, hul⟩ .nil), hcut, hdr.mono hM2, h5.mono hM2, rfl⟩, hS.keep⟩)
  · have he : m.takE r = 0 := by unfold Cli.takE; rw [if_neg ho]
    have hq : m.take r = { m with known := m.known ++ [r] } := by unfold Cli.take; rw [if_pos he, if_neg ho]
    rw [he, hq]
    refine calls_of (c := _) (rs := _) (n := 49) Tryz.func82 rfl rfl rfl rfl rfl (zQ (zR (a_box rfl hS rfl fun b3 w hS => zA rfl rfl (zE (zQ (zQ (zW hS (fun w => w.cell? ⟨b3, 0, none⟩ = some (.int .i64 r.o) ∧ w.cell? ⟨p, 1, none⟩ = some (.int .i64 m.origin)) [] wide_ rfl rfl fun w hS => zP (i := 0) 1 rfl rfl (by kernel_rfl) (fun w => y_fld fl_48_0 rfl) (zP (i := 2) 5 rfl rfl (by kernel_rfl) (fun _ => y_move rfl) (zP (i := 3) 13 rfl rfl (by kernel_rfl) (fun w => y_nil rfl) (zP (i := 4) 29 rfl rfl (by kernel_rfl) (fun w => y_fld fl_168_1 rfl) (zD (i := 1) 31 rfl rfl (by kernel_rfl) ⟨hS.cell rfl, hS.cell rfl⟩ (fun w hS => y_load pl_3 rfl hS.1) (zD (i := 5) 63 rfl rfl (by kernel_rfl) ⟨hS.cell rfl, hS.cell rfl⟩ (fun w hS => y_load pl_3 rfl hS.2) (zP (i := 6) 127 rfl rfl (by kernel_rfl) (fun w => y_eql rfl rfl) (zH (by kernel_rfl) (wc_ifF rfl (decide_eq_false ho) (zK (zQ (zW hS (fun w => w.cell? ⟨p, 4, none⟩ = some (.slice ka xs.length kc) ∧ CellsAt w b3 0 [.int .i64 r.o, .int .i64 r.n, .slice sa r.ups.length sc]) [8, 11] wide_ rfl rfl fun w hS => zP (i := 0) 1 rfl rfl (by kernel_rfl) (fun _ => y_move rfl) (zP (i := 1) 3 rfl rfl (by kernel_rfl) (fun _ => y_move rfl) (zP (i := 2) 7 rfl rfl (by kernel_rfl) (fun w => y_nil rfl) (zP (i := 3) 15 rfl rfl (by kernel_rfl) (fun w => y_fld fl_168_4 rfl) (zD (i := 4) 31 rfl rfl (by kernel_rfl) ⟨hS.cell rfl, hS.cells rfl⟩ (fun w hS => y_load pl_32 rfl hS.1) (zD (i := 5) 63 rfl rfl (by kernel_rfl) ⟨hS.cell rfl, hS.cells rfl⟩ (fun w hS => y_loadS st_48 sz_48 rfl hS.2 rfl) (zU (i := 6) 127 rfl (by kernel_rfl) (wl_call (.cons rfl .nil) (rcopy_c r (.slice sa r.ups.length sc) hul hs0 hS) rfl ?_)))))))))))))))))))))))))
    rintro _ w ⟨M2, s2, rfl, hM2, hs2, hS⟩
    obtain ⟨sa2, sc2, rfl⟩ := (hs2.holds hS).slice
    refine zE ⟨fun _ _ => ⟨hS.cell rfl, hS.cells rfl⟩, zU (i := 7) 255 rfl (by kernel_rfl) (a_bslice encRV [⟨r.o, r.n, sa2, r.ups.length, sc2⟩] Tryz.underlying32 sz_48 z_48 rfl (.cons rfl .nil) rfl rfl rfl (by decide) hS rfl fun u Hu w hou hS => zE ⟨fun _ _ => ⟨hS.cell rfl, hS.cells rfl⟩, zU (i := 8) 511 rfl (by kernel_rfl) (a_append Tryz.underlying32 Tryz.underlying32 sz_48 z_48 rfl by_48 (by decide) rfl rfl h1 (hou.holds hS) hS (by simp; omega) rfl fun s3 H3 w ho3 hS => ?_)⟩)⟩
    obtain ⟨sa3, sc3, rfl⟩ := ho3.slice
    refine zE ⟨fun h => absurd (by decide) h, zP (i := 9) 1023 rfl rfl (by kernel_rfl) (fun w => y_nil rfl) (zP (i := 10) 2047 rfl rfl (by kernel_rfl) (fun w => y_fld fl_168_4 rfl) (zU (i := 11) 4095 rfl (by kernel_rfl) (a_store sz_32 rfl rfl rfl hS (Nat.le_of_ble_eq_true rfl) fun w hS => zE ⟨fun h => absurd (by decide) h, zH (by kernel_rfl) (zQ (zR (zA rfl rfl (zE (wc_ret (wret (vs := [_]) (.tmp rfl .nil) ?_))))))⟩)))⟩
    simp only [zL, cells_agg, setCells] at hS
    exact ⟨M2, _, hM2, rfl, ⟨_, _, H3, _, _, Hp, so, ho3, (h2.mono hM2).append (.cons (x := ⟨r.o, r.n, sa2, r.ups.length, sc2⟩) ⟨rfl, rfl, hs2, hul⟩ .nil), h3, h4.mono hM2, h5.mono hM2, rfl⟩, hS.keep⟩
end
end Go.Proofs.YtndahppmjdbifaaGreatDoor.Cli
set_option linter.unusedVariables false
set_option linter.unusedSimpArgs false
namespace Go.Proofs.YtndahppmjdbifaaGreatDoor.Nod
open Go Go.Proofs Go.Proofs.YtndahppmjdbifaaGreatDoor.Eng Go.Proofs.YtndahppmjdbifaaGreatDoor.Pre Go.Proofs.YtndahppmjdbifaaGreatDoor.Val Go.Proofs.YtndahppmjdbifaaGreatDoor.Rou Go.Proofs.YtndahppmjdbifaaGreatDoor.Fra Go.Proofs.YtndahppmjdbifaaGreatDoor.Snd Go.Proofs.YtndahppmjdbifaaGreatDoor.Lnk Go.Proofs.YtndahppmjdbifaaGreatDoor.Jnl Go.Proofs.YtndahppmjdbifaaGreatDoor.Cli
structure Cfg where
  clients : Int
  window : Int
  push : Int
  pull : Int
  mtu : Int
  last : Int
def cfgV (c : Cfg) : Value := .agg [.int .i64 c.clients, .int .i64 c.window, .int .i64 c.push, .int .i64 c.pull, .int .i64 c.mtu, .int .i64 c.last].toArray
def mayC (c : Cfg) : Nat := if 1 ≤ c.clients ∧ c.clients ≤ 64 ∧ 1 ≤ c.window ∧ c.window ≤ 16 ∧ 1 ≤ c.push ∧ c.push ≤ 16 ∧ 1 ≤ c.pull ∧ c.pull ≤ 16 ∧ 64 ≤ c.mtu ∧ c.mtu ≤ 1400 ∧ 1 ≤ c.last ∧ c.last ≤ 1099511627776 then 0 else 1
structure Nod where
  c : Cfg
  origin : Int
  j : Jnl
  k : Lnk
  own : Cli
  offered : Nat
def Nod.new (c : Cfg) (origin : Int) : Nod := ⟨c, origin, Jnl.new origin c.last, Lnk.new 1 c.window c.pull false, Cli.new (Jnl.new origin c.last) origin c.mtu c.push, 0⟩
def Nod.upd (m : Nod) (u : Upd) : Nod := { m with own := m.own.upd u }
def Nod.push (m : Nod) : Nod := { m with own := m.own.pushC m.j, j := m.own.pushJ m.j }
def Nod.resetE (m : Nod) : Nat := if (m.k.ep : Int) ≥ m.c.last then 8 else 0
def Nod.reset (m : Nod) : Nod := if m.resetE = 0 then { m with k := Lnk.new (m.k.ep + 1) m.c.window m.c.pull false, offered := 0, own := m.own.resume m.j } else m
@[irreducible] def Nod.hearE (m : Nod) (b : ByteArray) : Nat := if fgetE b ≠ 0 then fgetE b else if (fget b).ep ≠ m.k.ep then 9 else 0
def Nod.hear (m : Nod) (b : ByteArray) : Nod := if m.hearE b = 0 then { m with k := m.k.hear (fget b) } else m
abbrev nodQ (c : Cfg) (origin : Int) (jp kp cp : Nat) (off : Int) : Obj := .cells #[.int .i64 c.clients, .int .i64 c.window, .int .i64 c.push, .int .i64 c.pull, .int .i64 c.mtu, .int .i64 c.last, .int .i64 origin, .pointer (some ⟨jp, 0, none⟩), .pointer (some ⟨kp, 0, none⟩), .pointer (some ⟨cp, 0, none⟩), .int .i64 off] 97
abbrev nodO (jp kp cp : Nat) (m : Nod) : Obj := nodQ m.c m.origin jp kp cp m.offered
def IsN (M : Mem) (p : Nat) (m : Nod) (H : Chunk) : Prop :=
  ∃ jp kp cp Hj Hk Hc, IsJ M jp m.j Hj ∧ IsL kp m.k Hk ∧ IsC M cp jp m.own Hc ∧ H = (p, nodO jp kp cp m) :: (Hj ++ (Hk ++ Hc))
theorem IsN.mono {M M' : Mem} {p : Nat} {m : Nod} {H : Chunk} (h : IsN M p m H) (hm : Mle M M') : IsN M' p m H := by
  obtain ⟨jp, kp, cp, Hj, Hk, Hc, h1, h2, h3, h4⟩ := h
  exact ⟨jp, kp, cp, Hj, Hk, Hc, h1.mono hm, h2, h3.mono hm, h4⟩
theorem _root_.Go.Proofs.YtndahppmjdbifaaGreatDoor.Eng.St.un3 {M : Mem} {w : World} {Ls : List Chunk} {A B C : Chunk} {x : Nat × Obj} (h : St M w ((x :: (A ++ (B ++ C))) :: Ls)) : St M w ([x] :: A :: B :: C :: Ls) := h.perm (by simp)
section
variable {M : Mem} {w : World} {Ls : List Chunk}
theorem sin_c (n lo hi : Int) (hS : St M w Ls) : CallsR Tryz.prog 111 [.int .i64 n, .int .i64 lo, .int .i64 hi].toArray w fun v w' => v = .bool (decide (lo ≤ n ∧ n ≤ hi)) ∧ St M w' Ls := by
  refine calls_of (c := _) (rs := _) (n := 15) Tryz.func111 rfl rfl rfl rfl rfl (zQ (zR (zA rfl rfl (zE (zQ (zR (zM rfl rfl (zM rfl rfl (wl (y_geq rfl rfl) rfl (zM rfl rfl (wl_cases (s := 10) rfl (fun hg10 => ?_) (fun hg10 => ?_))))))))))))
  · try simp only [zZ] at hg10
    refine zI rfl rfl (zM rfl rfl (zI rfl rfl (zM rfl rfl (zI rfl rfl (wl (y_leq rfl rfl) rfl (wl (y_pickT rfl rfl) rfl (zA rfl rfl (zE (wc_ret (wret (vs := [_]) (.tmp rfl .nil) ?_))))))))))
    first
    | exact ⟨congrArg Value.bool (decide_eq_decide.2 ⟨fun h => ⟨by omega, h⟩, fun h => h.2⟩), hS⟩
    | exact ⟨congrArg Value.bool (decide_eq_false (fun h => by omega)).symm, hS⟩
  · try simp only [zZ] at hg10
    refine zO rfl rfl rfl rfl (zO rfl rfl rfl rfl (zO rfl rfl rfl rfl (wl (y_pickF rfl rfl) rfl (zA rfl rfl (zE (wc_ret (wret (vs := [_]) (.tmp rfl .nil) ?_)))))))
    first
    | exact ⟨congrArg Value.bool (decide_eq_decide.2 ⟨fun h => ⟨by omega, h⟩, fun h => h.2⟩), hS⟩
    | exact ⟨congrArg Value.bool (decide_eq_false (fun h => by omega)).symm, hS⟩
theorem smay_c (c : Cfg) (hS : St M w Ls) : CallsR Tryz.prog 77 [cfgV c].toArray w fun v w' => v = .int .i64 (mayC c) ∧ St M w' Ls := by
  refine calls_of (c := _) (rs := _) (n := 37) Tryz.func77 rfl rfl rfl rfl rfl (zQ (zR (a_box rfl hS rfl fun b1 w hS => zA rfl rfl (zE (zQ (zQ (zR (zF fl_23_0 rfl rfl (wl (y_load pl_3 rfl (hS.cell rfl)) rfl (wl_call (.cons rfl (.cons rfl (.cons rfl .nil))) (sin_c c.clients 1 64 hS) rfl ?_))))))))))
  rintro _ w ⟨rfl, hS⟩
  refine wl (y_not rfl) rfl (zM rfl rfl (wl_cases (s := 7) rfl (fun hg7 => ?_) (fun hg7 => ?_)))
  · try simp only [zZ] at hg7
    refine zO rfl rfl rfl rfl (zO rfl rfl rfl rfl (zO rfl rfl rfl rfl (zO rfl rfl rfl rfl (wl (y_pickT rfl rfl) rfl (zM rfl rfl (zO rfl rfl rfl rfl (zO rfl rfl rfl rfl (zO rfl rfl rfl rfl (zO rfl rfl rfl rfl (wl (y_pickT rfl rfl) rfl (zM rfl rfl (zO rfl rfl rfl rfl (zO rfl rfl rfl rfl (zO rfl rfl rfl rfl (zO rfl rfl rfl rfl (wl (y_pickT rfl rfl) rfl (zM rfl rfl (zO rfl rfl rfl rfl (zO rfl rfl rfl rfl (zO rfl rfl rfl rfl (zO rfl rfl rfl rfl (wl (y_pickT rfl rfl) rfl (zM rfl rfl (zO rfl rfl rfl rfl (zO rfl rfl rfl rfl (zO rfl rfl rfl rfl (zO rfl rfl rfl rfl (wl (y_pickT rfl rfl) rfl (zE (wc_ifT rfl rfl (zQ (zR (zA rfl rfl (zE (wc_ret (wret (vs := [_]) (.tmp rfl .nil) ?_))))))))))))))))))))))))))))))))))))
    first
    | exact ⟨congrArg (Value.int .i64) (by unfold mayC; rw [if_neg (by omega)]; rfl), hS.keep⟩
    | exact ⟨congrArg (Value.int .i64) (by unfold mayC; rw [if_pos (by omega)]; rfl), hS.keep⟩
  · try simp only [zZ] at hg7
    refine zI rfl rfl (zF fl_23_1 rfl rfl (zI rfl rfl (wl (y_load pl_3 rfl (hS.cell rfl)) rfl (zI rfl rfl (wl_call (.cons rfl (.cons rfl (.cons rfl .nil))) (sin_c c.window 1 16 hS) rfl ?_)))))
    rintro _ w ⟨rfl, hS⟩
    refine zI rfl rfl (wl (y_not rfl) rfl (wl (y_pickF rfl rfl) rfl (zM rfl rfl (wl_cases (s := 13) rfl (fun hg13 => ?_) (fun hg13 => ?_)))))
    · try simp only [zZ] at hg13
      refine zO rfl rfl rfl rfl (zO rfl rfl rfl rfl (zO rfl rfl rfl rfl (zO rfl rfl rfl rfl (wl (y_pickT rfl rfl) rfl (zM rfl rfl (zO rfl rfl rfl rfl (zO rfl rfl rfl rfl (zO rfl rfl rfl rfl (zO rfl rfl rfl rfl (wl (y_pickT rfl rfl) rfl (zM rfl rfl (zO rfl rfl rfl rfl (zO rfl rfl rfl rfl (zO rfl rfl rfl rfl (zO rfl rfl rfl rfl (wl (y_pickT rfl rfl) rfl (zM rfl rfl (zO rfl rfl rfl rfl (zO rfl rfl rfl rfl (zO rfl rfl rfl rfl (zO rfl rfl rfl rfl (wl (y_pickT rfl rfl) rfl (zE (wc_ifT rfl rfl (zQ (zR (zA rfl rfl (zE (wc_ret (wret (vs := [_]) (.tmp rfl .nil) ?_))))))))))))))))))))))))))))))
      first
      | exact ⟨congrArg (Value.int .i64) (by unfold mayC; rw [if_neg (by omega)]; rfl), hS.keep⟩
      | exact ⟨congrArg (Value.int .i64) (by unfold mayC; rw [if_pos (by omega)]; rfl), hS.keep⟩
    · try simp only [zZ] at hg13
      refine zI rfl rfl (zF fl_23_2 rfl rfl (zI rfl rfl (wl (y_load pl_3 rfl (hS.cell rfl)) rfl (zI rfl rfl (wl_call (.cons rfl (.cons rfl (.cons rfl .nil))) (sin_c c.push 1 16 hS) rfl ?_)))))
      rintro _ w ⟨rfl, hS⟩
      refine zI rfl rfl (wl (y_not rfl) rfl (wl (y_pickF rfl rfl) rfl (zM rfl rfl (wl_cases (s := 19) rfl (fun hg19 => ?_) (fun hg19 => ?_)))))
      · try simp only [zZ] at hg19
        refine zO rfl rfl rfl rfl (zO rfl rfl rfl rfl (zO rfl rfl rfl rfl (zO rfl rfl rfl rfl (wl (y_pickT rfl rfl) rfl (zM rfl rfl (zO rfl rfl rfl rfl (zO rfl rfl rfl rfl (zO rfl rfl rfl rfl (zO rfl rfl rfl rfl (wl (y_pickT rfl rfl) rfl (zM rfl rfl (zO rfl rfl rfl rfl (zO rfl rfl rfl rfl (zO rfl rfl rfl rfl (zO rfl rfl rfl rfl (wl (y_pickT rfl rfl) rfl (zE (wc_ifT rfl rfl (zQ (zR (zA rfl rfl (zE (wc_ret (wret (vs := [_]) (.tmp rfl .nil) ?_))))))))))))))))))))))))
        first
        | exact ⟨congrArg (Value.int .i64) (by unfold mayC; rw [if_neg (by omega)]; rfl), hS.keep⟩
        | exact ⟨congrArg (Value.int .i64) (by unfold mayC; rw [if_pos (by omega)]; rfl), hS.keep⟩
      · try simp only [zZ] at hg19
        refine zI rfl rfl (zF fl_23_3 rfl rfl (zI rfl rfl (wl (y_load pl_3 rfl (hS.cell rfl)) rfl (zI rfl rfl (wl_call (.cons rfl (.cons rfl (.cons rfl .nil))) (sin_c c.pull 1 16 hS) rfl ?_)))))
        rintro _ w ⟨rfl, hS⟩
        refine zI rfl rfl (wl (y_not rfl) rfl (wl (y_pickF rfl rfl) rfl (zM rfl rfl (wl_cases (s := 25) rfl (fun hg25 => ?_) (fun hg25 => ?_)))))
        · try simp only [zZ] at hg25
          refine zO rfl rfl rfl rfl (zO rfl rfl rfl rfl (zO rfl rfl rfl rfl (zO rfl rfl rfl rfl (wl (y_pickT rfl rfl) rfl (zM rfl rfl (zO rfl rfl rfl rfl (zO rfl rfl rfl rfl (zO rfl rfl rfl rfl (zO rfl rfl rfl rfl (wl (y_pickT rfl rfl) rfl (zE (wc_ifT rfl rfl (zQ (zR (zA rfl rfl (zE (wc_ret (wret (vs := [_]) (.tmp rfl .nil) ?_))))))))))))))))))
          first
          | exact ⟨congrArg (Value.int .i64) (by unfold mayC; rw [if_neg (by omega)]; rfl), hS.keep⟩
          | exact ⟨congrArg (Value.int .i64) (by unfold mayC; rw [if_pos (by omega)]; rfl), hS.keep⟩
        · try simp only [zZ] at hg25
          refine zI rfl rfl (zF fl_23_4 rfl rfl (zI rfl rfl (wl (y_load pl_3 rfl (hS.cell rfl)) rfl (zI rfl rfl (wl_call (.cons rfl (.cons rfl (.cons rfl .nil))) (sin_c c.mtu 64 1400 hS) rfl ?_)))))
          rintro _ w ⟨rfl, hS⟩
          refine zI rfl rfl (wl (y_not rfl) rfl (wl (y_pickF rfl rfl) rfl (zM rfl rfl (wl_cases (s := 31) rfl (fun hg31 => ?_) (fun hg31 => ?_)))))
          · try simp only [zZ] at hg31
            refine zO rfl rfl rfl rfl (zO rfl rfl rfl rfl (zO rfl rfl rfl rfl (zO rfl rfl rfl rfl (wl (y_pickT rfl rfl) rfl (zE (wc_ifT rfl rfl (zQ (zR (zA rfl rfl (zE (wc_ret (wret (vs := [_]) (.tmp rfl .nil) ?_))))))))))))
            first
            | exact ⟨congrArg (Value.int .i64) (by unfold mayC; rw [if_neg (by omega)]; rfl), hS.keep⟩
            | exact ⟨congrArg (Value.int .i64) (by unfold mayC; rw [if_pos (by omega)]; rfl), hS.keep⟩
          · try simp only [zZ] at hg31
            refine zI rfl rfl (zF fl_23_5 rfl rfl (zI rfl rfl (wl (y_load pl_3 rfl (hS.cell rfl)) rfl (zI rfl rfl (wl_call (.cons rfl (.cons rfl (.cons rfl .nil))) (sin_c c.last 1 1099511627776 hS) rfl ?_)))))
            rintro _ w ⟨rfl, hS⟩
            refine zI rfl rfl (wl (y_not rfl) rfl (wl (y_pickF rfl rfl) rfl (zE (wc_if rfl (fun hc36 => ?_) (fun hc36 => ?_)))))
            · try simp only [zZ] at hc36
              refine zQ (zR (zA rfl rfl (zE (wc_ret (wret (vs := [_]) (.tmp rfl .nil) ?_)))))
              first
              | exact ⟨congrArg (Value.int .i64) (by unfold mayC; rw [if_neg (by omega)]; rfl), hS.keep⟩
              | exact ⟨congrArg (Value.int .i64) (by unfold mayC; rw [if_pos (by omega)]; rfl), hS.keep⟩
            · try simp only [zZ] at hc36
              refine zK (zQ (zR (zA rfl rfl (zE (wc_ret (wret (vs := [_]) (.tmp rfl .nil) ?_))))))
              first
              | exact ⟨congrArg (Value.int .i64) (by unfold mayC; rw [if_neg (by omega)]; rfl), hS.keep⟩
              | exact ⟨congrArg (Value.int .i64) (by unfold mayC; rw [if_pos (by omega)]; rfl), hS.keep⟩
end
end Go.Proofs.YtndahppmjdbifaaGreatDoor.Nod
set_option linter.unusedVariables false
set_option linter.unusedSimpArgs false
namespace Go.Proofs.YtndahppmjdbifaaGreatDoor.Nod
open Go Go.Proofs Go.Proofs.YtndahppmjdbifaaGreatDoor.Eng Go.Proofs.YtndahppmjdbifaaGreatDoor.Pre Go.Proofs.YtndahppmjdbifaaGreatDoor.Val Go.Proofs.YtndahppmjdbifaaGreatDoor.Rou Go.Proofs.YtndahppmjdbifaaGreatDoor.Fra Go.Proofs.YtndahppmjdbifaaGreatDoor.Snd Go.Proofs.YtndahppmjdbifaaGreatDoor.Lnk Go.Proofs.YtndahppmjdbifaaGreatDoor.Jnl Go.Proofs.YtndahppmjdbifaaGreatDoor.Cli
@[irreducible] def newE (c : Cfg) (origin : Int) : Nat := if mayC c ≠ 0 then mayC c else if origin < 1 ∨ origin > c.clients then 11 else 0
section
variable {M : Mem} {w : World} {Ls : List Chunk}
theorem nbegin_c {p : Nat} {c : Cfg} {origin off : Int} {a k b : Value} (ep : Int) (hS : St M w ([(p, .cells #[.int .i64 c.clients, .int .i64 c.window, .int .i64 c.push, .int .i64 c.pull, .int .i64 c.mtu, .int .i64 c.last, .int .i64 origin, a, k, b, .int .i64 off] 97)] :: Ls)) :
    CallsR Tryz.prog 56 [.pointer (some ⟨p, 0, none⟩), .int .i64 ep].toArray w fun v w' => ∃ kp Hk, v = .tuple #[] ∧ IsL kp (Lnk.new ep c.window c.pull false) Hk ∧ St M w' ([(p, .cells #[.int .i64 c.clients, .int .i64 c.window, .int .i64 c.push, .int .i64 c.pull, .int .i64 c.mtu, .int .i64 c.last, .int .i64 origin, a, .pointer (some ⟨kp, 0, none⟩), b, .int .i64 0] 97)] :: Hk :: Ls) := by
  refine calls_of (c := _) (rs := _) (n := 22) Tryz.func56 rfl rfl rfl rfl rfl (zQ (zW hS (fun w => w.cell? ⟨p, 1, none⟩ = some (.int .i64 c.window) ∧ w.cell? ⟨p, 3, none⟩ = some (.int .i64 c.pull)) [12, 15] wide_ rfl rfl fun w hS => zP (i := 0) 1 rfl rfl (by kernel_rfl) (fun _ => y_move rfl) (zP (i := 1) 3 rfl rfl (by kernel_rfl) (fun _ => y_move rfl) (zP (i := 2) 7 rfl rfl (by kernel_rfl) (fun _ => y_move rfl) (zP (i := 3) 15 rfl rfl (by kernel_rfl) (fun w => y_nil rfl) (zP (i := 4) 31 rfl rfl (by kernel_rfl) (fun w => y_fld fl_97_0 rfl) (zP (i := 5) 63 rfl rfl (by kernel_rfl) (fun w => y_fld fl_23_1 rfl) (zP (i := 7) 191 rfl rfl (by kernel_rfl) (fun _ => y_move rfl) (zP (i := 8) 447 rfl rfl (by kernel_rfl) (fun w => y_nil rfl) (zP (i := 9) 959 rfl rfl (by kernel_rfl) (fun w => y_fld fl_97_0 rfl) (zP (i := 10) 1983 rfl rfl (by kernel_rfl) (fun w => y_fld fl_23_3 rfl) (zD (i := 6) 2047 rfl rfl (by kernel_rfl) ⟨hS.cell rfl, hS.cell rfl⟩ (fun w hS => y_load pl_3 rfl hS.1) (zD (i := 11) 4095 rfl rfl (by kernel_rfl) ⟨hS.cell rfl, hS.cell rfl⟩ (fun w hS => y_load pl_3 rfl hS.2) (zU (i := 12) 8191 rfl (by kernel_rfl) (wl_call (.cons rfl (.cons rfl (.cons rfl (.cons rfl .nil)))) (lnew_c ep c.window c.pull false hS) rfl ?_)))))))))))))))
  rintro _ w ⟨kp, Hk, rfl, hl, hS⟩
  refine zE ⟨fun h => absurd (by decide) h, zP (i := 13) 16383 rfl rfl (by kernel_rfl) (fun w => y_nil rfl) (zP (i := 14) 32767 rfl rfl (by kernel_rfl) (fun w => y_fld fl_97_3 rfl) (zU (i := 15) 65535 rfl (by kernel_rfl) (a_store sz_94 rfl rfl rfl hS (Nat.le_of_ble_eq_true rfl) fun w hS => zE ⟨fun h => absurd (by decide) h, zH (by kernel_rfl) (zR (zM rfl rfl (zN rfl rfl (zF fl_97_5 rfl rfl (a_store sz_3 rfl rfl rfl hS (Nat.le_of_ble_eq_true rfl) fun w hS => zE (wretN (vs := []) .nil ?_))))))⟩)))⟩
  simp only [zL, cells_agg, setCells] at hS
  exact ⟨kp, Hk, rfl, hl, hS.keep⟩
theorem nnew_c (c : Cfg) (origin : Int) (hS : St M w Ls) :
    CallsR Tryz.prog 23 [cfgV c, .int .i64 origin].toArray w fun v w' => ∃ M', Mle M M' ∧ ((newE c origin ≠ 0 ∧ v = .tuple [.pointer none, .int .i64 (newE c origin)].toArray ∧ St M' w' Ls) ∨ (newE c origin = 0 ∧ ∃ p H, v = .tuple [.pointer (some ⟨p, 0, none⟩), .int .i64 0].toArray ∧ IsN M' p (Nod.new c origin) H ∧ St M' w' (H :: Ls))) := by
  refine calls_of (c := _) (rs := _) (n := 41) Tryz.func23 rfl rfl rfl rfl rfl (zQ (zR (a_box rfl hS rfl fun b2 w hS => zA rfl rfl (zA rfl rfl (zE (zQ (zQ (zR (wl ((y_loadS st_23 sz_23 rfl (vs := [.int .i64 c.clients, .int .i64 c.window, .int .i64 c.push, .int .i64 c.pull, .int .i64 c.mtu, .int .i64 c.last]) (hS.cells rfl) rfl).val (show _ = cfgV c from rfl)) rfl (wl_call (.cons rfl .nil) (smay_c c hS) rfl ?_))))))))))
  rintro _ w ⟨rfl, hS⟩
  refine zA rfl rfl (zE (zQ (zR (zM rfl rfl (wl (y_neq rfl rfl) rfl (zE (wc_if rfl (fun hc12 => ?_) (fun hc12 => ?_))))))))
  · try simp only [zZ] at hc12
    have he : newE c origin = mayC c := by unfold newE; rw [if_pos (by omega)]
    have hz : newE c origin ≠ 0 := by omega
    refine zQ (zR (zM rfl rfl (zA rfl rfl (zA rfl rfl (zE (wc_ret (wret (vs := [_, _]) (.tmp rfl (.tmp rfl .nil)) ?_)))))))
    first
    | exact ⟨M, Mle.refl _, .inl ⟨hz, by rw [he]; rfl, hS.keep⟩⟩
    | exact ⟨M, Mle.refl _, .inl ⟨by rw [he]; decide, by rw [he]; rfl, hS.keep⟩⟩
    | exact ⟨M1, hM, .inr ⟨he, _, _, rfl, ⟨jp, kp, cp, Hj, Hk, Hc, hj1, hk, hc, rfl⟩, (by have h := hS.keep (T := ((b37, nodQ c origin jp kp cp 0) :: (Hj ++ (Hk ++ Hc))) :: Ls); exact h)⟩⟩
  · try simp only [zZ] at hc12
    refine zK (zQ (zQ (zR (zM rfl rfl (wl (y_lss rfl rfl) rfl (zM rfl rfl (wl_cases (s := 16) rfl (fun hg16 => ?_) (fun hg16 => ?_))))))))
    · try simp only [zZ] at hg16
      have he : newE c origin = 11 := by unfold newE; rw [if_neg (by omega), if_pos (by omega)]
      refine zO rfl rfl rfl rfl (zO rfl rfl rfl rfl (zO rfl rfl rfl rfl (zO rfl rfl rfl rfl (wl (y_pickT rfl rfl) rfl (zE (wc_ifT rfl rfl (zQ (zR (zA rfl rfl (zA rfl rfl (zE (wc_ret (wret (vs := [_, _]) (.tmp rfl (.tmp rfl .nil)) ?_)))))))))))))
      first
      | exact ⟨M, Mle.refl _, .inl ⟨hz, by rw [he]; rfl, hS.keep⟩⟩
      | exact ⟨M, Mle.refl _, .inl ⟨by rw [he]; decide, by rw [he]; rfl, hS.keep⟩⟩
      | exact ⟨M1, hM, .inr ⟨he, _, _, rfl, ⟨jp, kp, cp, Hj, Hk, Hc, hj1, hk, hc, rfl⟩, (by have h := hS.keep (T := ((b37, nodQ c origin jp kp cp 0) :: (Hj ++ (Hk ++ Hc))) :: Ls); exact h)⟩⟩
    · try simp only [zZ] at hg16
      refine zI rfl rfl (zM rfl rfl (zI rfl rfl (zF fl_23_0 rfl rfl (zI rfl rfl (wl (y_load pl_3 rfl (hS.cell (v := .int .i64 c.clients) rfl)) rfl (zI rfl rfl (wl (y_gtr rfl rfl) rfl (wl (y_pickF rfl rfl) rfl (zE (wc_if rfl (fun hc21 => ?_) (fun hc21 => ?_)))))))))))
      · try simp only [zZ] at hc21
        have he : newE c origin = 11 := by unfold newE; rw [if_neg (by omega), if_pos (by omega)]
        refine zQ (zR (zA rfl rfl (zA rfl rfl (zE (wc_ret (wret (vs := [_, _]) (.tmp rfl (.tmp rfl .nil)) ?_))))))
        first
        | exact ⟨M, Mle.refl _, .inl ⟨hz, by rw [he]; rfl, hS.keep⟩⟩
        | exact ⟨M, Mle.refl _, .inl ⟨by rw [he]; decide, by rw [he]; rfl, hS.keep⟩⟩
        | exact ⟨M1, hM, .inr ⟨he, _, _, rfl, ⟨jp, kp, cp, Hj, Hk, Hc, hj1, hk, hc, rfl⟩, (by have h := hS.keep (T := ((b37, nodQ c origin jp kp cp 0) :: (Hj ++ (Hk ++ Hc))) :: Ls); exact h)⟩⟩
      · try simp only [zZ] at hc21
        have he : newE c origin = 0 := by unfold newE; rw [if_neg (by omega), if_neg (by omega)]
        refine zK (zQ (zR (zM rfl rfl (zF fl_23_5 rfl rfl (wl (y_load pl_3 rfl (hS.cell (v := .int .i64 c.last) rfl)) rfl (wl_call (.cons rfl (.cons rfl .nil)) (jnew_c origin c.last hS) rfl ?_))))))
        rintro _ w ⟨jp, Hj, rfl, hj, hS⟩
        refine zA rfl rfl (zE (zQ (zW hS (fun w => CellsAt w b2 0 [.int .i64 c.clients, .int .i64 c.window, .int .i64 c.push, .int .i64 c.pull, .int .i64 c.mtu, .int .i64 c.last] ∧ w.cell? ⟨b2, 4, none⟩ = some (.int .i64 c.mtu) ∧ w.cell? ⟨b2, 2, none⟩ = some (.int .i64 c.push)) [11, 12] wide_ rfl rfl fun w hS => zP (i := 1) 2 rfl rfl (by kernel_rfl) (fun _ => y_move rfl) (zP (i := 2) 6 rfl rfl (by kernel_rfl) (fun _ => y_move rfl) (zP (i := 3) 14 rfl rfl (by kernel_rfl) (fun _ => y_move rfl) (zP (i := 4) 30 rfl rfl (by kernel_rfl) (fun _ => y_move rfl) (zP (i := 5) 62 rfl rfl (by kernel_rfl) (fun w => y_fld fl_23_4 rfl) (zP (i := 7) 190 rfl rfl (by kernel_rfl) (fun w => y_fld fl_23_2 rfl) (zD (i := 0) 191 rfl rfl (by kernel_rfl) ⟨hS.cells rfl, hS.cell rfl, hS.cell rfl⟩ (fun w hS => y_loadS st_23 sz_23 rfl hS.1 rfl) (zD (i := 6) 255 rfl rfl (by kernel_rfl) ⟨hS.cells rfl, hS.cell rfl, hS.cell rfl⟩ (fun w hS => y_load pl_3 rfl hS.2.1) (zD (i := 8) 511 rfl rfl (by kernel_rfl) ⟨hS.cells rfl, hS.cell rfl, hS.cell rfl⟩ (fun w hS => y_load pl_3 rfl hS.2.2) (zU (i := 9) 1023 rfl (by kernel_rfl) (wl_call (.cons rfl (.cons rfl (.cons rfl (.cons rfl .nil)))) (cnew_c origin c.mtu c.push (show (Jnl.new origin c.last).l.length ≤ _ from by unfold Jnl.new; simp) hj (hS.pull Hj)) rfl ?_)))))))))))))
        rintro _ w ⟨M1, cp, Hc, rfl, hM, hc, hj1, hS⟩
        refine zE ⟨fun _ _ => ⟨hS.cells rfl, hS.cell rfl, hS.cell rfl⟩, zP (i := 10) 2047 rfl rfl (by kernel_rfl) (fun w => y_build (is := [0, 1, 2, 4]) (xs := [_, _, _, _]) (out := [_, _, _, _, _, _, _, _, _, _, _]) plc_97 z_97 (.cons rfl (.cons rfl (.cons rfl (.cons rfl .nil)))) rfl) (zU (i := 11) 4095 rfl (by kernel_rfl) (a_box rfl hS rfl fun b37 w hS => zE ⟨fun h => absurd (by decide) h, zP (i := 12) 8191 rfl rfl (by kernel_rfl) (fun w => y_assign rfl) (zH (by kernel_rfl) (zQ (zR (zM rfl rfl (wl_call (.cons rfl (.cons rfl .nil)) (nbegin_c (c := c) (origin := origin) (off := 0) 1 hS) rfl ?_)))))⟩))⟩
        rintro _ w ⟨kp, Hk, rfl, hk, hS⟩
        refine zE (zQ (zR (zM rfl rfl (zA rfl rfl (zA rfl rfl (zE (wc_ret (wret (vs := [_, _]) (.tmp rfl (.tmp rfl .nil)) ?_))))))))
        first
        | exact ⟨M, Mle.refl _, .inl ⟨hz, by rw [he]; rfl, hS.keep⟩⟩
        | exact ⟨M, Mle.refl _, .inl ⟨by rw [he]; decide, by rw [he]; rfl, hS.keep⟩⟩
        | exact ⟨M1, hM, .inr ⟨he, _, _, rfl, ⟨jp, kp, cp, Hj, Hk, Hc, hj1, hk, hc, rfl⟩, (by have h := hS.keep (T := ((b37, nodQ c origin jp kp cp 0) :: (Hj ++ (Hk ++ Hc))) :: Ls); exact h)⟩⟩
theorem nupd_c (hG : Bits M) (u : Upd) {p : Nat} {m : Nod} {H : Chunk} (hmt : 0 ≤ m.own.mtu ∧ m.own.mtu ≤ 1400) (hl : m.own.opn.length ≤ 13743895) (hb : IsN M p m H) (hS : St M w (H :: Ls)) :
    CallsR Tryz.prog 31 [.pointer (some ⟨p, 0, none⟩), uv u].toArray w fun v w' => ∃ M' H', Mle M M' ∧ v = .int .i64 (m.own.updE u) ∧ IsN M' p (m.upd u) H' ∧ St M' w' (H' :: Ls) := by
  obtain ⟨jp, kp, cp, Hj, Hk, Hc, h1, h2, h3, rfl⟩ := hb
  replace hS := hS.un3
  refine calls_of (c := _) (rs := _) (n := 11) Tryz.func31 rfl rfl rfl rfl rfl (zQ (zR (a_box rfl hS rfl fun b3 w hS => zA rfl rfl (zE (zQ (zW hS (fun w => CellsAt w b3 0 (encU.f u) ∧ w.cell? ⟨p, 9, none⟩ = some (.pointer (some ⟨cp, 0, none⟩))) [5] wide_ rfl rfl fun w hS => zP (i := 0) 1 rfl rfl (by kernel_rfl) (fun _ => y_move rfl) (zP (i := 1) 3 rfl rfl (by kernel_rfl) (fun w => y_nil rfl) (zP (i := 2) 7 rfl rfl (by kernel_rfl) (fun w => y_fld fl_97_4 rfl) (zD (i := 3) 15 rfl rfl (by kernel_rfl) ⟨hS.cells rfl, hS.cell rfl⟩ (fun w hS => y_load pl_95 rfl hS.2) (zD (i := 4) 31 rfl rfl (by kernel_rfl) ⟨hS.cells rfl, hS.cell rfl⟩ (fun w hS => (y_loadS st_59 sz_59 rfl hS.1 rfl).val (show _ = uv u from rfl)) (zU (i := 5) 63 rfl (by kernel_rfl) (wl_call (.cons rfl (.cons rfl .nil)) (cupd_c hG u hmt hl h3 (hS.pull Hc)) rfl ?_))))))))))))
  rintro _ w ⟨M1, H1, hM, rfl, h3, hS⟩
  refine zE ⟨fun h => absurd (by decide) h, zP (i := 6) 127 rfl rfl (by kernel_rfl) (fun w => y_assign rfl) (zH (by kernel_rfl) (wc_ret (wret (vs := [_]) (.tmp rfl .nil) ?_)))⟩
  exact ⟨M1, _, hM, rfl, ⟨jp, kp, cp, Hj, Hk, H1, h1.mono hM, h2, h3, rfl⟩, (by have h := hS.keep (T := ((p, nodO jp kp cp m) :: (Hj ++ (Hk ++ H1))) :: Ls); exact h)⟩
theorem npush_c {p : Nat} {m : Nod} {H : Chunk} (hpl : m.own.pending.length ≤ 137438953) (hjl : m.j.l.length ≤ 137438953472) (hl : m.own.opn.length ≤ 13743895) (hb : IsN M p m H) (hS : St M w (H :: Ls)) :
    CallsR Tryz.prog 33 [.pointer (some ⟨p, 0, none⟩)].toArray w fun v w' => ∃ M' H', Mle M M' ∧ v = .tuple [.int .i64 (m.own.pushR m.j).n, .int .i64 (m.own.pushE m.j)].toArray ∧ IsN M' p m.push H' ∧ St M' w' (H' :: Ls) := by
  obtain ⟨jp, kp, cp, Hj, Hk, Hc, h1, h2, h3, rfl⟩ := hb
  replace hS := hS.un3
  refine calls_of (c := _) (rs := _) (n := 17) Tryz.func33 rfl rfl rfl rfl rfl (zQ (zR (zA rfl rfl (zA rfl rfl (zE (zQ (zR (zM rfl rfl (zN rfl rfl (zF fl_97_4 rfl rfl (wl (y_load pl_95 rfl (hS.cell (v := .pointer (some ⟨cp, 0, none⟩)) rfl)) rfl (wl_call (.cons rfl .nil) (cpush_c hpl hjl hl h3 h1 (hS.keep (T := Hc :: Hj :: [(p, nodO jp kp cp m)] :: Hk :: Ls))) rfl ?_))))))))))))
  rintro _ w ⟨M1, s1, Hc1, Hj1, hM, hs1, rfl, h3, h1, hS⟩
  obtain ⟨sa1, sc1, rfl⟩ := (hs1.holds hS).slice
  refine zM rfl rfl (zX (vs := [_, _]) rfl rfl rfl (zX (vs := [_, _]) rfl rfl rfl (a_alloc z_48 hS rfl fun b4 w hS => a_storeS (vs := [_, _, _]) sz_48 rfl rfl rfl rfl hS (Nat.le_of_ble_eq_true rfl) fun w hS => zA rfl rfl (zE (zQ (zR (zF fl_48_1 rfl rfl (wl (y_load pl_3 rfl (hS.cell (v := .int .i64 (m.own.pushR m.j).n) rfl)) rfl (zM rfl rfl (zA rfl rfl (zA rfl rfl (zE (wc_ret (wret (vs := [_, _]) (.tmp rfl (.tmp rfl .nil)) ?_))))))))))))))
  exact ⟨M1, _, hM, rfl, ⟨jp, kp, cp, Hj1, Hk, Hc1, h1, h2, h3, rfl⟩, (by have h := hS.keep (T := ((p, nodO jp kp cp m) :: (Hj1 ++ (Hk ++ Hc1))) :: Ls); exact h)⟩
theorem nreset_c {p : Nat} {m : Nod} {H : Chunk} (hc : m.c.last ≤ 1099511627776) (hjl : m.j.l.length ≤ 137438953472) (hb : IsN M p m H) (hS : St M w (H :: Ls)) :
    CallsR Tryz.prog 15 [.pointer (some ⟨p, 0, none⟩)].toArray w fun v w' => ∃ M' H', Mle M M' ∧ v = .int .i64 m.resetE ∧ IsN M' p m.reset H' ∧ St M' w' (H' :: Ls) := by
  have hb0 := hb
  obtain ⟨jp, kp, cp, Hj, Hk, Hc, h1, h2, h3, rfl⟩ := hb
  have hSH := hS
  replace hS := hS.un3
  refine calls_of (c := _) (rs := _) (n := 27) Tryz.func15 rfl rfl rfl rfl rfl (zQ (zR (zA rfl rfl (zE (zQ (zQ (zW hS (fun w => w.cell? ⟨p, 8, none⟩ = some (.pointer (some ⟨kp, 0, none⟩)) ∧ w.cell? ⟨p, 5, none⟩ = some (.int .i64 m.c.last)) [] wide_ rfl rfl fun w hS => zP (i := 0) 1 rfl rfl (by kernel_rfl) (fun _ => y_move rfl) (zP (i := 1) 3 rfl rfl (by kernel_rfl) (fun w => y_nil rfl) (zP (i := 2) 7 rfl rfl (by kernel_rfl) (fun w => y_fld fl_97_3 rfl) (zP (i := 5) 39 rfl rfl (by kernel_rfl) (fun _ => y_move rfl) (zP (i := 6) 103 rfl rfl (by kernel_rfl) (fun w => y_nil rfl) (zP (i := 7) 231 rfl rfl (by kernel_rfl) (fun w => y_fld fl_97_0 rfl) (zP (i := 8) 487 rfl rfl (by kernel_rfl) (fun w => y_fld fl_23_5 rfl) (zD (i := 3) 495 rfl rfl (by kernel_rfl) ⟨hS.cell rfl, hS.cell rfl⟩ (fun w hS => y_load pl_94 rfl hS.1) (zD (i := 9) 1007 rfl rfl (by kernel_rfl) ⟨hS.cell rfl, hS.cell rfl⟩ (fun w hS => y_load pl_3 rfl hS.2) (zU (i := 4) 1023 rfl (by kernel_rfl) (wl_call (.cons rfl .nil) (lepoch_c h2 (hS.pull Hk)) rfl ?_)))))))))))))))))
  rintro _ w ⟨rfl, hS⟩
  refine zE ⟨fun _ _ => ⟨hS.cell rfl, hS.cell rfl⟩, zP (i := 10) 2047 rfl rfl (by kernel_rfl) (fun w => y_geq rfl rfl) (zH (by kernel_rfl) (wc_if rfl (fun hc13 => ?_) (fun hc13 => ?_)))⟩
  · try simp only [zZ] at hc13
    have he : m.resetE = 8 := by unfold Nod.resetE; rw [if_pos (by omega)]
    have hq : m.reset = m := by unfold Nod.reset; rw [if_neg (by omega)]
    rw [he, hq]
    refine zQ (zR (zA rfl rfl (zE (wc_ret (wret (vs := [_]) (.tmp rfl .nil) ?_)))))
    first
    | exact ⟨M1, _, hM, rfl, ⟨jp, kp1, cp, Hj, Hk1, Hc1, h1, hk1, h3, rfl⟩, (by have h := hS.keep (T := ((p, nodQ m.c m.origin jp kp1 cp 0) :: (Hj ++ (Hk1 ++ Hc1))) :: Ls); exact h)⟩
    | exact ⟨M, _, Mle.refl _, rfl, hb0, hS.keep⟩
  · try simp only [zZ] at hc13
    have he : m.resetE = 0 := by unfold Nod.resetE; rw [if_neg (by omega)]
    have hq : m.reset = { m with k := Lnk.new (m.k.ep + 1) m.c.window m.c.pull false, offered := 0, own := m.own.resume m.j } := by unfold Nod.reset; rw [if_pos he]
    rw [he, hq]
    refine zK (zQ (zR (zM rfl rfl (zM rfl rfl (zN rfl rfl (zF fl_97_3 rfl rfl (wl (y_load pl_94 rfl (hS.cell (v := .pointer (some ⟨kp, 0, none⟩)) rfl)) rfl (wl_call (.cons rfl .nil) (lepoch_c h2 (hS.pull Hk)) rfl ?_))))))))
    rintro _ w ⟨rfl, hS⟩
    refine wl (y_add rfl rfl (w64 (by omega) (by omega))) rfl (wl_call (.cons rfl (.cons rfl .nil)) (nbegin_c (c := m.c) (origin := m.origin) (off := m.offered) (m.k.ep + 1) (hS.pull [(p, nodO jp kp cp m)])) rfl ?_)
    rintro _ w ⟨kp1, Hk1, rfl, hk1, hS⟩
    refine zE (zQ (zR (zM rfl rfl (zN rfl rfl (zF fl_97_4 rfl rfl (wl (y_load pl_95 rfl (hS.cell (v := .pointer (some ⟨cp, 0, none⟩)) rfl)) rfl (wl_call (.cons rfl .nil) (cresume_c hjl h3 h1 ((hS.pull Hj).pull Hc)) rfl ?_)))))))
    rintro _ w ⟨M1, Hc1, hM, rfl, h3, h1, hS⟩
    refine zE (zQ (zR (zA rfl rfl (zE (wc_ret (wret (vs := [_]) (.tmp rfl .nil) ?_))))))
    first
    | exact ⟨M1, _, hM, rfl, ⟨jp, kp1, cp, Hj, Hk1, Hc1, h1, hk1, h3, rfl⟩, (by have h := hS.keep (T := ((p, nodQ m.c m.origin jp kp1 cp 0) :: (Hj ++ (Hk1 ++ Hc1))) :: Ls); exact h)⟩
    | exact ⟨M, _, Mle.refl _, rfl, hb0, hS.keep⟩
end
end Go.Proofs.YtndahppmjdbifaaGreatDoor.Nod
set_option linter.unusedVariables false
set_option linter.unusedSimpArgs false
namespace Go.Proofs.YtndahppmjdbifaaGreatDoor.Nod
open Go Go.Proofs Go.Proofs.YtndahppmjdbifaaGreatDoor.Eng Go.Proofs.YtndahppmjdbifaaGreatDoor.Pre Go.Proofs.YtndahppmjdbifaaGreatDoor.Val Go.Proofs.YtndahppmjdbifaaGreatDoor.Rou Go.Proofs.YtndahppmjdbifaaGreatDoor.Fra Go.Proofs.YtndahppmjdbifaaGreatDoor.Snd Go.Proofs.YtndahppmjdbifaaGreatDoor.Lnk Go.Proofs.YtndahppmjdbifaaGreatDoor.Jnl Go.Proofs.YtndahppmjdbifaaGreatDoor.Cli
section
variable {M : Mem} {w : World} {Ls : List Chunk}
theorem nhear_c (hG : Bits M) (b : ByteArray) (hbz : b.size ≤ 140737488351232) {p : Nat} {m : Nod} {H : Chunk} (hk : m.k.ok) (hb : IsN M p m H) (hS : St M w (H :: Ls)) :
    CallsR Tryz.prog 22 [.pointer (some ⟨p, 0, none⟩), .string b].toArray w fun v w' => ∃ H', v = .int .i64 (m.hearE b) ∧ IsN M p (m.hear b) H' ∧ St M w' (H' :: Ls) := by
  have hb0 := hb
  obtain ⟨jp, kp, cp, Hj, Hk, Hc, h1, h2, h3, rfl⟩ := hb
  replace hS := hS.un3
  refine calls_of (c := _) (rs := _) (n := 29) Tryz.func22 rfl rfl rfl rfl rfl (zQ (zR (zA rfl rfl (zE (zQ (zR (zM rfl rfl (wl_call (.cons rfl .nil) (fget_c hG b hbz hS) rfl ?_))))))))
  rintro _ w ⟨rfl, hS⟩
  refine zM rfl rfl (zX (vs := [_, _]) rfl rfl rfl (zX (vs := [_, _]) rfl rfl rfl (a_alloc z_42 hS rfl fun b5 w hS => a_storeS (vs := [_, _, _, _]) sz_42 rfl rfl rfl rfl hS (Nat.le_of_ble_eq_true rfl) fun w hS => zA rfl rfl (zE (zQ (zQ (zR (zM rfl rfl (wl (y_neq rfl rfl) rfl (zE (wc_if rfl (fun hc13 => ?_) (fun hc13 => ?_))))))))))))
  · try simp only [zZ] at hc13
    have he : m.hearE b = fgetE b := by unfold Nod.hearE; rw [if_pos (by omega)]
    have hq : m.hear b = m := by unfold Nod.hear; rw [if_neg (by omega)]
    rw [he, hq]
    refine zQ (zR (zM rfl rfl (zA rfl rfl (zE (wc_ret (wret (vs := [_]) (.tmp rfl .nil) ?_))))))
    first
    | exact ⟨_, rfl, ⟨jp, kp, cp, Hj, Hk1, Hc, h1, hk1, h3, rfl⟩, (by have h := hS.keep (T := ((p, nodO jp kp cp m) :: (Hj ++ (Hk1 ++ Hc))) :: Ls); exact h)⟩
    | exact ⟨_, rfl, hb0, hS.keep⟩
  · try simp only [zZ] at hc13
    refine zK (zQ (zQ (zW hS (fun w => w.cell? ⟨b5, 0, none⟩ = some (.int .i64 (fget b).ep) ∧ w.cell? ⟨p, 8, none⟩ = some (.pointer (some ⟨kp, 0, none⟩))) [] wide_ rfl rfl fun w hS => zP (i := 0) 1 rfl rfl (by kernel_rfl) (fun w => y_fld fl_42_0 rfl) (zP (i := 2) 5 rfl rfl (by kernel_rfl) (fun _ => y_move rfl) (zP (i := 3) 13 rfl rfl (by kernel_rfl) (fun w => y_nil rfl) (zP (i := 4) 29 rfl rfl (by kernel_rfl) (fun w => y_fld fl_97_3 rfl) (zD (i := 1) 31 rfl rfl (by kernel_rfl) ⟨hS.cell rfl, hS.cell rfl⟩ (fun w hS => y_load pl_3 rfl hS.1) (zD (i := 5) 63 rfl rfl (by kernel_rfl) ⟨hS.cell rfl, hS.cell rfl⟩ (fun w hS => y_load pl_94 rfl hS.2) (zU (i := 6) 127 rfl (by kernel_rfl) (wl_call (.cons rfl .nil) (lepoch_c h2 (hS.pull Hk)) rfl ?_))))))))))
    rintro _ w ⟨rfl, hS⟩
    refine zE ⟨fun _ _ => ⟨hS.cell rfl, hS.cell rfl⟩, zP (i := 7) 255 rfl rfl (by kernel_rfl) (fun w => y_neq rfl rfl) (zH (by kernel_rfl) (wc_if rfl (fun hc22 => ?_) (fun hc22 => ?_)))⟩
    · try simp only [zZ] at hc22
      have he : m.hearE b = 9 := by unfold Nod.hearE; rw [if_neg (by omega), if_pos hc22]
      have hq : m.hear b = m := by unfold Nod.hear; rw [if_neg (by omega)]
      rw [he, hq]
      refine zQ (zR (zA rfl rfl (zE (wc_ret (wret (vs := [_]) (.tmp rfl .nil) ?_)))))
      first
      | exact ⟨_, rfl, ⟨jp, kp, cp, Hj, Hk1, Hc, h1, hk1, h3, rfl⟩, (by have h := hS.keep (T := ((p, nodO jp kp cp m) :: (Hj ++ (Hk1 ++ Hc))) :: Ls); exact h)⟩
      | exact ⟨_, rfl, hb0, hS.keep⟩
    · try simp only [zZ] at hc22
      have he : m.hearE b = 0 := by unfold Nod.hearE; rw [if_neg (by omega), if_neg (by omega)]
      have hq : m.hear b = { m with k := m.k.hear (fget b) } := by unfold Nod.hear; rw [if_pos he]
      rw [he, hq]
      refine zK (zQ (zW hS (fun w => w.cell? ⟨p, 8, none⟩ = some (.pointer (some ⟨kp, 0, none⟩)) ∧ CellsAt w b5 0 (encF.f (fget b))) [5] wide_ rfl rfl fun w hS => zP (i := 0) 1 rfl rfl (by kernel_rfl) (fun _ => y_move rfl) (zP (i := 1) 3 rfl rfl (by kernel_rfl) (fun w => y_nil rfl) (zP (i := 2) 7 rfl rfl (by kernel_rfl) (fun w => y_fld fl_97_3 rfl) (zD (i := 3) 15 rfl rfl (by kernel_rfl) ⟨hS.cell rfl, hS.cells rfl⟩ (fun w hS => y_load pl_94 rfl hS.1) (zD (i := 4) 31 rfl rfl (by kernel_rfl) ⟨hS.cell rfl, hS.cells rfl⟩ (fun w hS => (y_loadS st_42 sz_42 rfl hS.2 rfl).val (show _ = fv (fget b) from rfl)) (zU (i := 5) 63 rfl (by kernel_rfl) (wl_call (.cons rfl (.cons rfl .nil)) (lhear_c (fget b) hk h2 (hS.pull Hk)) rfl ?_))))))))
      rintro _ w ⟨Hk1, rfl, hk1, hS⟩
      refine zE ⟨fun h => absurd (by decide) h, zH (by kernel_rfl) (zQ (zR (zA rfl rfl (zE (wc_ret (wret (vs := [_]) (.tmp rfl .nil) ?_))))))⟩
      first
      | exact ⟨_, rfl, ⟨jp, kp, cp, Hj, Hk1, Hc, h1, hk1, h3, rfl⟩, (by have h := hS.keep (T := ((p, nodO jp kp cp m) :: (Hj ++ (Hk1 ++ Hc))) :: Ls); exact h)⟩
      | exact ⟨_, rfl, hb0, hS.keep⟩
theorem nknown_c {p : Nat} {m : Nod} {H : Chunk} (hl : m.own.known.length ≤ 137438953472) (hb : IsN M p m H) (hS : St M w (H :: Ls)) :
    CallsR Tryz.prog 24 [.pointer (some ⟨p, 0, none⟩)].toArray w fun v w' => ∃ M' ys H', Mle M M' ∧ Own 48 encRV v ys H' ∧ Rvs M' ys m.own.known ∧ IsN M' p m H ∧ St M' w' (H' :: H :: Ls) := by
  have hb0 := hb
  obtain ⟨jp, kp, cp, Hj, Hk, Hc, h1, h2, h3, rfl⟩ := hb
  replace hS := hS.un3
  refine calls_of (c := _) (rs := _) (n := 8) Tryz.func24 rfl rfl rfl rfl rfl (zQ (zR (zA rfl rfl (zE (zQ (zR (zM rfl rfl (zN rfl rfl (zF fl_97_4 rfl rfl (wl (y_load pl_95 rfl (hS.cell (v := .pointer (some ⟨cp, 0, none⟩)) rfl)) rfl (wl_call (.cons rfl .nil) (cknown_c hl h3 (hS.pull Hc)) rfl ?_)))))))))))
  rintro v w ⟨M', zs, Hz, hM, ho, hr, _, hS⟩
  refine zA rfl rfl (zE (wc_ret (wret (vs := [_]) (.tmp rfl .nil) ?_)))
  exact ⟨M', zs, Hz, hM, ho, hr, hb0.mono hM, hS.keep⟩
theorem njournal_c {p : Nat} {m : Nod} {H : Chunk} (hl : m.j.l.length ≤ 137438953472) (hb : IsN M p m H) (hS : St M w (H :: Ls)) :
    CallsR Tryz.prog 14 [.pointer (some ⟨p, 0, none⟩)].toArray w fun v w' => ∃ M' ys H', Mle M M' ∧ Own 48 encRV v ys H' ∧ Rvs M' ys (behind 0 m.j.l) ∧ IsN M' p m H ∧ St M' w' (H' :: H :: Ls) := by
  have hb0 := hb
  obtain ⟨jp, kp, cp, Hj, Hk, Hc, h1, h2, h3, rfl⟩ := hb
  replace hS := hS.un3
  refine calls_of (c := _) (rs := _) (n := 8) Tryz.func14 rfl rfl rfl rfl rfl (zQ (zR (zA rfl rfl (zE (zQ (zR (zM rfl rfl (zN rfl rfl (zF fl_97_2 rfl rfl (wl (y_load pl_93 rfl (hS.cell (v := .pointer (some ⟨jp, 0, none⟩)) rfl)) rfl (wl_call (.cons rfl (.cons rfl .nil)) (jfrom_c 0 hl h1 (hS.pull Hj)) rfl ?_)))))))))))
  rintro v w ⟨M', zs, Hz, hM, ho, hr, _, hS⟩
  refine zA rfl rfl (zE (wc_ret (wret (vs := [_]) (.tmp rfl .nil) ?_)))
  exact ⟨M', zs, Hz, hM, ho, hr, hb0.mono hM, hS.keep⟩
theorem nconf_c {p : Nat} {m : Nod} {H : Chunk} (hb : IsN M p m H) (hS : St M w (H :: Ls)) :
    CallsR Tryz.prog 43 [.pointer (some ⟨p, 0, none⟩)].toArray w fun v w' => v = .bool (decide (m.own.pending = [] ∧ m.own.opn = [])) ∧ St M w' (H :: Ls) := by
  obtain ⟨jp, kp, cp, Hj, Hk, Hc, h1, h2, h3, rfl⟩ := hb
  replace hS := hS.un3
  refine calls_of (c := _) (rs := _) (n := 8) Tryz.func43 rfl rfl rfl rfl rfl (zQ (zR (zA rfl rfl (zE (zQ (zR (zM rfl rfl (zN rfl rfl (zF fl_97_4 rfl rfl (wl (y_load pl_95 rfl (hS.cell (v := .pointer (some ⟨cp, 0, none⟩)) rfl)) rfl (wl_call (.cons rfl .nil) (cconf_c h3 (hS.pull Hc)) rfl ?_)))))))))))
  rintro _ w ⟨rfl, hS⟩
  refine zA rfl rfl (zE (wc_ret (wret (vs := [_]) (.tmp rfl .nil) ?_)))
  exact ⟨rfl, hS.keep⟩
end
end Go.Proofs.YtndahppmjdbifaaGreatDoor.Nod
set_option linter.unusedVariables false
set_option linter.unusedSimpArgs false
namespace Go.Proofs.YtndahppmjdbifaaGreatDoor.Nod
open Go Go.Proofs Go.Proofs.YtndahppmjdbifaaGreatDoor.Eng Go.Proofs.YtndahppmjdbifaaGreatDoor.Pre Go.Proofs.YtndahppmjdbifaaGreatDoor.Val Go.Proofs.YtndahppmjdbifaaGreatDoor.Rou Go.Proofs.YtndahppmjdbifaaGreatDoor.Fra Go.Proofs.YtndahppmjdbifaaGreatDoor.Snd Go.Proofs.YtndahppmjdbifaaGreatDoor.Lnk Go.Proofs.YtndahppmjdbifaaGreatDoor.Jnl Go.Proofs.YtndahppmjdbifaaGreatDoor.Cli
structure Look where
  ep : Int
  known : Int
  pending : Int
  opn : Int
  came : Int
  unacked : Int
deriving DecidableEq
def lkV (x : Look) : Value := .agg [.int .i64 x.ep, .int .i64 x.known, .int .i64 x.pending, .int .i64 x.opn, .int .i64 x.came, .int .i64 x.unacked].toArray
def Nod.look (m : Nod) : Look := ⟨m.k.ep, m.own.known.length, m.own.pending.length, m.own.opn.length, m.k.r.wait, (m.k.s.all.length - m.k.s.acked : Nat)⟩
def Nod.small (m : Nod) : Prop := m.own.known.length ≤ 13743895 ∧ m.own.pending.length ≤ 13743895 ∧ m.own.opn.length ≤ 13743895 ∧ m.j.l.length ≤ 13743895
section
variable {M : Mem} {w : World} {Ls : List Chunk}
theorem nlook_c {p : Nat} {m : Nod} {H : Chunk} (hs : m.small) (hb : IsN M p m H) (hS : St M w (H :: Ls)) :
    CallsR Tryz.prog 13 [.pointer (some ⟨p, 0, none⟩)].toArray w fun v w' => ∃ M', Mle M M' ∧ v = lkV m.look ∧ IsN M' p m H ∧ St M' w' (H :: Ls) := by
  have hb0 := hb
  obtain ⟨s1, s2, s3, s4⟩ := hs
  obtain ⟨jp, kp, cp, Hj, Hk, Hc, h1, h2, h3, rfl⟩ := hb
  replace hS := hS.un3
  refine calls_of (c := _) (rs := _) (n := 37) Tryz.func13 rfl rfl rfl rfl rfl (zQ (zR (a_alloc z_30 hS rfl fun b2 w hS => zE (zQ (zW hS (fun w => w.cell? ⟨p, 8, none⟩ = some (.pointer (some ⟨kp, 0, none⟩)) ∧ w.cell? ⟨p, 9, none⟩ = some (.pointer (some ⟨cp, 0, none⟩))) [] wide_ rfl rfl fun w hS => zP (i := 0) 1 rfl rfl (by kernel_rfl) (fun _ => y_move rfl) (zP (i := 1) 3 rfl rfl (by kernel_rfl) (fun w => y_nil rfl) (zP (i := 2) 7 rfl rfl (by kernel_rfl) (fun w => y_fld fl_97_3 rfl) (zP (i := 5) 39 rfl rfl (by kernel_rfl) (fun _ => y_move rfl) (zP (i := 6) 103 rfl rfl (by kernel_rfl) (fun w => y_nil rfl) (zP (i := 7) 231 rfl rfl (by kernel_rfl) (fun w => y_fld fl_97_4 rfl) (zP (i := 11) 2279 rfl rfl (by kernel_rfl) (fun _ => y_move rfl) (zP (i := 12) 6375 rfl rfl (by kernel_rfl) (fun w => y_nil rfl) (zP (i := 13) 14567 rfl rfl (by kernel_rfl) (fun w => y_fld fl_97_4 rfl) (zP (i := 17) 145639 rfl rfl (by kernel_rfl) (fun _ => y_move rfl) (zP (i := 18) 407783 rfl rfl (by kernel_rfl) (fun w => y_nil rfl) (zP (i := 19) 932071 rfl rfl (by kernel_rfl) (fun w => y_fld fl_97_4 rfl) (zP (i := 23) 9320679 rfl rfl (by kernel_rfl) (fun _ => y_move rfl) (zP (i := 24) 26097895 rfl rfl (by kernel_rfl) (fun w => y_nil rfl) (zP (i := 25) 59652327 rfl rfl (by kernel_rfl) (fun w => y_fld fl_97_3 rfl) (zP (i := 28) 328087783 rfl rfl (by kernel_rfl) (fun _ => y_move rfl) (zP (i := 29) 864958695 rfl rfl (by kernel_rfl) (fun w => y_nil rfl) (zP (i := 30) 1938700519 rfl rfl (by kernel_rfl) (fun w => y_fld fl_97_3 rfl) (zD (i := 3) 1938700527 rfl rfl (by kernel_rfl) ⟨hS.cell rfl, hS.cell rfl⟩ (fun w hS => y_load pl_94 rfl hS.1) (zD (i := 8) 1938700783 rfl rfl (by kernel_rfl) ⟨hS.cell rfl, hS.cell rfl⟩ (fun w hS => y_load pl_95 rfl hS.2) (zD (i := 14) 1938717167 rfl rfl (by kernel_rfl) ⟨hS.cell rfl, hS.cell rfl⟩ (fun w hS => y_load pl_95 rfl hS.2) (zD (i := 20) 1939765743 rfl rfl (by kernel_rfl) ⟨hS.cell rfl, hS.cell rfl⟩ (fun w hS => y_load pl_95 rfl hS.2) (zD (i := 26) 2006874607 rfl rfl (by kernel_rfl) ⟨hS.cell rfl, hS.cell rfl⟩ (fun w hS => y_load pl_94 rfl hS.1) (zD (i := 31) 4154358255 rfl rfl (by kernel_rfl) ⟨hS.cell rfl, hS.cell rfl⟩ (fun w hS => y_load pl_94 rfl hS.1) (zU (i := 4) 4154358271 rfl (by kernel_rfl) (wl_call (.cons rfl .nil) (lepoch_c h2 (hS.pull Hk)) rfl ?_))))))))))))))))))))))))))))))
  rintro _ w ⟨rfl, hS⟩
  refine zE ⟨fun _ _ => ⟨hS.cell rfl, hS.cell rfl⟩, zU (i := 9) 4154358783 rfl (by kernel_rfl) (wl_call (.cons rfl .nil) (cknown_c (by omega) h3 (hS.pull Hc)) rfl ?_)⟩
  rintro v w ⟨M1, zs1, Hz1, hM1, ho1, hr1, h3, hS⟩
  obtain ⟨a1, c1, rfl⟩ := ho1.slice
  have e1 := hr1.len
  refine zE ⟨fun _ _ => ⟨hS.cell rfl, hS.cell rfl⟩, zP (i := 10) 4154359807 rfl rfl (by kernel_rfl) (fun w => y_len_sl Tryz.underlying32 rfl) (zU (i := 15) 4154392575 rfl (by kernel_rfl) (wl_call (.cons rfl .nil) (cpending_c (by omega) h3 (hS.pull Hc)) rfl ?_))⟩
  rintro v w ⟨M2, zs2, Hz2, hM2, ho2, hr2, h3, hS⟩
  obtain ⟨a2, c2, rfl⟩ := ho2.slice
  have e2 := hr2.len
  refine zE ⟨fun _ _ => ⟨hS.cell rfl, hS.cell rfl⟩, zP (i := 16) 4154458111 rfl rfl (by kernel_rfl) (fun w => y_len_sl Tryz.underlying32 rfl) (zU (i := 21) 4156555263 rfl (by kernel_rfl) (wl_call (.cons rfl .nil) (copen_c (by omega) h3 (hS.pull Hc)) rfl ?_))⟩
  rintro v w ⟨Hz3, ho3, hS⟩
  obtain ⟨a3, c3, rfl⟩ := ho3.slice
  refine zE ⟨fun _ _ => ⟨hS.cell rfl, hS.cell rfl⟩, zP (i := 22) 4160749567 rfl rfl (by kernel_rfl) (fun w => y_len_sl Tryz.underlying46 rfl) (zU (i := 27) 4294967295 rfl (by kernel_rfl) (wl_call (.cons rfl .nil) (lwait_c h2 (hS.pull Hk)) rfl ?_))⟩
  rintro _ w ⟨rfl, hS⟩
  refine zE ⟨fun _ _ => ⟨hS.cell rfl, hS.cell rfl⟩, zU (i := 32) 8589934591 rfl (by kernel_rfl) (wl_call (.cons rfl .nil) (lunacked_c h2 (hS.pull Hk)) rfl ?_)⟩
  rintro _ w ⟨rfl, hS⟩
  refine zE ⟨fun _ _ => ⟨hS.cell rfl, hS.cell rfl⟩, zP (i := 33) 17179869183 rfl rfl (by kernel_rfl) (fun w => y_build (is := [0, 1, 2, 3, 4, 5]) (xs := [_, _, _, _, _, _]) (out := [_, _, _, _, _, _]) plc_30 z_30 (.cons rfl (.cons rfl (.cons rfl (.cons rfl (.cons rfl (.cons rfl .nil)))))) rfl) (zU (i := 34) 34359738367 rfl (by kernel_rfl) (a_storeS (vs := [_, _, _, _, _, _]) sz_30 rfl rfl rfl rfl hS (Nat.le_of_ble_eq_true rfl) fun w hS => zE ⟨fun _ _ => ⟨hS.cell rfl, hS.cell rfl⟩, zH (by kernel_rfl) (wc_ret (wret (vs := [_]) (.cell rfl (loadVar_struct st_30 sz_30 (vs := [_, _, _, _, _, _]) rfl (hS.cells rfl)) .nil) ?_))⟩))⟩
  exact ⟨M2, hM1.trans hM2, by unfold lkV Nod.look; simp only; rw [← e1, ← e2]; rfl, hb0.mono (hM1.trans hM2), hS.keep⟩
end
end Go.Proofs.YtndahppmjdbifaaGreatDoor.Nod
set_option linter.unusedVariables false
set_option linter.unusedSimpArgs false
namespace Go.Proofs.YtndahppmjdbifaaGreatDoor.Nod
open Go Go.Proofs Go.Proofs.YtndahppmjdbifaaGreatDoor.Eng Go.Proofs.YtndahppmjdbifaaGreatDoor.Pre Go.Proofs.YtndahppmjdbifaaGreatDoor.Val Go.Proofs.YtndahppmjdbifaaGreatDoor.Rou Go.Proofs.YtndahppmjdbifaaGreatDoor.Fra Go.Proofs.YtndahppmjdbifaaGreatDoor.Snd Go.Proofs.YtndahppmjdbifaaGreatDoor.Lnk Go.Proofs.YtndahppmjdbifaaGreatDoor.Jnl Go.Proofs.YtndahppmjdbifaaGreatDoor.Cli
def _root_.Go.Proofs.YtndahppmjdbifaaGreatDoor.Cli.Cli.take1 (m : Cli) (d : ByteArray) : Cli := if gre d = 0 then m.take (grr d) else m
def _root_.Go.Proofs.YtndahppmjdbifaaGreatDoor.Cli.Cli.took1 (m : Cli) (d : ByteArray) : Nat := if gre d = 0 ∧ m.takE (grr d) = 0 then 1 else 0
def _root_.Go.Proofs.YtndahppmjdbifaaGreatDoor.Cli.Cli.takeL (m : Cli) : List ByteArray → Cli
  | [] => m
  | d :: l => (m.take1 d).takeL l
def _root_.Go.Proofs.YtndahppmjdbifaaGreatDoor.Cli.Cli.tookL (m : Cli) : List ByteArray → Nat
  | [] => 0
  | d :: l => m.took1 d + (m.take1 d).tookL l
def _root_.Go.Proofs.YtndahppmjdbifaaGreatDoor.Snd.Rcv.came (m : Rcv) : List ByteArray := m.all.drop m.popped
def _root_.Go.Proofs.YtndahppmjdbifaaGreatDoor.Lnk.Lnk.pops (m : Lnk) (i : Nat) : Lnk := ⟨m.ep, m.s, ⟨m.r.room, m.r.all, m.r.popped + min i m.r.wait⟩, m.win, m.room, m.pas⟩
def Nod.pull (m : Nod) : Nod := { m with own := m.own.takeL m.k.r.came, k := m.k.pops m.k.r.wait }
def Nod.pullN (m : Nod) : Nat := m.own.tookL m.k.r.came
theorem Cli.takeL_app (m : Cli) (l k : List ByteArray) : m.takeL (l ++ k) = (m.takeL l).takeL k := by
  induction l generalizing m with
  | nil => rfl
  | cons d l ih => exact ih _
theorem Cli.tookL_app (m : Cli) (l k : List ByteArray) : m.tookL (l ++ k) = m.tookL l + (m.takeL l).tookL k := by
  induction l generalizing m with
  | nil => simp [Cli.tookL, Cli.takeL]
  | cons d l ih => simp only [List.cons_append, Cli.tookL, Cli.takeL, ih, Nat.add_assoc]
theorem Cli.take_known (m : Cli) (r : Rnd) : (m.take r).known.length ≤ m.known.length + 1 := by
  unfold Cli.take; split <;> simp
theorem Cli.take1_known (m : Cli) (d : ByteArray) : (m.take1 d).known.length ≤ m.known.length + 1 := by
  unfold Cli.take1; split
  · exact Cli.take_known _ _
  · omega
theorem Cli.takeL_known (m : Cli) (l : List ByteArray) : (m.takeL l).known.length ≤ m.known.length + l.length := by
  induction l generalizing m with
  | nil => simp [Cli.takeL]
  | cons d l ih => simp only [Cli.takeL, List.length_cons]; have := ih (m.take1 d); have := Cli.take1_known m d; omega
theorem Cli.tookL_le (m : Cli) (l : List ByteArray) : m.tookL l ≤ l.length := by
  induction l generalizing m with
  | nil => simp [Cli.tookL]
  | cons d l ih =>
    simp only [Cli.tookL, List.length_cons]
    have := ih (m.take1 d)
    have : m.took1 d ≤ 1 := by unfold Cli.took1; split <;> omega
    omega
theorem Rcv.came_length (m : Rcv) : m.came.length = m.wait := by unfold Rcv.came Rcv.wait; rw [List.length_drop]
theorem Lnk.pops_0 (m : Lnk) : m.pops 0 = m := by unfold Lnk.pops; simp
theorem Lnk.pops_pop (m : Lnk) (i : Nat) : (m.pops i).pop = m.pops (i + 1) := by
  unfold Lnk.pops Lnk.pop Rcv.pop Rcv.wait
  simp only
  by_cases h : m.r.popped + min i (m.r.all.length - m.r.popped) < m.r.all.length
  · rw [if_pos h]; congr 2; omega
  · rw [if_neg h]; congr 2; omega
theorem Lnk.pops_ok (m : Lnk) (i : Nat) (h : m.ok) : (m.pops i).ok := by
  obtain ⟨h1, h2, h3⟩ := h
  refine ⟨h1, h2, ?_⟩
  unfold Rcv.ok Rcv.wait Lnk.pops at *
  simp only
  unfold Rcv.wait
  omega
def Rcv.pd (m : Rcv) (i : Nat) : ByteArray := (m.came[i]?).getD ⟨#[]⟩
theorem Lnk.pops_popV (m : Lnk) (i : Nat) (h : m.ok) : (m.pops i).r.popV = .tuple [.string (Rcv.pd m.r i), .bool (decide (i < m.r.wait))].toArray := by
  obtain ⟨_, _, _, _, h3, _, _⟩ := h
  unfold Rcv.popV Lnk.pops Rcv.pd Rcv.came
  simp only [List.getElem?_drop]
  by_cases hi : i < m.r.wait
  · rw [Nat.min_eq_left (by omega), decide_eq_true hi]
    unfold Rcv.wait at hi
    rw [List.getElem?_eq_getElem (by omega)]
    rfl
  · rw [Nat.min_eq_right (by omega), decide_eq_false hi]
    unfold Rcv.wait at hi ⊢
    rw [List.getElem?_eq_none (by omega), List.getElem?_eq_none (by omega)]
    rfl
theorem grr_ups (b : ByteArray) (hb : b.size ≤ 140737488351232) : (grr b).ups.length ≤ 8 := by
  obtain ⟨_, _, h3, h4, _⟩ := gr_ok b hb
  unfold grr
  split
  · unfold gr4; simp only; rw [(rups_ok h3 _).2]; exact h4
  · simp
section
variable {M : Mem} {w : World} {Ls : List Chunk}
theorem npull_c (hG : Bits M) {p : Nat} {m : Nod} {H : Chunk} (hk : m.k.ok) (hs : m.small) (hd : ∀ d ∈ m.k.r.all, d.size ≤ 1400) (hb : IsN M p m H) (hS : St M w (H :: Ls)) :
    CallsR Tryz.prog 26 [.pointer (some ⟨p, 0, none⟩)].toArray w fun v w' => ∃ M' H', Mle M M' ∧ v = .int .i64 m.pullN ∧ IsN M' p m.pull H' ∧ St M' w' (H' :: Ls) := by
  obtain ⟨s1, s2, s3, s4⟩ := hs
  obtain ⟨jp, kp, cp, Hj, Hk, Hc, h1, h2, h3, rfl⟩ := hb
  have hcl := Rcv.came_length m.k.r
  have hw16 : m.k.r.wait ≤ 16 := by have := hk.2.2; unfold Rcv.ok at this; omega
  have hda : ∀ d ∈ m.k.r.came, d.size ≤ 1400 := fun d hd' => hd d (List.mem_of_mem_drop hd')
  have hpv := fun i => Lnk.pops_popV m.k i hk
  replace hS := hS.un3
  refine calls_of (c := _) (rs := _) (n := 44) Tryz.func26 rfl rfl rfl rfl rfl (zQ (zR (zA rfl rfl (zE (zQ (zR (zA rfl rfl (zE (zQ (zQ (zR (zM rfl rfl (zN rfl rfl (zF fl_97_3 rfl rfl (wl (y_load pl_94 rfl (hS.cell (v := .pointer (some ⟨kp, 0, none⟩)) rfl)) rfl (wl_call (.cons rfl .nil) (lpop_c hk h2 (hS.pull Hk)) rfl ?_))))))))))))))))
  rintro _ w ⟨Hk1, rfl, hk1, hS⟩
  rw [← Lnk.pops_0 m.k, Lnk.pops_pop] at hk1
  rw [show m.k.r.popV = (m.k.pops 0).r.popV by rw [Lnk.pops_0], hpv 0]
  refine zM rfl rfl (zX (vs := [_, _]) rfl rfl rfl (zX (vs := [_, _]) rfl rfl rfl (zA rfl rfl (zA rfl rfl (zE (zB (wc_loop (α := Nat × Mem × Chunk × Chunk) (fun ⟨i, _, _, _⟩ => [(0, .pointer (some ⟨p, 0, none⟩)), (3, .int .i64 (m.own.tookL (m.k.r.came.take i))), (4, .string (Rcv.pd m.k.r i)), (5, .bool (decide (i < m.k.r.wait)))]) (fun ⟨i, M1, H1, H2⟩ w => i ≤ m.k.r.wait ∧ Mle M M1 ∧ IsJ M1 jp m.j Hj ∧ IsL kp (m.k.pops (i + 1)) H1 ∧ IsC M1 cp jp (m.own.takeL (m.k.r.came.take i)) H2 ∧ St M1 w ([(p, nodO jp kp cp m)] :: Hj :: H1 :: H2 :: Ls)) (fun ⟨i, _, _, _⟩ => m.k.r.wait - i) (0, M, Hk1, Hc) (sub_cons rfl (sub_cons rfl (sub_cons rfl (sub_cons rfl sub_nil)))) ⟨by omega, Mle.refl _, h1, hk1, h3, hS.keep⟩ ?_)))))))
  clear hS h3 hk1 h1
  rintro ⟨i, M1, H1, H2⟩ w ⟨hi, hM, h1, hk1, h3, hS⟩
  refine zQ (zQ (zR (zM rfl rfl (zE (wc_if rfl (fun hc16 => ?_) (fun hc16 => ?_))))))
  · try simp only [zZ] at hc16
    obtain ⟨d, hdi⟩ : ∃ d, m.k.r.came[i]? = some d := ⟨_, List.getElem?_eq_getElem (by omega)⟩
    have hpd : Rcv.pd m.k.r i = d := by unfold Rcv.pd; rw [hdi]; rfl
    have hdz := hda d (List.mem_of_getElem? hdi)
    have htk : m.k.r.came.take (i + 1) = m.k.r.came.take i ++ [d] := by rw [List.take_add_one, hdi]; rfl
    have hT : m.own.takeL (m.k.r.came.take (i + 1)) = (m.own.takeL (m.k.r.came.take i)).take1 d := by rw [htk, Cli.takeL_app]; rfl
    have hN : m.own.tookL (m.k.r.came.take (i + 1)) = m.own.tookL (m.k.r.came.take i) + (m.own.takeL (m.k.r.came.take i)).took1 d := by rw [htk, Cli.tookL_app]; simp [Cli.tookL]
    have hNl := Cli.tookL_le m.own (m.k.r.came.take i)
    have hKl := Cli.takeL_known m.own (m.k.r.came.take i)
    have hul := grr_ups d (by omega)
    simp only [List.length_take] at hNl hKl
    refine zK (zQ (zB (zQ (zR (wl ((y_move rfl).val (congrArg Value.string hpd)) rfl (wl_call (.cons rfl .nil) (rget_c (hG.mono hM) d (by omega) hS) rfl ?_))))))
    rintro _ w ⟨M2, s2, rfl, hM2, hs2, hS⟩
    obtain ⟨sa2, sc2, rfl⟩ := (hs2.holds hS).slice
    refine zM rfl rfl (zX (vs := [_, _]) rfl rfl rfl (zX (vs := [_, _]) rfl rfl rfl (a_alloc z_48 hS rfl fun b6 w hS => a_storeS (vs := [_, _, _]) sz_48 rfl rfl rfl rfl hS (Nat.le_of_ble_eq_true rfl) fun w hS => zA rfl rfl (zE (zQ (zW hS (fun w => w.cell? ⟨p, 9, none⟩ = some (.pointer (some ⟨cp, 0, none⟩)) ∧ CellsAt w b6 0 [.int .i64 (grr d).o, .int .i64 (grr d).n, .slice sa2 (grr d).ups.length sc2]) [] wide_ rfl rfl fun w hS => zP (i := 0) 1 rfl rfl (by kernel_rfl) (fun _ => y_move rfl) (zP (i := 1) 3 rfl rfl (by kernel_rfl) (fun w => y_eql rfl rfl) (zP (i := 2) 7 rfl rfl (by kernel_rfl) (fun _ => y_move rfl) (dr_cases (s := 32) rfl (fun hg32 => ?_) (fun hg32 => ?_))))))))))
    · try simp only [zZ] at hg32
      have hT1 : (m.own.takeL (m.k.r.came.take i)).take1 d = (m.own.takeL (m.k.r.came.take i)).take (grr d) := by unfold Cli.take1; rw [if_pos (by omega)]
      rw [hT1] at hT
      refine dr_pureG (i := 3) (lb 11 15) rfl rfl (by kernel_rfl) rfl rfl (fun _ => y_move rfl) (dr_pureG (i := 4) (lb 11 31) rfl rfl (by kernel_rfl) rfl rfl (fun w => y_nil rfl) (dr_pureG (i := 5) (lb 11 63) rfl rfl (by kernel_rfl) rfl rfl (fun w => y_fld fl_97_4 rfl) (dr_readG (i := 6) (lb 11 127) rfl rfl (by kernel_rfl) rfl rfl ⟨hS.cell rfl, hS.cells rfl⟩ (fun w hS => y_load pl_95 rfl hS.1) (dr_readG (i := 7) (lb 11 255) rfl rfl (by kernel_rfl) rfl rfl ⟨hS.cell rfl, hS.cells rfl⟩ (fun w hS => y_loadS st_48 sz_48 rfl hS.2 rfl) (zU (i := 8) 511 rfl (by kernel_rfl) (zI rfl rfl (wl_call (.cons rfl (.cons rfl .nil)) (ctake_c (grr d) (.slice sa2 (grr d).ups.length sc2) (by omega) hs2 (by omega) (h3.mono hM2) (hS.pull H2)) rfl ?_)))))))
      rintro _ w ⟨M3, H3, hM3, rfl, h3', hS⟩
      refine zE ⟨fun _ _ => ⟨hS.cell rfl, hS.cells rfl⟩, dr_pureG (i := 9) (lb 11 1023) rfl rfl (by kernel_rfl) rfl rfl (fun w => y_eql rfl rfl) (zP (i := 10) 2047 rfl rfl (by kernel_rfl) (fun w => y_pickT rfl rfl) (zH (by kernel_rfl) (wc_if rfl (fun hc40 => ?_) (fun hc40 => ?_))))⟩
      · try simp only [zZ] at hc40
        have ht : (m.own.takeL (m.k.r.came.take i)).took1 d = 1 := by unfold Cli.took1; rw [if_pos (by omega)]
        rw [ht] at hN
        refine zR (zM rfl rfl (wl ((y_add rfl rfl (w64 (by omega) (by omega))).val (u := .int .i64 (m.own.tookL (m.k.r.came.take (i + 1)))) (congrArg (Value.int .i64) (by omega))) rfl (zA rfl rfl (zE (zR (zM rfl rfl (zN rfl rfl (zF fl_97_3 rfl rfl (wl (y_load pl_94 rfl (hS.cell (v := .pointer (some ⟨kp, 0, none⟩)) rfl)) rfl (wl_call (.cons rfl .nil) (lpop_c (Lnk.pops_ok _ _ hk) hk1 (hS.pull H1)) rfl ?_))))))))))
        rintro _ w ⟨Hk2, rfl, hk2, hS⟩
        rw [Lnk.pops_pop] at hk2
        rw [hpv (i + 1)]
        refine zM rfl rfl (zX (vs := [_, _]) rfl rfl rfl (zX (vs := [_, _]) rfl rfl rfl (zA rfl rfl (zA rfl rfl (zE ?_)))))
        first
        | exact ⟨(i + 1, M3, Hk2, H3), by simp only; omega, sub_cons rfl (sub_cons rfl (sub_cons rfl (sub_cons rfl sub_nil))), by omega, hM.trans (hM2.trans hM3), h1.mono (hM2.trans hM3), hk2, by rw [hT]; exact h3', hS.keep⟩
        | exact ⟨(i + 1, M3, Hk2, H3), by simp only; omega, sub_cons rfl (sub_cons (congrArg (fun n : Nat => some (Value.int .i64 (n : Int))) hN.symm) (sub_cons rfl (sub_cons rfl sub_nil))), by omega, hM.trans (hM2.trans hM3), h1.mono (hM2.trans hM3), hk2, by rw [hT]; exact h3', hS.keep⟩
        | exact ⟨(i + 1, M2, Hk2, H2), by simp only; omega, sub_cons rfl (sub_cons (congrArg (fun n : Nat => some (Value.int .i64 (n : Int))) hN.symm) (sub_cons rfl (sub_cons rfl sub_nil))), by omega, hM.trans hM2, h1.mono hM2, hk2, by rw [hT]; exact h3.mono hM2, hS.keep⟩
      · try simp only [zZ] at hc40
        have ht : (m.own.takeL (m.k.r.came.take i)).took1 d = 0 := by unfold Cli.took1; rw [if_neg (by omega)]
        rw [ht, Nat.add_zero] at hN
        refine zK (zR (zM rfl rfl (zN rfl rfl (zF fl_97_3 rfl rfl (wl (y_load pl_94 rfl (hS.cell (v := .pointer (some ⟨kp, 0, none⟩)) rfl)) rfl (wl_call (.cons rfl .nil) (lpop_c (Lnk.pops_ok _ _ hk) hk1 (hS.pull H1)) rfl ?_))))))
        rintro _ w ⟨Hk2, rfl, hk2, hS⟩
        rw [Lnk.pops_pop] at hk2
        rw [hpv (i + 1)]
        refine zM rfl rfl (zX (vs := [_, _]) rfl rfl rfl (zX (vs := [_, _]) rfl rfl rfl (zA rfl rfl (zA rfl rfl (zE ?_)))))
        first
        | exact ⟨(i + 1, M3, Hk2, H3), by simp only; omega, sub_cons rfl (sub_cons rfl (sub_cons rfl (sub_cons rfl sub_nil))), by omega, hM.trans (hM2.trans hM3), h1.mono (hM2.trans hM3), hk2, by rw [hT]; exact h3', hS.keep⟩
        | exact ⟨(i + 1, M3, Hk2, H3), by simp only; omega, sub_cons rfl (sub_cons (congrArg (fun n : Nat => some (Value.int .i64 (n : Int))) hN.symm) (sub_cons rfl (sub_cons rfl sub_nil))), by omega, hM.trans (hM2.trans hM3), h1.mono (hM2.trans hM3), hk2, by rw [hT]; exact h3', hS.keep⟩
        | exact ⟨(i + 1, M2, Hk2, H2), by simp only; omega, sub_cons rfl (sub_cons (congrArg (fun n : Nat => some (Value.int .i64 (n : Int))) hN.symm) (sub_cons rfl (sub_cons rfl sub_nil))), by omega, hM.trans hM2, h1.mono hM2, hk2, by rw [hT]; exact h3.mono hM2, hS.keep⟩
    · try simp only [zZ] at hg32
      have hT1 : (m.own.takeL (m.k.r.came.take i)).take1 d = (m.own.takeL (m.k.r.came.take i)) := by unfold Cli.take1; rw [if_neg (by omega)]
      have ht : (m.own.takeL (m.k.r.came.take i)).took1 d = 0 := by unfold Cli.took1; rw [if_neg (by omega)]
      rw [hT1] at hT
      rw [ht, Nat.add_zero] at hN
      refine dr_off (i := 3) (lb 11 15) rfl rfl (by kernel_rfl) rfl rfl rfl (dr_off (i := 4) (lb 11 31) rfl rfl (by kernel_rfl) rfl rfl rfl (dr_off (i := 5) (lb 11 63) rfl rfl (by kernel_rfl) rfl rfl rfl (dr_off (i := 6) (lb 11 127) rfl rfl (by kernel_rfl) rfl rfl rfl (dr_off (i := 7) (lb 11 255) rfl rfl (by kernel_rfl) rfl rfl rfl (dr_off (i := 8) (lb 11 511) rfl rfl (by kernel_rfl) rfl rfl rfl (dr_off (i := 9) (lb 11 1023) rfl rfl (by kernel_rfl) rfl rfl rfl (zP (i := 10) 2047 rfl rfl (by kernel_rfl) (fun w => y_pickF rfl rfl) (zH (by kernel_rfl) (wc_ifF rfl rfl (zK (zR (zM rfl rfl (zN rfl rfl (zF fl_97_3 rfl rfl (wl (y_load pl_94 rfl (hS.cell (v := .pointer (some ⟨kp, 0, none⟩)) rfl)) rfl (wl_call (.cons rfl .nil) (lpop_c (Lnk.pops_ok _ _ hk) hk1 (hS.pull H1)) rfl ?_))))))))))))))))
      rintro _ w ⟨Hk2, rfl, hk2, hS⟩
      rw [Lnk.pops_pop] at hk2
      rw [hpv (i + 1)]
      refine zM rfl rfl (zX (vs := [_, _]) rfl rfl rfl (zX (vs := [_, _]) rfl rfl rfl (zA rfl rfl (zA rfl rfl (zE ?_)))))
      first
      | exact ⟨(i + 1, M3, Hk2, H3), by simp only; omega, sub_cons rfl (sub_cons rfl (sub_cons rfl (sub_cons rfl sub_nil))), by omega, hM.trans (hM2.trans hM3), h1.mono (hM2.trans hM3), hk2, by rw [hT]; exact h3', hS.keep⟩
      | exact ⟨(i + 1, M3, Hk2, H3), by simp only; omega, sub_cons rfl (sub_cons (congrArg (fun n : Nat => some (Value.int .i64 (n : Int))) hN.symm) (sub_cons rfl (sub_cons rfl sub_nil))), by omega, hM.trans (hM2.trans hM3), h1.mono (hM2.trans hM3), hk2, by rw [hT]; exact h3', hS.keep⟩
      | exact ⟨(i + 1, M2, Hk2, H2), by simp only; omega, sub_cons rfl (sub_cons (congrArg (fun n : Nat => some (Value.int .i64 (n : Int))) hN.symm) (sub_cons rfl (sub_cons rfl sub_nil))), by omega, hM.trans hM2, h1.mono hM2, hk2, by rw [hT]; exact h3.mono hM2, hS.keep⟩
  · try simp only [zZ] at hc16
    obtain rfl : i = m.k.r.wait := by omega
    rw [List.take_of_length_le (by omega)] at h3
    have hp : m.k.pops (m.k.r.wait + 1) = m.k.pops m.k.r.wait := by unfold Lnk.pops; congr 2; omega
    rw [hp] at hk1
    refine wc_exit (zQ (zR (zM rfl rfl (zA rfl rfl (zE (wc_ret (wret (vs := [_]) (.tmp rfl .nil) ?_)))))))
    exact ⟨M1, _, hM, congrArg (Value.int .i64) (by unfold Nod.pullN; rw [List.take_of_length_le (by omega)]), ⟨jp, kp, cp, Hj, H1, H2, h1, hk1, h3, rfl⟩, (by have h := hS.keep (T := ((p, nodO jp kp cp m) :: (Hj ++ (H1 ++ H2))) :: Ls); exact h)⟩
end
end Go.Proofs.YtndahppmjdbifaaGreatDoor.Nod
set_option linter.unusedVariables false
set_option linter.unusedSimpArgs false
namespace Go.Proofs.YtndahppmjdbifaaGreatDoor.Nod
open Go Go.Proofs Go.Proofs.YtndahppmjdbifaaGreatDoor.Eng Go.Proofs.YtndahppmjdbifaaGreatDoor.Pre Go.Proofs.YtndahppmjdbifaaGreatDoor.Val Go.Proofs.YtndahppmjdbifaaGreatDoor.Rou Go.Proofs.YtndahppmjdbifaaGreatDoor.Fra Go.Proofs.YtndahppmjdbifaaGreatDoor.Snd Go.Proofs.YtndahppmjdbifaaGreatDoor.Lnk Go.Proofs.YtndahppmjdbifaaGreatDoor.Jnl Go.Proofs.YtndahppmjdbifaaGreatDoor.Cli
structure Pkt where
  frm : Int
  to_ : Int
  bytes : ByteArray
deriving DecidableEq
def encP : Enc Pkt := ⟨3, fun x => [.int .i64 x.frm, .int .i64 x.to_, .string x.bytes], fun _ => rfl, by simp [oneC]⟩
def putB (r : Rnd) : ByteArray := if mayR r = 0 then str (rbytes r) else ⟨#[]⟩
def offl : List Rnd → Lnk → Nat → Lnk × Nat
  | [], k, n => (k, n)
  | r :: l, k, n => if k.s.offerE = 0 then offl l (k.offer (putB r)) (n + 1) else (k, n)
def pkts (origin to_ mtu : Int) (l : List Frm) : List Pkt := l.filterMap fun f => if fputE f mtu = 0 then some ⟨origin, to_, fput f mtu⟩ else none
def Nod.tick (m : Nod) : Nod := { m with k := (offl (m.j.l.drop m.offered) m.k m.offered).1, offered := (offl (m.j.l.drop m.offered) m.k m.offered).2 }
def Nod.tickP (m : Nod) : List Pkt := pkts m.origin 0 m.c.mtu m.tick.k.frames
theorem Lnk.offer_ok {m : Lnk} (h : m.ok) (d : ByteArray) : (m.offer d).ok := ⟨h.1, Snd.offer_ok h.2.1 d, h.2.2⟩
theorem offl_ok {l : List Rnd} {k : Lnk} {n : Nat} (h : k.ok) : (offl l k n).1.ok := by
  induction l generalizing k n with
  | nil => exact h
  | cons r l ih =>
    simp only [offl]
    split
    · exact ih (Lnk.offer_ok h _)
    · exact h
abbrev rn (l : List Rnd) (i : Nat) : Rnd := (l[i]?).getD ⟨0, 0, []⟩
abbrev rndO (r : Rnd) (s : Value) : Obj := .cells #[.int .i64 r.o, .int .i64 r.n, s] 48
theorem offl_step {l : List Rnd} {k : Lnk} {n : Nat} {r : Rnd} (hr : l[n]? = some r) (he : k.s.offerE = 0) : offl (l.drop n) k n = offl (l.drop (n + 1)) (k.offer (putB r)) (n + 1) := by
  obtain ⟨hlt, hx⟩ := List.getElem?_eq_some_iff.1 hr
  rw [List.drop_eq_getElem_cons hlt, hx]
  simp only [offl, if_pos he]
theorem offl_stop {l : List Rnd} {k : Lnk} {n : Nat} (h : l.length ≤ n ∨ k.s.offerE ≠ 0) : offl (l.drop n) k n = (k, n) := by
  by_cases hl : l.length ≤ n
  · rw [List.drop_eq_nil_of_le hl]; rfl
  · rw [List.drop_eq_getElem_cons (by omega)]
    simp only [offl]
    rw [if_neg (by omega)]
theorem rputV_eq (r : Rnd) : rputV r = .tuple [.string (putB r), .int .i64 (mayR r)].toArray := by
  unfold rputV putB
  split
  · rename_i h; rw [h]; rfl
  · rfl
theorem frames_length (m : Lnk) (h : m.ok) : m.frames.length ≤ 16 := by
  obtain ⟨_, h2, _⟩ := h
  unfold Snd.ok at h2
  unfold Lnk.frames
  split
  · simp
  · split
    · simp
    · rw [List.length_map, pieces_length]; omega
theorem pkts_take {origin to_ mtu : Int} {l : List Frm} {i : Nat} {f : Frm} (h : l[i]? = some f) : pkts origin to_ mtu (l.take (i + 1)) = pkts origin to_ mtu (l.take i) ++ (if fputE f mtu = 0 then [⟨origin, to_, fput f mtu⟩] else []) := by
  unfold pkts
  rw [List.take_add_one, h, List.filterMap_append]
  congr 1
  by_cases hc : fputE f mtu = 0 <;> simp [hc]
theorem pkts_length {origin to_ mtu : Int} {l : List Frm} : (pkts origin to_ mtu l).length ≤ l.length := List.length_filterMap_le _ _
section
variable {M : Mem} {w : World} {Ls : List Chunk}
theorem ntick_c (hG : Bits M) {p : Nat} {m : Nod} {H : Chunk} (hk : m.k.ok) (hs : m.small) (hfs : ∀ f ∈ m.tick.k.frames, f.data.size ≤ 34359738368) (hb : IsN M p m H) (hS : St M w (H :: Ls)) :
    CallsR Tryz.prog 17 [.pointer (some ⟨p, 0, none⟩)].toArray w fun v w' => ∃ M' H' Hp, Mle M M' ∧ Own 40 encP v m.tickP Hp ∧ IsN M' p m.tick H' ∧ St M' w' (Hp :: H' :: Ls) := by
  obtain ⟨s1, s2, s3, s4⟩ := hs
  obtain ⟨jp, kp, cp, Hj, Hk, Hc, h1, h2, h3, rfl⟩ := hb
  replace hS := hS.un3
  refine calls_of (c := _) (rs := _) (n := 90) Tryz.func17 rfl rfl rfl rfl rfl (zQ (zR (zA rfl rfl (zE (wc_cut (α := Mem × Chunk) (fun _ => [(0, .pointer (some ⟨p, 0, none⟩))]) (fun ⟨M1, H1⟩ w => Mle M M1 ∧ IsJ M1 jp m.j Hj ∧ IsL kp m.tick.k H1 ∧ St M1 w ([(p, nodQ m.c m.origin jp kp cp m.tick.offered)] :: Hj :: H1 :: Hc :: Ls)) ?_ ?_)))))
  · skip
    refine wc_cut (α := Mem × Value × Nat) (fun ⟨_, _, b3⟩ => [(0, .pointer (some ⟨p, 0, none⟩)), (3, .pointer (some ⟨b3, 0, none⟩)), (4, .bool (decide (m.offered < m.j.l.length)))]) (fun ⟨M1, s, b3⟩ w => Mle M M1 ∧ IsJ M1 jp m.j Hj ∧ Rd M1 encU s (rn m.j.l m.offered).ups ∧ St M1 w ([(b3, rndO (rn m.j.l m.offered) s)] :: [(p, nodO jp kp cp m)] :: Hj :: Hk :: Hc :: Ls)) ?_ ?_
    · skip
      refine zW hS (fun w => w.cell? ⟨p, 7, none⟩ = some (.pointer (some ⟨jp, 0, none⟩)) ∧ w.cell? ⟨p, 10, none⟩ = some (.int .i64 m.offered)) [13, 14] wide_ rfl rfl fun w hS => zP (i := 0) 1 rfl rfl (by kernel_rfl) (fun _ => y_move rfl) (zP (i := 1) 3 rfl rfl (by kernel_rfl) (fun w => y_nil rfl) (zP (i := 2) 7 rfl rfl (by kernel_rfl) (fun w => y_fld fl_97_2 rfl) (zP (i := 4) 23 rfl rfl (by kernel_rfl) (fun _ => y_move rfl) (zP (i := 5) 55 rfl rfl (by kernel_rfl) (fun w => y_nil rfl) (zP (i := 6) 119 rfl rfl (by kernel_rfl) (fun w => y_fld fl_97_5 rfl) (zD (i := 3) 127 rfl rfl (by kernel_rfl) ⟨hS.cell rfl, hS.cell rfl⟩ (fun w hS => y_load pl_93 rfl hS.1) (zD (i := 7) 255 rfl rfl (by kernel_rfl) ⟨hS.cell rfl, hS.cell rfl⟩ (fun w hS => y_load pl_3 rfl hS.2) (dr_do2 (i := 8) (j := 12) (lb 15 511) (lb 15 4351) rfl rfl (by kernel_rfl) ?_ ?_))))))))
      · skip
        refine wl_call (.cons rfl (.cons rfl .nil)) (jat_c m.offered h1 (hS.pull Hj)) rfl ?_
        rintro _ w ⟨M1, s1', hM1, hs1, rfl, h1', hS⟩
        obtain ⟨sa1, sc1, rfl⟩ := (hs1.holds hS).slice
        refine zE ⟨fun _ _ => ⟨hS.cell rfl, hS.cell rfl⟩, zP (i := 9) 1023 rfl rfl (by kernel_rfl) (fun _ => y_move rfl) (zP (i := 10) 2047 rfl rfl (by kernel_rfl) (fun w => y_extract (vs := [_, _]) rfl rfl) (zP (i := 11) 4095 rfl rfl (by kernel_rfl) (fun w => y_extract (vs := [_, _]) rfl rfl) (zU (i := 12) 8191 rfl (by kernel_rfl) (a_alloc z_48 hS rfl fun b3 w hS => zE ⟨fun _ _ => ⟨hS.cell rfl, hS.cell rfl⟩, zU (i := 13) 16383 rfl (by kernel_rfl) (a_storeS (vs := [_, _, _]) sz_48 rfl rfl rfl rfl hS (Nat.le_of_ble_eq_true rfl) fun w hS => zE ⟨fun _ _ => ⟨hS.cell rfl, hS.cell rfl⟩, zP (i := 14) 32767 rfl rfl (by kernel_rfl) (fun w => y_assign rfl) (zH (by kernel_rfl) ?_)⟩)⟩))))⟩
        simp only [zL, cells_agg, setCells] at hS
        exact ⟨(M1, .slice sa1 _ sc1, b3), sub_cons rfl (sub_cons rfl (sub_cons rfl sub_nil)), hM1, h1', hs1, hS.keep⟩
      · skip
        refine a_alloc z_48 hS rfl fun b3 w hS => zE ⟨fun _ _ => ⟨hS.cell rfl, hS.cell rfl⟩, zU (i := 8) 4607 rfl (by kernel_rfl) (wl_call (.cons rfl (.cons rfl .nil)) (jat_c m.offered h1 (hS.pull Hj)) rfl ?_)⟩
        rintro _ w ⟨M1, s1', hM1, hs1, rfl, h1', hS⟩
        obtain ⟨sa1, sc1, rfl⟩ := (hs1.holds hS).slice
        refine zE ⟨fun _ _ => ⟨hS.cell rfl, hS.cell rfl⟩, zP (i := 9) 5119 rfl rfl (by kernel_rfl) (fun _ => y_move rfl) (zP (i := 10) 6143 rfl rfl (by kernel_rfl) (fun w => y_extract (vs := [_, _]) rfl rfl) (zP (i := 11) 8191 rfl rfl (by kernel_rfl) (fun w => y_extract (vs := [_, _]) rfl rfl) (zU (i := 13) 16383 rfl (by kernel_rfl) (a_storeS (vs := [_, _, _]) sz_48 rfl rfl rfl rfl hS (Nat.le_of_ble_eq_true rfl) fun w hS => zE ⟨fun _ _ => ⟨hS.cell rfl, hS.cell rfl⟩, zP (i := 14) 32767 rfl rfl (by kernel_rfl) (fun w => y_assign rfl) (zH (by kernel_rfl) ?_)⟩))))⟩
        simp only [zL, cells_agg, setCells] at hS
        exact ⟨(M1, .slice sa1 _ sc1, b3), sub_cons rfl (sub_cons rfl (sub_cons rfl sub_nil)), hM1, h1', hs1, hS.keep⟩
    · skip
      clear hS
      rintro ⟨M1, s, b3⟩ w ⟨hM1, h1', hs1, hS⟩
      refine zB (wc_loop (α := Nat × Lnk × Mem × Value × Nat × Chunk) (fun ⟨n, _, _, _, b3, _⟩ => [(0, .pointer (some ⟨p, 0, none⟩)), (3, .pointer (some ⟨b3, 0, none⟩)), (4, .bool (decide (n < m.j.l.length)))]) (fun ⟨n, k, M1, s, b3, H1⟩ w => offl (m.j.l.drop m.offered) m.k m.offered = offl (m.j.l.drop n) k n ∧ k.ok ∧ Mle M M1 ∧ IsJ M1 jp m.j Hj ∧ IsL kp k H1 ∧ Rd M1 encU s (rn m.j.l n).ups ∧ St M1 w ([(b3, rndO (rn m.j.l n) s)] :: [(p, nodQ m.c m.origin jp kp cp n)] :: Hj :: H1 :: Hc :: Ls)) (fun ⟨n, _⟩ => m.j.l.length - n) (m.offered, m.k, M1, s, b3, Hk) (sub_cons rfl (sub_cons rfl (sub_cons rfl sub_nil))) ⟨rfl, hk, hM1, h1', h2, hs1, hS⟩ ?_)
      clear hS h1' hs1 hM1 b3 s M1
      rintro ⟨n, k, M1, s, b3, H1⟩ w ⟨hq, hk1, hM1, h1', h2', hs1, hS⟩
      refine zQ (zQ (zR (zM rfl rfl (zE (wc_if rfl (fun hc24 => ?_) (fun hc24 => ?_))))))
      · try simp only [zZ] at hc24
        obtain ⟨r, hr⟩ : ∃ r, m.j.l[n]? = some r := ⟨_, List.getElem?_eq_getElem (by omega)⟩
        have hrn : rn m.j.l n = r := by unfold rn; rw [hr]; rfl
        rw [hrn] at hs1 hS
        obtain ⟨sa, sc, rfl⟩ := (hs1.holds hS).slice
        refine zK (zQ (zB (zQ (zR (wl ((y_loadS st_48 sz_48 rfl (vs := [.int .i64 r.o, .int .i64 r.n, .slice sa r.ups.length sc]) (hS.cells rfl) rfl).val (show _ = rvS r (.slice sa r.ups.length sc) from rfl)) rfl (wl_call (.cons rfl .nil) (rput_c (hG.mono hM1) r _ hs1 hS) rfl ?_))))))
        rintro _ w ⟨rfl, hS⟩
        rw [rputV_eq]
        refine zM rfl rfl (zX (vs := [_, _]) rfl rfl rfl (zX (vs := [_, _]) rfl rfl rfl (zA rfl rfl (zA rfl rfl (zE (zQ (zQ (zR (zM rfl rfl (zN rfl rfl (zF fl_97_3 rfl rfl (wl (y_load pl_94 rfl (hS.cell (v := .pointer (some ⟨kp, 0, none⟩)) rfl)) rfl (zM rfl rfl (wl_call (.cons rfl (.cons rfl .nil)) (loffer_c (putB r) hk1 h2' (hS.pull H1)) rfl ?_))))))))))))))
        rintro _ w ⟨H2, rfl, h3', hS⟩
        refine wl (y_neq rfl rfl) rfl (zE (wc_if rfl (fun hc48 => ?_) (fun hc48 => ?_)))
        · try simp only [zZ] at hc48
          replace hq := hq.trans (offl_stop (.inr (by omega)))
          have hk' : m.tick.k = k := by unfold Nod.tick; rw [hq]
          have ho' : m.tick.offered = n := by unfold Nod.tick; rw [hq]
          have hkk : k.offer (putB r) = k := by unfold Lnk.offer Snd.offer; rw [if_neg (by omega)]
          rw [hkk] at h3'
          refine wc_exit ?_
          first
          | exact ⟨(M1, H2), sub_cons rfl sub_nil, hM1, h1', by rw [hk']; exact h3', by rw [ho']; exact hS.keep⟩
          | exact ⟨(M1, H1), sub_cons rfl sub_nil, hM1, h1', by rw [hk']; exact h2', by rw [ho']; exact hS.keep⟩
        · try simp only [zZ] at hc48
          replace hq := hq.trans (offl_step hr (by omega))
          refine zK (zR (zM rfl rfl (zN rfl rfl (zF fl_97_5 rfl rfl (wl (y_load pl_3 rfl (hS.cell (v := .int .i64 n) rfl)) rfl (wl ((y_add rfl rfl (w64 (by omega) (by omega))).val (u := .int .i64 ((n + 1 : Nat) : Int)) (congrArg (Value.int .i64) (by omega))) rfl (zN rfl rfl (zF fl_97_5 rfl rfl (a_store sz_3 rfl rfl rfl hS (Nat.le_of_ble_eq_true rfl) fun w hS => zE (zQ (zQ (zR (wl ((y_loadS st_48 sz_48 rfl (vs := [.int .i64 r.o, .int .i64 r.n, .slice sa r.ups.length sc]) (hS.cells rfl) rfl).val (show _ = rvS r (.slice sa r.ups.length sc) from rfl)) rfl (zE (zR (a_alloc z_48 hS rfl fun b3 w hS => a_storeS (vs := [_, _, _]) sz_48 rfl rfl rfl rfl hS (Nat.le_of_ble_eq_true rfl) fun w hS => zE (zW hS (fun w => w.cell? ⟨p, 7, none⟩ = some (.pointer (some ⟨jp, 0, none⟩)) ∧ w.cell? ⟨p, 10, none⟩ = some (.int .i64 ((n + 1 : Nat) : Int))) [12, 13] wide_ rfl rfl fun w hS => zP (i := 0) 1 rfl rfl (by kernel_rfl) (fun _ => y_move rfl) (zP (i := 1) 3 rfl rfl (by kernel_rfl) (fun w => y_nil rfl) (zP (i := 2) 7 rfl rfl (by kernel_rfl) (fun w => y_fld fl_97_2 rfl) (zP (i := 4) 23 rfl rfl (by kernel_rfl) (fun _ => y_move rfl) (zP (i := 5) 55 rfl rfl (by kernel_rfl) (fun w => y_nil rfl) (zP (i := 6) 119 rfl rfl (by kernel_rfl) (fun w => y_fld fl_97_5 rfl) (zD (i := 3) 127 rfl rfl (by kernel_rfl) ⟨hS.cell rfl, hS.cell rfl⟩ (fun w hS => y_load pl_93 rfl hS.1) (zD (i := 7) 255 rfl rfl (by kernel_rfl) ⟨hS.cell rfl, hS.cell rfl⟩ (fun w hS => y_load pl_3 rfl hS.2) (zU (i := 8) 511 rfl (by kernel_rfl) (wl_call (.cons rfl (.cons rfl .nil)) (jat_c (n + 1) h1' (hS.pull Hj)) rfl ?_))))))))))))))))))))))))))
          rintro _ w ⟨M2, s2', hM2, hs2, rfl, h1'', hS⟩
          obtain ⟨sa2, sc2, rfl⟩ := (hs2.holds hS).slice
          refine zE ⟨fun _ _ => ⟨hS.cell rfl, hS.cell rfl⟩, zP (i := 9) 1023 rfl rfl (by kernel_rfl) (fun _ => y_move rfl) (zP (i := 10) 2047 rfl rfl (by kernel_rfl) (fun w => y_extract (vs := [_, _]) rfl rfl) (zP (i := 11) 4095 rfl rfl (by kernel_rfl) (fun w => y_extract (vs := [_, _]) rfl rfl) (zU (i := 12) 8191 rfl (by kernel_rfl) (a_storeS (vs := [_, _, _]) sz_48 rfl rfl rfl rfl hS (Nat.le_of_ble_eq_true rfl) fun w hS => zE ⟨fun _ _ => ⟨hS.cell rfl, hS.cell rfl⟩, zP (i := 13) 16383 rfl rfl (by kernel_rfl) (fun w => y_assign rfl) (zH (by kernel_rfl) ?_)⟩))))⟩
          simp only [zL, cells_agg, setCells] at hS
          exact ⟨(n + 1, k.offer (putB r), M2, .slice sa2 _ sc2, b3, H2), by simp only; omega, sub_cons rfl (sub_cons rfl (sub_cons rfl sub_nil)), hq, Lnk.offer_ok hk1 _, hM1.trans hM2, h1'', h3', hs2, hS.keep⟩
      · try simp only [zZ] at hc24
        replace hq := hq.trans (offl_stop (.inl (by omega)))
        have hk' : m.tick.k = k := by unfold Nod.tick; rw [hq]
        have ho' : m.tick.offered = n := by unfold Nod.tick; rw [hq]
        refine wc_exit ?_
        first
        | exact ⟨(M1, H2), sub_cons rfl sub_nil, hM1, h1', by rw [hk']; exact h3', by rw [ho']; exact hS.keep⟩
        | exact ⟨(M1, H1), sub_cons rfl sub_nil, hM1, h1', by rw [hk']; exact h2', by rw [ho']; exact hS.keep⟩
  · skip
    clear hS
    rintro ⟨M1, H1⟩ w ⟨hM1, h1', h2', hS⟩
    have htk : m.tick.k.ok := offl_ok hk
    have hfl := frames_length m.tick.k htk
    refine zQ (zR (zA rfl rfl (zE (zQ (zQ (zR (zM rfl rfl (zN rfl rfl (zF fl_97_3 rfl rfl (wl (y_load pl_94 rfl (hS.cell (v := .pointer (some ⟨kp, 0, none⟩)) rfl)) rfl (wl_call (.cons rfl .nil) (lframes_c htk h2' (hS.pull H1)) rfl ?_)))))))))))
    rintro _ w ⟨Hf, hof, hS⟩
    obtain ⟨fa, fc, rfl⟩ := hof.slice
    refine wl (y_len_sl Tryz.underlying106 rfl) rfl (zM rfl rfl (zE (zB (wc_loop (α := Nat × Value × Chunk) (fun ⟨i, s, _⟩ => [(0, .pointer (some ⟨p, 0, none⟩)), (7, s), (61, .slice fa m.tick.k.frames.length fc), (62, .int .i64 m.tick.k.frames.length), (63, .int .i64 i)]) (fun ⟨i, s, Ho⟩ w => i ≤ m.tick.k.frames.length ∧ Own 40 encP s (pkts m.origin 0 m.c.mtu (m.tick.k.frames.take i)) Ho ∧ St M1 w (Ho :: Hf :: H1 :: [(p, nodQ m.c m.origin jp kp cp m.tick.offered)] :: Hj :: Hc :: Ls)) (fun ⟨i, _, _⟩ => m.tick.k.frames.length - i) (0, .slice none 0 0, []) (sub_cons rfl (sub_cons rfl (sub_cons rfl (sub_cons rfl (sub_cons rfl sub_nil))))) ⟨by omega, .nil, St.nil hS.keep⟩ ?_))))
    clear hS
    rintro ⟨i, s, Ho⟩ w ⟨hi, hoo, hS⟩
    refine zQ (zR (wl (y_lss rfl rfl) rfl (zE (zQ (wc_if rfl (fun hc64 => ?_) (fun hc64 => ?_))))))
    · try simp only [zZ] at hc64
      refine zK (zQ (zB (zQ ?_)))
      have hi' : i < m.tick.k.frames.length := by omega
      obtain ⟨f, hfi⟩ : ∃ f, m.tick.k.frames[i]? = some f := ⟨_, List.getElem?_eq_getElem hi'⟩
      have hpt := pkts_take (origin := m.origin) (to_ := 0) (mtu := m.c.mtu) hfi
      have hpl := pkts_length (origin := m.origin) (to_ := 0) (mtu := m.c.mtu) (l := m.tick.k.frames.take i)
      rw [List.length_take] at hpl
      have hfz := hfs f (List.mem_of_getElem? hfi)
      obtain ⟨bb, off, c', hse, hce⟩ := (hof.holds (hS.pull Hf)).at hfi
      simp only [Value.slice.injEq] at hse
      have hSk := hS
      obtain ⟨rfl, _, rfl⟩ := hse
      replace hS := hSk
      obtain ⟨oa, oc, rfl⟩ := hoo.slice
      refine zR (wl (y_ixa_sl Tryz.underlying106 sz_42 rfl rfl (by omega) (by omega)) rfl (wl ((y_loadS st_42 sz_42 rfl (vs := encF.f f) hce rfl).val (show _ = fv f from rfl)) rfl (a_alloc z_42 hS rfl fun b9 w hS => a_storeS (vs := [_, _, _, _]) sz_42 rfl rfl rfl rfl hS (Nat.le_of_ble_eq_true rfl) fun w hS => zE (zQ (zW hS (fun w => CellsAt w b9 0 (encF.f f) ∧ w.cell? ⟨p, 4, none⟩ = some (.int .i64 m.c.mtu)) [6] wide_ rfl rfl fun w hS => zP (i := 1) 2 rfl rfl (by kernel_rfl) (fun _ => y_move rfl) (zP (i := 2) 6 rfl rfl (by kernel_rfl) (fun w => y_nil rfl) (zP (i := 3) 14 rfl rfl (by kernel_rfl) (fun w => y_fld fl_97_0 rfl) (zP (i := 4) 30 rfl rfl (by kernel_rfl) (fun w => y_fld fl_23_4 rfl) (zD (i := 0) 31 rfl rfl (by kernel_rfl) ⟨hS.cells rfl, hS.cell rfl⟩ (fun w hS => (y_loadS st_42 sz_42 rfl hS.1 rfl).val (show _ = fv f from rfl)) (zD (i := 5) 63 rfl rfl (by kernel_rfl) ⟨hS.cells rfl, hS.cell rfl⟩ (fun w hS => y_load pl_3 rfl hS.2) (zU (i := 6) 127 rfl (by kernel_rfl) (wl_call (.cons rfl (.cons rfl .nil)) (fput_c (hG.mono hM1) f m.c.mtu hfz hS) rfl ?_))))))))))))
      rintro _ w ⟨rfl, hS⟩
      refine zE ⟨fun h => absurd (by decide) h, zP (i := 7) 255 rfl rfl (by kernel_rfl) (fun _ => y_move rfl) (zP (i := 8) 511 rfl rfl (by kernel_rfl) (fun w => y_extract (vs := [_, _]) rfl rfl) (zP (i := 9) 1023 rfl rfl (by kernel_rfl) (fun w => y_extract (vs := [_, _]) rfl rfl) (zP (i := 10) 2047 rfl rfl (by kernel_rfl) (fun w => y_assign rfl) (zP (i := 11) 4095 rfl rfl (by kernel_rfl) (fun w => y_assign rfl) (zH (by kernel_rfl) (zQ (zR (zM rfl rfl (wl (y_eql rfl rfl) rfl (zE (wc_if rfl (fun hc78 => ?_) (fun hc78 => ?_))))))))))))⟩
      · try simp only [zZ] at hc78
        rw [if_pos (by omega)] at hpt
        refine zR (zM rfl rfl (zM rfl rfl (zN rfl rfl (zF fl_97_1 rfl rfl (wl (y_load pl_3 rfl (hS.cell (v := .int .i64 m.origin) rfl)) rfl (zM rfl rfl (wl (y_build (is := [0, 2]) (xs := [_, _]) (out := [_, _, _]) plc_40 z_40 (.cons rfl (.cons rfl .nil)) rfl) rfl (a_bslice encP [⟨m.origin, 0, fput f m.c.mtu⟩] Tryz.underlying37 sz_40 z_40 rfl (.cons rfl .nil) rfl rfl rfl (by decide) hS rfl fun u Hu w hou hS => a_append Tryz.underlying37 Tryz.underlying37 sz_40 z_40 rfl by_40 (by decide) rfl rfl hoo (hou.holds hS) hS (by simp; omega) rfl fun s2 H2 w ho2 hS => ?_))))))))
        rw [← hpt] at ho2
        refine zA rfl rfl (zE (zR (wl (y_add rfl rfl (w64 (by omega) (by omega))) rfl (zM rfl rfl (zE ?_)))))
        first
        | exact ⟨(i + 1, _, H2), by simp only; omega, sub_cons rfl (sub_cons rfl (sub_cons rfl (sub_cons rfl (sub_cons rfl sub_nil)))), by omega, ho2, hS.keep⟩
        | exact ⟨(i + 1, _, Ho), by simp only; omega, sub_cons rfl (sub_cons rfl (sub_cons rfl (sub_cons rfl (sub_cons rfl sub_nil)))), by omega, by rw [hpt]; exact hoo, hS.keep⟩
      · try simp only [zZ] at hc78
        rw [if_neg (by omega), List.append_nil] at hpt
        refine zK (zR (wl (y_add rfl rfl (w64 (by omega) (by omega))) rfl (zM rfl rfl (zE ?_))))
        first
        | exact ⟨(i + 1, _, H2), by simp only; omega, sub_cons rfl (sub_cons rfl (sub_cons rfl (sub_cons rfl (sub_cons rfl sub_nil)))), by omega, ho2, hS.keep⟩
        | exact ⟨(i + 1, _, Ho), by simp only; omega, sub_cons rfl (sub_cons rfl (sub_cons rfl (sub_cons rfl (sub_cons rfl sub_nil)))), by omega, by rw [hpt]; exact hoo, hS.keep⟩
    · try simp only [zZ] at hc64
      obtain rfl : i = m.tick.k.frames.length := by omega
      rw [List.take_length] at hoo
      refine wc_exit (zQ (zR (zM rfl rfl (zA rfl rfl (zE (wc_ret (wret (vs := [_]) (.tmp rfl .nil) ?_)))))))
      exact ⟨M1, _, Ho, hM1, hoo, ⟨jp, kp, cp, Hj, H1, Hc, h1', h2', h3.mono hM1, rfl⟩, (by have h := hS.keep (T := Ho :: ((p, nodQ m.c m.origin jp kp cp m.tick.offered) :: (Hj ++ (H1 ++ Hc))) :: Ls); exact h)⟩
end
end Go.Proofs.YtndahppmjdbifaaGreatDoor.Nod
set_option linter.unusedVariables false
set_option linter.unusedSimpArgs false
namespace Go.Proofs.YtndahppmjdbifaaGreatDoor.Sto
open Go Go.Proofs Go.Proofs.YtndahppmjdbifaaGreatDoor.Eng Go.Proofs.YtndahppmjdbifaaGreatDoor.Pre Go.Proofs.YtndahppmjdbifaaGreatDoor.Val Go.Proofs.YtndahppmjdbifaaGreatDoor.Rou Go.Proofs.YtndahppmjdbifaaGreatDoor.Jnl Go.Proofs.YtndahppmjdbifaaGreatDoor.Cli Go.Proofs.YtndahppmjdbifaaGreatDoor.Nod
abbrev KV := List (ByteArray × Valu)
def vGet (k : ByteArray) (kv : KV) : Valu := (kvGet k kv).getD val0
def sdo (kv : KV) (u : Upd) : KV := if mayU u ≠ 0 then kv else if (apply (vGet u.key kv) u).kind = 0 then kvDel u.key kv else kvSet u.key (apply (vGet u.key kv) u) kv
def sdoL (kv : KV) (l : List Upd) : KV := l.foldl sdo kv
def kvOk (kv : KV) : Prop := ∀ p ∈ kv, p.2.s.size ≤ 1024
theorem mem_set {k : ByteArray} {x : Valu} {l : KV} {p : ByteArray × Valu} (h : p ∈ kvSet k x l) : p = (k, x) ∨ p ∈ l := by
  induction l with
  | nil => simpa [kvSet] using h
  | cons q l ih =>
    obtain ⟨a, y⟩ := q
    simp only [kvSet] at h
    split at h
    · rcases List.mem_cons.1 h with h | h
      · exact .inl h
      · exact .inr (List.mem_cons_of_mem _ h)
    · rcases List.mem_cons.1 h with h | h
      · exact .inr (h ▸ List.mem_cons_self)
      · rcases ih h with h | h
        · exact .inl h
        · exact .inr (List.mem_cons_of_mem _ h)
theorem mem_del {k : ByteArray} {l : KV} {p : ByteArray × Valu} (h : p ∈ kvDel k l) : p ∈ l := by
  induction l with
  | nil => exact h
  | cons q l ih =>
    obtain ⟨a, y⟩ := q
    simp only [kvDel] at h
    split at h
    · exact List.mem_cons_of_mem _ h
    · rcases List.mem_cons.1 h with h | h
      · exact h ▸ List.mem_cons_self
      · exact List.mem_cons_of_mem _ (ih h)
theorem get_mem {k : ByteArray} {l : KV} {x : Valu} (h : kvGet k l = some x) : ∃ a, (a, x) ∈ l := by
  induction l with
  | nil => cases h
  | cons q l ih =>
    obtain ⟨a, y⟩ := q
    simp only [kvGet] at h
    split at h
    · cases h; exact ⟨a, List.mem_cons_self⟩
    · obtain ⟨b, hb⟩ := ih h
      exact ⟨b, List.mem_cons_of_mem _ hb⟩
theorem vGet_ok {kv : KV} (h : kvOk kv) (k : ByteArray) : (vGet k kv).s.size ≤ 1024 := by
  unfold vGet
  cases hg : kvGet k kv with
  | none => simp [val0]
  | some x => obtain ⟨a, ha⟩ := get_mem hg; exact h _ ha
theorem mayU_s {u : Upd} (h : mayU u = 0) : u.s.size ≤ 32 := by
  unfold mayU at h
  split at h; · cases h
  split at h; · cases h
  split at h
  · split at h; · cases h
    rename_i hs; simp only [Decidable.not_not] at hs; rw [hs]; decide
  · split at h
    · split at h; · cases h
      split at h; · cases h
      omega
    · split at h
      · split at h; · cases h
        split at h; · cases h
        rename_i hs; simp only [Decidable.not_not] at hs; rw [hs]; decide
      · cases h
theorem clean_s (x : Valu) : (clean x).s.size ≤ x.s.size := by
  unfold clean; split
  · simp [num]
  · split
    · simp [txt]
    · simp [val0]
theorem app_s {x : Valu} {u : Upd} (hx : x.s.size ≤ 1024) (hu : u.s.size ≤ 32) : (app x u).s.size ≤ 1024 := by
  unfold app
  split; · simp [num]
  split; · simp [txt]; omega
  split; · simp [val0]
  split
  · split
    · simp [num]
    · exact hx
  split
  · split; · simp [txt]; omega
    split
    · split
      · rename_i h; simp only [txt, ByteArray.size_append]; omega
      · exact hx
    · exact hx
  · exact hx
theorem apply_s {x : Valu} {u : Upd} (hx : x.s.size ≤ 1024) (hu : u.s.size ≤ 32) : (apply x u).s.size ≤ 1024 := by
  unfold apply; exact app_s (Nat.le_trans (clean_s x) hx) hu
theorem sdo_ok {kv : KV} (h : kvOk kv) (u : Upd) : kvOk (sdo kv u) := by
  unfold sdo
  split
  · exact h
  · rename_i hm
    split
    · exact fun p hp => h p (mem_del hp)
    · intro p hp
      rcases mem_set hp with rfl | hp
      · exact apply_s (vGet_ok h _) (mayU_s (by omega))
      · exact h p hp
theorem sdoL_ok {kv : KV} (h : kvOk kv) (l : List Upd) : kvOk (sdoL kv l) := by
  induction l generalizing kv with
  | nil => exact h
  | cons u l ih => exact ih (sdo_ok h u)
theorem sdoL_app (kv : KV) (l k : List Upd) : sdoL kv (l ++ k) = sdoL (sdoL kv l) k := List.foldl_append
def IsSt (p : Nat) (kv : KV) (H : Chunk) : Prop := ∃ mp Hm, IsMap vv mp kv Hm ∧ H = (p, .cells #[.map (some mp)] 258) :: Hm
section
variable {M : Mem} {w : World} {Ls : List Chunk}
theorem snew_c (hS : St M w Ls) : CallsR Tryz.prog 193 [].toArray w fun v w' => ∃ p H, v = .pointer (some ⟨p, 0, none⟩) ∧ IsSt p [] H ∧ St M w' (H :: Ls) := by
  refine calls_of (c := _) (rs := _) (n := 4) Tryz.func193 rfl rfl rfl rfl rfl (zQ (zR (zA rfl rfl (zE (zQ (zR (a_mkmap vv hS rfl fun mp Hm w hm hS => wl (y_build (is := [0]) (xs := [_]) (out := [_]) plc_258 z_258 (.cons rfl .nil) rfl) rfl (a_box rfl hS rfl fun b3 w hS => zA rfl rfl (zE (wc_ret (wret (vs := [_]) (.tmp rfl .nil) ?_)))))))))))
  exact ⟨_, _, rfl, ⟨mp, Hm, hm, rfl⟩, (by have h := hS.cons; exact h)⟩
theorem sget_c (k : ByteArray) {p : Nat} {kv : KV} {H : Chunk} (hb : IsSt p kv H) (hS : St M w (H :: Ls)) : CallsR Tryz.prog 178 [.pointer (some ⟨p, 0, none⟩), .string k].toArray w fun v w' => v = vv (vGet k kv) ∧ St M w' (H :: Ls) := by
  obtain ⟨mp, Hm, hm, rfl⟩ := hb
  replace hS := hS.uncons
  refine calls_of (c := _) (rs := _) (n := 11) Tryz.func178 rfl rfl rfl rfl rfl (zQ (zR (a_alloc z_65 hS rfl fun b4 w hS => zE (zQ (zR (zM rfl rfl (zN rfl rfl (zF fl_258_0 rfl rfl (wl (y_load pl_256 rfl (hS.cell (v := .map (some mp)) rfl)) rfl (zM rfl rfl (wl ((y_mget Tryz.underlying256 Tryz.underlying9 z_65 rfl rfl hm hS).val (show _ = vv (vGet k kv) by unfold vGet; cases kvGet k kv <;> rfl)) rfl (a_storeS (vs := [_, _, _]) sz_65 rfl rfl rfl rfl hS (Nat.le_of_ble_eq_true rfl) fun w hS => zE (wc_ret (wret (vs := [_]) (.cell rfl (loadVar_struct st_65 sz_65 (vs := [_, _, _]) rfl (hS.cells rfl)) .nil) ?_))))))))))))))
  exact ⟨rfl, hS.keep⟩
theorem sdo_c (u : Upd) {p : Nat} {kv : KV} {H : Chunk} (hk : kvOk kv) (hb : IsSt p kv H) (hS : St M w (H :: Ls)) : CallsR Tryz.prog 194 [.pointer (some ⟨p, 0, none⟩), uv u].toArray w fun v w' => ∃ H', v = .int .i64 (mayU u) ∧ IsSt p (sdo kv u) H' ∧ St M w' (H' :: Ls) := by
  have hb0 := hb
  obtain ⟨mp, Hm, hm, rfl⟩ := hb
  have hm0 := hm
  obtain ⟨es, clock, hr, rfl⟩ := hm
  replace hS := hS.uncons
  refine calls_of (c := _) (rs := _) (n := 37) Tryz.func194 rfl rfl rfl rfl rfl (zQ (zR (a_box rfl hS rfl fun b3 w hS => zA rfl rfl (zE (zQ (zQ (zR (wl ((y_loadS st_59 sz_59 rfl (vs := encU.f u) (hS.cells rfl) rfl).val (show _ = uv u from rfl)) rfl (wl_call (.cons rfl .nil) (may_c u hS) rfl ?_)))))))))
  rintro _ w ⟨rfl, hS⟩
  refine zA rfl rfl (zE (zQ (zR (zM rfl rfl (wl (y_neq rfl rfl) rfl (zE (wc_if rfl (fun hc10 => ?_) (fun hc10 => ?_))))))))
  · try simp only [zZ] at hc10
    have hq : sdo kv u = kv := by unfold sdo; rw [if_pos (by omega)]
    rw [hq]
    refine zQ (zR (zM rfl rfl (zA rfl rfl (zE (wc_ret (wret (vs := [_]) (.tmp rfl .nil) ?_))))))
    first
    | exact ⟨_, rfl, ⟨mp, H2, hm2, rfl⟩, hS.keep⟩
    | exact ⟨_, rfl, hb0, hS.keep⟩
  · try simp only [zZ] at hc10
    have hmu : mayU u = 0 := by omega
    have hus := mayU_s hmu
    have hvs := vGet_ok hk u.key
    rw [hmu]
    refine zK (zQ (zW hS (fun w => w.cell? ⟨p, 0, none⟩ = some (.map (some mp)) ∧ w.cell? ⟨b3, 0, none⟩ = some (.string u.key) ∧ CellsAt w b3 0 (encU.f u) ∧ w.heap[mp]? = some (.map es.toArray clock)) [8, 10] wide_ rfl rfl fun w hS => zP (i := 0) 1 rfl rfl (by kernel_rfl) (fun _ => y_move rfl) (zP (i := 1) 3 rfl rfl (by kernel_rfl) (fun w => y_nil rfl) (zP (i := 2) 7 rfl rfl (by kernel_rfl) (fun w => y_fld fl_258_0 rfl) (zP (i := 4) 23 rfl rfl (by kernel_rfl) (fun w => y_fld fl_59_0 rfl) (zD (i := 3) 31 rfl rfl (by kernel_rfl) ⟨hS.cell rfl, hS.cell rfl, hS.cells rfl, hS.has⟩ (fun w hS => y_load pl_256 rfl hS.1) (zD (i := 5) 63 rfl rfl (by kernel_rfl) ⟨hS.cell rfl, hS.cell rfl, hS.cells rfl, hS.has⟩ (fun w hS => y_load pl_9 rfl hS.2.1) (zD (i := 6) 127 rfl rfl (by kernel_rfl) ⟨hS.cell rfl, hS.cell rfl, hS.cells rfl, hS.has⟩ (fun w hS => (y_mgetH Tryz.underlying256 Tryz.underlying9 z_65 rfl rfl hr hS.2.2.2).val (show _ = vv (vGet u.key kv) by unfold vGet; cases kvGet u.key kv <;> rfl)) (zD (i := 7) 255 rfl rfl (by kernel_rfl) ⟨hS.cell rfl, hS.cell rfl, hS.cells rfl, hS.has⟩ (fun w hS => (y_loadS st_59 sz_59 rfl hS.2.2.1 rfl).val (show _ = uv u from rfl)) (dr_do2 (i := 8) (j := 9) (lb 11 511) (lb 11 767) rfl rfl (by kernel_rfl) ?_ ?_))))))))))
    · skip
      refine wl_call (.cons rfl (.cons rfl .nil)) (apply_c (vGet u.key kv) u (by omega) (by omega) hS) rfl ?_
      rintro _ w ⟨rfl, hS⟩
      refine zE ⟨fun h => absurd (by decide) h, zU (i := 9) 1023 rfl (by kernel_rfl) (a_alloc z_65 hS rfl fun b6 w hS => zE ⟨fun _ _ => ⟨hS.cell rfl, hS.cell rfl, hS.cells rfl, hS.has⟩, zU (i := 10) 2047 rfl (by kernel_rfl) (a_storeS (vs := [_, _, _]) sz_65 rfl rfl rfl rfl hS (Nat.le_of_ble_eq_true rfl) fun w hS => zE ⟨fun h => absurd (by decide) h, zH (by kernel_rfl) (zQ (zQ (zR (zF fl_65_0 rfl rfl (wl (y_load pl_3 rfl (hS.cell rfl)) rfl (wl (y_eql rfl rfl) rfl (zE (wc_if rfl (fun hc23 => ?_) (fun hc23 => ?_)))))))))⟩)⟩)⟩
      · try simp only [zZ] at hc23
        have hq : sdo kv u = kvDel u.key kv := by unfold sdo; rw [if_neg (by omega), if_pos (by omega)]
        rw [hq]
        refine zW hS (fun w => w.cell? ⟨p, 0, none⟩ = some (.map (some mp)) ∧ w.cell? ⟨b3, 0, none⟩ = some (.string u.key)) [6] wide_ rfl rfl fun w hS => zP (i := 0) 1 rfl rfl (by kernel_rfl) (fun _ => y_move rfl) (zP (i := 1) 3 rfl rfl (by kernel_rfl) (fun w => y_nil rfl) (zP (i := 2) 7 rfl rfl (by kernel_rfl) (fun w => y_fld fl_258_0 rfl) (zP (i := 4) 23 rfl rfl (by kernel_rfl) (fun w => y_fld fl_59_0 rfl) (zD (i := 3) 31 rfl rfl (by kernel_rfl) ⟨hS.cell rfl, hS.cell rfl⟩ (fun w hS => y_load pl_256 rfl hS.1) (zD (i := 5) 63 rfl rfl (by kernel_rfl) ⟨hS.cell rfl, hS.cell rfl⟩ (fun w hS => y_load pl_9 rfl hS.2) (zU (i := 6) 127 rfl (by kernel_rfl) (a_mdel Tryz.underlying256 Tryz.underlying9 rfl rfl hm0 hS fun H2 w hm2 hS => zE ⟨fun h => absurd (by decide) h, zH (by kernel_rfl) (zQ (zR (zA rfl rfl (zE (wc_ret (wret (vs := [_]) (.tmp rfl .nil) ?_))))))⟩)))))))
        first
        | exact ⟨_, rfl, ⟨mp, H2, hm2, rfl⟩, hS.keep⟩
        | exact ⟨_, rfl, hb0, hS.keep⟩
      · try simp only [zZ] at hc23
        have hq : sdo kv u = kvSet u.key (apply (vGet u.key kv) u) kv := by unfold sdo; rw [if_neg (by omega), if_neg (by omega)]
        rw [hq]
        refine zW hS (fun w => w.cell? ⟨p, 0, none⟩ = some (.map (some mp)) ∧ w.cell? ⟨b3, 0, none⟩ = some (.string u.key) ∧ CellsAt w b6 0 [.int .i64 (apply (vGet u.key kv) u).kind, .int .i64 (apply (vGet u.key kv) u).n, .string (apply (vGet u.key kv) u).s]) [7] wide_ rfl rfl fun w hS => zP (i := 0) 1 rfl rfl (by kernel_rfl) (fun _ => y_move rfl) (zP (i := 1) 3 rfl rfl (by kernel_rfl) (fun w => y_nil rfl) (zP (i := 2) 7 rfl rfl (by kernel_rfl) (fun w => y_fld fl_258_0 rfl) (zP (i := 4) 23 rfl rfl (by kernel_rfl) (fun w => y_fld fl_59_0 rfl) (zD (i := 3) 31 rfl rfl (by kernel_rfl) ⟨hS.cell rfl, hS.cell rfl, hS.cells rfl⟩ (fun w hS => y_load pl_256 rfl hS.1) (zD (i := 5) 63 rfl rfl (by kernel_rfl) ⟨hS.cell rfl, hS.cell rfl, hS.cells rfl⟩ (fun w hS => y_load pl_9 rfl hS.2.1) (zD (i := 6) 127 rfl rfl (by kernel_rfl) ⟨hS.cell rfl, hS.cell rfl, hS.cells rfl⟩ (fun w hS => (y_loadS st_65 sz_65 rfl hS.2.2 rfl).val (show _ = vv (apply (vGet u.key kv) u) from rfl)) (zU (i := 7) 255 rfl (by kernel_rfl) (a_mset Tryz.underlying256 Tryz.underlying9 rfl rfl rfl hm0 hS fun H2 w hm2 hS => zE ⟨fun h => absurd (by decide) h, zH (by kernel_rfl) (zQ (zR (zA rfl rfl (zE (wc_ret (wret (vs := [_]) (.tmp rfl .nil) ?_))))))⟩))))))))
        first
        | exact ⟨_, rfl, ⟨mp, H2, hm2, rfl⟩, hS.keep⟩
        | exact ⟨_, rfl, hb0, hS.keep⟩
    · skip
      refine a_alloc z_65 hS rfl fun b6 w hS => zE ⟨fun _ _ => ⟨hS.cell rfl, hS.cell rfl, hS.cells rfl, hS.has⟩, zU (i := 8) 1023 rfl (by kernel_rfl) (wl_call (.cons rfl (.cons rfl .nil)) (apply_c (vGet u.key kv) u (by omega) (by omega) hS) rfl ?_)⟩
      rintro _ w ⟨rfl, hS⟩
      refine zE ⟨fun h => absurd (by decide) h, zU (i := 10) 2047 rfl (by kernel_rfl) (a_storeS (vs := [_, _, _]) sz_65 rfl rfl rfl rfl hS (Nat.le_of_ble_eq_true rfl) fun w hS => zE ⟨fun h => absurd (by decide) h, zH (by kernel_rfl) (zQ (zQ (zR (zF fl_65_0 rfl rfl (wl (y_load pl_3 rfl (hS.cell rfl)) rfl (wl (y_eql rfl rfl) rfl (zE (wc_if rfl (fun hc23 => ?_) (fun hc23 => ?_)))))))))⟩)⟩
      · try simp only [zZ] at hc23
        have hq : sdo kv u = kvDel u.key kv := by unfold sdo; rw [if_neg (by omega), if_pos (by omega)]
        rw [hq]
        refine zW hS (fun w => w.cell? ⟨p, 0, none⟩ = some (.map (some mp)) ∧ w.cell? ⟨b3, 0, none⟩ = some (.string u.key)) [6] wide_ rfl rfl fun w hS => zP (i := 0) 1 rfl rfl (by kernel_rfl) (fun _ => y_move rfl) (zP (i := 1) 3 rfl rfl (by kernel_rfl) (fun w => y_nil rfl) (zP (i := 2) 7 rfl rfl (by kernel_rfl) (fun w => y_fld fl_258_0 rfl) (zP (i := 4) 23 rfl rfl (by kernel_rfl) (fun w => y_fld fl_59_0 rfl) (zD (i := 3) 31 rfl rfl (by kernel_rfl) ⟨hS.cell rfl, hS.cell rfl⟩ (fun w hS => y_load pl_256 rfl hS.1) (zD (i := 5) 63 rfl rfl (by kernel_rfl) ⟨hS.cell rfl, hS.cell rfl⟩ (fun w hS => y_load pl_9 rfl hS.2) (zU (i := 6) 127 rfl (by kernel_rfl) (a_mdel Tryz.underlying256 Tryz.underlying9 rfl rfl hm0 hS fun H2 w hm2 hS => zE ⟨fun h => absurd (by decide) h, zH (by kernel_rfl) (zQ (zR (zA rfl rfl (zE (wc_ret (wret (vs := [_]) (.tmp rfl .nil) ?_))))))⟩)))))))
        first
        | exact ⟨_, rfl, ⟨mp, H2, hm2, rfl⟩, hS.keep⟩
        | exact ⟨_, rfl, hb0, hS.keep⟩
      · try simp only [zZ] at hc23
        have hq : sdo kv u = kvSet u.key (apply (vGet u.key kv) u) kv := by unfold sdo; rw [if_neg (by omega), if_neg (by omega)]
        rw [hq]
        refine zW hS (fun w => w.cell? ⟨p, 0, none⟩ = some (.map (some mp)) ∧ w.cell? ⟨b3, 0, none⟩ = some (.string u.key) ∧ CellsAt w b6 0 [.int .i64 (apply (vGet u.key kv) u).kind, .int .i64 (apply (vGet u.key kv) u).n, .string (apply (vGet u.key kv) u).s]) [7] wide_ rfl rfl fun w hS => zP (i := 0) 1 rfl rfl (by kernel_rfl) (fun _ => y_move rfl) (zP (i := 1) 3 rfl rfl (by kernel_rfl) (fun w => y_nil rfl) (zP (i := 2) 7 rfl rfl (by kernel_rfl) (fun w => y_fld fl_258_0 rfl) (zP (i := 4) 23 rfl rfl (by kernel_rfl) (fun w => y_fld fl_59_0 rfl) (zD (i := 3) 31 rfl rfl (by kernel_rfl) ⟨hS.cell rfl, hS.cell rfl, hS.cells rfl⟩ (fun w hS => y_load pl_256 rfl hS.1) (zD (i := 5) 63 rfl rfl (by kernel_rfl) ⟨hS.cell rfl, hS.cell rfl, hS.cells rfl⟩ (fun w hS => y_load pl_9 rfl hS.2.1) (zD (i := 6) 127 rfl rfl (by kernel_rfl) ⟨hS.cell rfl, hS.cell rfl, hS.cells rfl⟩ (fun w hS => (y_loadS st_65 sz_65 rfl hS.2.2 rfl).val (show _ = vv (apply (vGet u.key kv) u) from rfl)) (zU (i := 7) 255 rfl (by kernel_rfl) (a_mset Tryz.underlying256 Tryz.underlying9 rfl rfl rfl hm0 hS fun H2 w hm2 hS => zE ⟨fun h => absurd (by decide) h, zH (by kernel_rfl) (zQ (zR (zA rfl rfl (zE (wc_ret (wret (vs := [_]) (.tmp rfl .nil) ?_))))))⟩))))))))
        first
        | exact ⟨_, rfl, ⟨mp, H2, hm2, rfl⟩, hS.keep⟩
        | exact ⟨_, rfl, hb0, hS.keep⟩
end
end Go.Proofs.YtndahppmjdbifaaGreatDoor.Sto
set_option linter.unusedVariables false
set_option linter.unusedSimpArgs false
namespace Go.Proofs.YtndahppmjdbifaaGreatDoor.Sto
open Go Go.Proofs Go.Proofs.YtndahppmjdbifaaGreatDoor.Eng Go.Proofs.YtndahppmjdbifaaGreatDoor.Pre Go.Proofs.YtndahppmjdbifaaGreatDoor.Val Go.Proofs.YtndahppmjdbifaaGreatDoor.Rou Go.Proofs.YtndahppmjdbifaaGreatDoor.Jnl Go.Proofs.YtndahppmjdbifaaGreatDoor.Cli Go.Proofs.YtndahppmjdbifaaGreatDoor.Nod
@[irreducible] def state (rs : List Rnd) (opn : List Upd) : KV := sdoL [] (rs.flatMap (·.ups) ++ opn)
theorem kvOk_nil : kvOk [] := fun p hp => absurd hp (by simp)
def _root_.Go.Proofs.YtndahppmjdbifaaGreatDoor.Cli.Cli.read (m : Cli) (k : ByteArray) : Valu := vGet k (state (m.known ++ m.pending) m.opn)
def _root_.Go.Proofs.YtndahppmjdbifaaGreatDoor.Cli.Cli.len (m : Cli) : Nat := (state (m.known ++ m.pending) m.opn).length
section
variable {M : Mem} {w : World} {Ls : List Chunk}
theorem rstate_c (opn : List Upd) (so : Value) (ho : Rd M encU so opn) (hol : opn.length ≤ 137438953472) {xs : List RV} {rs : List Rnd} (s : Value) {Hx : Chunk} (hxl : rs.length ≤ 137438953472) (hx : Own 48 encRV s xs Hx) (hr : Rvs M xs rs) (hS : St M w (Hx :: Ls)) :
    CallsR Tryz.prog 177 [so, s].toArray w fun v w' => ∃ p H, v = .pointer (some ⟨p, 0, none⟩) ∧ IsSt p (state rs opn) H ∧ St M w' (H :: Hx :: Ls) := by
  have hlen := hr.len
  obtain ⟨oa, oc, rfl⟩ := (ho.holds hS).slice
  obtain ⟨sa, sc, rfl⟩ := hx.slice
  refine calls_of (c := _) (rs := _) (n := 42) Tryz.func177 rfl rfl rfl rfl rfl (zQ (zR (zA rfl rfl (zE (zQ (zR (wl_call .nil (snew_c hS) rfl ?_)))))))
  rintro _ w ⟨p, H, rfl, hst, hS⟩
  refine zA rfl rfl (zE (zQ (zQ (zR (zM rfl rfl (wl (y_len_sl Tryz.underlying32 rfl) rfl (zM rfl rfl (zE (zB (wc_loop (α := Nat × Chunk) (fun ⟨i, _⟩ => [(0, .slice oa opn.length oc), (5, .pointer (some ⟨p, 0, none⟩)), (13, .slice sa xs.length sc), (14, .int .i64 xs.length), (15, .int .i64 i)]) (fun ⟨i, H1⟩ w => i ≤ xs.length ∧ IsSt p (sdoL [] ((rs.take i).flatMap (·.ups))) H1 ∧ St M w (H1 :: Hx :: Ls)) (fun ⟨i, _⟩ => xs.length - i) (0, H) (sub_cons rfl (sub_cons rfl (sub_cons rfl (sub_cons rfl (sub_cons rfl sub_nil))))) ⟨by omega, hst, hS⟩ ?_))))))))))
  clear hS hst
  rintro ⟨i, H1⟩ w ⟨hi, hst, hS⟩
  refine zQ (zR (wl (y_lss rfl rfl) rfl (zE (zQ (wc_if rfl (fun hc16 => ?_) (fun hc16 => ?_))))))
  · try simp only [zZ] at hc16
    refine zK (zQ (zB (zQ ?_)))
    have hi' : i < xs.length := by omega
    obtain ⟨r, hri⟩ : ∃ r, rs[i]? = some r := ⟨_, List.getElem?_eq_getElem (by omega)⟩
    obtain ⟨x, hx', hxr⟩ := hr.at hri
    have htk : (rs.take (i + 1)).flatMap (·.ups) = (rs.take i).flatMap (·.ups) ++ r.ups := by rw [List.take_add_one, hri]; simp
    obtain ⟨bb, off, c', hse, hce⟩ := (hx.holds (hS.pull Hx)).at hx'
    simp only [Value.slice.injEq] at hse
    have hSk := hS
    obtain ⟨rfl, _, rfl⟩ := hse
    replace hS := hSk
    have hxu := hxr.2.2.1
    have hxl2 := hxr.2.2.2
    obtain ⟨ua, uc, hue⟩ := (hxu.holds hS).slice
    rw [hue] at hxu
    refine zR (wl (y_ixa_sl Tryz.underlying32 sz_48 rfl rfl (by omega) (by omega)) rfl (wl ((y_loadS st_48 sz_48 rfl (vs := encRV.f x) hce rfl).val (show _ = rvS r (.slice ua r.ups.length uc) by rw [hxr.val, hue])) rfl (a_alloc z_48 hS rfl fun b7 w hS => a_storeS (vs := [_, _, _]) sz_48 rfl rfl rfl rfl hS (Nat.le_of_ble_eq_true rfl) fun w hS => zE (zQ (zR (zF fl_48_2 rfl rfl (wl (y_load pl_46 rfl (hS.cell (v := .slice ua r.ups.length uc) rfl)) rfl (wl (y_len_sl Tryz.underlying46 rfl) rfl (zM rfl rfl (zE (zB (wc_loop (α := Nat × Chunk) (fun ⟨j, _⟩ => [(0, .slice oa opn.length oc), (5, .pointer (some ⟨p, 0, none⟩)), (13, .slice (some ⟨bb, off, none⟩) xs.length sc), (14, .int .i64 xs.length), (15, .int .i64 i), (20, .slice ua r.ups.length uc), (21, .int .i64 r.ups.length), (22, .int .i64 j)]) (fun ⟨j, H2⟩ w => j ≤ r.ups.length ∧ IsSt p (sdoL [] ((rs.take i).flatMap (·.ups) ++ r.ups.take j)) H2 ∧ St M w (H2 :: Hx :: Ls)) (fun ⟨j, _⟩ => r.ups.length - j) (0, H1) (sub_cons rfl (sub_cons rfl (sub_cons rfl (sub_cons rfl (sub_cons rfl (sub_cons rfl (sub_cons rfl (sub_cons rfl sub_nil)))))))) ⟨by omega, by simpa using hst, hS.keep⟩ ?_))))))))))))
    clear hS hst
    rintro ⟨j, H2⟩ w ⟨hj, hst, hS⟩
    refine zQ (zR (wl (y_lss rfl rfl) rfl (zE (zQ (wc_if rfl (fun hc23 => ?_) (fun hc23 => ?_))))))
    · try simp only [zZ] at hc23
      refine zK (zQ (zB (zQ ?_)))
      have hj' : j < r.ups.length := by omega
      obtain ⟨u, hu⟩ : ∃ u, r.ups[j]? = some u := ⟨_, List.getElem?_eq_getElem hj'⟩
      have htj : (rs.take i).flatMap (·.ups) ++ r.ups.take (j + 1) = ((rs.take i).flatMap (·.ups) ++ r.ups.take j) ++ [u] := by rw [List.take_add_one, hu, List.append_assoc]; rfl
      obtain ⟨bb2, off2, c2, hse, hce⟩ := (hxu.holds hS).at hu
      simp only [Value.slice.injEq] at hse
      have hSk := hS
      obtain ⟨rfl, _, rfl⟩ := hse
      replace hS := hSk
      refine zR (wl (y_ixa_sl Tryz.underlying46 sz_59 rfl rfl (by omega) (by omega)) rfl (wl ((y_loadS st_59 sz_59 rfl (vs := encU.f u) hce rfl).val (show _ = uv u from rfl)) rfl (a_alloc z_59 hS rfl fun b9 w hS => a_storeS (vs := [_, _, _, _]) sz_59 rfl rfl rfl rfl hS (Nat.le_of_ble_eq_true rfl) fun w hS => zE (zR (zM rfl rfl (wl ((y_loadS st_59 sz_59 rfl (vs := encU.f u) (hS.cells rfl) rfl).val (show _ = uv u from rfl)) rfl (wl_call (.cons rfl (.cons rfl .nil)) (sdo_c u (sdoL_ok kvOk_nil _) hst (hS.pull H2)) rfl ?_)))))))
      rintro _ w ⟨H3, rfl, hst2, hS⟩
      refine zE (zR (wl (y_add rfl rfl (w64 (by omega) (by omega))) rfl (zM rfl rfl (zE ?_))))
      exact ⟨(j + 1, H3), by simp only; omega, sub_cons rfl (sub_cons rfl (sub_cons rfl (sub_cons rfl (sub_cons rfl (sub_cons rfl (sub_cons rfl (sub_cons rfl sub_nil))))))), by omega, by rw [htj, sdoL_app]; exact hst2, hS.keep⟩
    · try simp only [zZ] at hc23
      obtain rfl : j = r.ups.length := by omega
      rw [List.take_length, ← htk] at hst
      refine wc_exit (zR (wl (y_add rfl rfl (w64 (by omega) (by omega))) rfl (zM rfl rfl (zE ?_))))
      exact ⟨(i + 1, H2), by simp only; omega, sub_cons rfl (sub_cons rfl (sub_cons rfl (sub_cons rfl (sub_cons rfl sub_nil)))), by omega, hst, hS⟩
  · try simp only [zZ] at hc16
    obtain rfl : i = xs.length := by omega
    rw [hlen, List.take_length] at hst
    refine wc_exit (zQ (zQ (zR (zM rfl rfl (wl (y_len_sl Tryz.underlying46 rfl) rfl (zM rfl rfl (zE (zB (wc_loop (α := Nat × Chunk) (fun ⟨j, _⟩ => [(5, .pointer (some ⟨p, 0, none⟩)), (31, .slice oa opn.length oc), (32, .int .i64 opn.length), (33, .int .i64 j)]) (fun ⟨j, H2⟩ w => j ≤ opn.length ∧ IsSt p (sdoL [] (rs.flatMap (·.ups) ++ opn.take j)) H2 ∧ St M w (H2 :: Hx :: Ls)) (fun ⟨j, _⟩ => opn.length - j) (0, H1) (sub_cons rfl (sub_cons rfl (sub_cons rfl (sub_cons rfl sub_nil)))) ⟨by omega, by simpa using hst, hS.keep⟩ ?_)))))))))
    clear hS hst
    rintro ⟨j, H2⟩ w ⟨hj, hst, hS⟩
    refine zQ (zR (wl (y_lss rfl rfl) rfl (zE (zQ (wc_if rfl (fun hc34 => ?_) (fun hc34 => ?_))))))
    · try simp only [zZ] at hc34
      refine zK (zQ (zB (zQ ?_)))
      have hj' : j < opn.length := by omega
      obtain ⟨u, hu⟩ : ∃ u, opn[j]? = some u := ⟨_, List.getElem?_eq_getElem hj'⟩
      have htj : rs.flatMap (·.ups) ++ opn.take (j + 1) = (rs.flatMap (·.ups) ++ opn.take j) ++ [u] := by rw [List.take_add_one, hu, List.append_assoc]; rfl
      obtain ⟨bb2, off2, c2, hse, hce⟩ := (ho.holds hS).at hu
      simp only [Value.slice.injEq] at hse
      have hSk := hS
      obtain ⟨rfl, _, rfl⟩ := hse
      replace hS := hSk
      refine zR (wl (y_ixa_sl Tryz.underlying46 sz_59 rfl rfl (by omega) (by omega)) rfl (wl ((y_loadS st_59 sz_59 rfl (vs := encU.f u) hce rfl).val (show _ = uv u from rfl)) rfl (a_alloc z_59 hS rfl fun b11 w hS => a_storeS (vs := [_, _, _, _]) sz_59 rfl rfl rfl rfl hS (Nat.le_of_ble_eq_true rfl) fun w hS => zE (zR (zM rfl rfl (wl ((y_loadS st_59 sz_59 rfl (vs := encU.f u) (hS.cells rfl) rfl).val (show _ = uv u from rfl)) rfl (wl_call (.cons rfl (.cons rfl .nil)) (sdo_c u (sdoL_ok kvOk_nil _) hst (hS.pull H2)) rfl ?_)))))))
      rintro _ w ⟨H3, rfl, hst2, hS⟩
      refine zE (zR (wl (y_add rfl rfl (w64 (by omega) (by omega))) rfl (zM rfl rfl (zE ?_))))
      exact ⟨(j + 1, H3), by simp only; omega, sub_cons rfl (sub_cons rfl (sub_cons rfl (sub_cons rfl sub_nil))), by omega, by rw [htj, sdoL_app]; exact hst2, hS.keep⟩
    · try simp only [zZ] at hc34
      obtain rfl : j = opn.length := by omega
      rw [List.take_length] at hst
      refine wc_exit (zQ (zR (zM rfl rfl (zA rfl rfl (zE (wc_ret (wret (vs := [_]) (.tmp rfl .nil) ?_)))))))
      exact ⟨p, H2, rfl, by unfold state; exact hst, hS⟩
theorem rread_c (k : ByteArray) (opn : List Upd) (so : Value) (ho : Rd M encU so opn) (hol : opn.length ≤ 137438953472) {xs : List RV} {rs : List Rnd} (s : Value) {Hx : Chunk} (hxl : rs.length ≤ 137438953472) (hx : Own 48 encRV s xs Hx) (hr : Rvs M xs rs) (hS : St M w (Hx :: Ls)) :
    CallsR Tryz.prog 143 [.string k, so, s].toArray w fun v w' => v = vv (vGet k (state rs opn)) ∧ St M w' (Hx :: Ls) := by
  obtain ⟨oa, oc, rfl⟩ := (ho.holds hS).slice
  obtain ⟨sa, sc, rfl⟩ := hx.slice
  refine calls_of (c := _) (rs := _) (n := 12) Tryz.func143 rfl rfl rfl rfl rfl (zQ (zR (a_alloc z_65 hS rfl fun b6 w hS => zE (zQ (zR (zM rfl rfl (zM rfl rfl (wl_call (.cons rfl (.cons rfl .nil)) (rstate_c opn _ ho hol _ hxl hx hr (hS.pull Hx)) rfl ?_))))))))
  rintro _ w ⟨p, H, rfl, hst, hS⟩
  refine zM rfl rfl (wl_call (.cons rfl (.cons rfl .nil)) (sget_c k hst hS) rfl ?_)
  rintro _ w ⟨rfl, hS⟩
  refine a_storeS (vs := [_, _, _]) sz_65 rfl rfl rfl rfl hS (Nat.le_of_ble_eq_true rfl) fun w hS => zE (wc_ret (wret (vs := [_]) (.cell rfl (loadVar_struct st_65 sz_65 (vs := [_, _, _]) rfl (hS.cells rfl)) .nil) ?_))
  exact ⟨rfl, hS.keep⟩
theorem cread_c (k : ByteArray) {p jp : Nat} {m : Cli} {H : Chunk} (hl : m.known.length + m.pending.length ≤ 13743895347) (hol : m.opn.length ≤ 137438953472) (hb : IsC M p jp m H) (hS : St M w (H :: Ls)) :
    CallsR Tryz.prog 83 [.pointer (some ⟨p, 0, none⟩), .string k].toArray w fun v w' => v = vv (m.read k) ∧ St M w' (H :: Ls) := by
  have hb0 := hb
  obtain ⟨xs, sk, Hk, ys, sp, Hp, so, h1, h2, h3, h4, h5, rfl⟩ := hb
  obtain ⟨oa, oc, rfl⟩ := (h5.holds hS).slice
  have e2 := h2.len
  have e4 := h4.len
  refine calls_of (c := _) (rs := _) (n := 13) Tryz.func83 rfl rfl rfl rfl rfl (zQ (zR (a_alloc z_65 hS rfl fun b4 w hS => zE (zQ (zW hS (fun w => w.cell? ⟨p, 6, none⟩ = some (.slice oa m.opn.length oc)) [7, 8] wide_ rfl rfl fun w hS => zP (i := 0) 1 rfl rfl (by kernel_rfl) (fun _ => y_move rfl) (zP (i := 1) 3 rfl rfl (by kernel_rfl) (fun _ => y_move rfl) (zP (i := 2) 7 rfl rfl (by kernel_rfl) (fun w => y_nil rfl) (zP (i := 3) 15 rfl rfl (by kernel_rfl) (fun w => y_fld fl_168_6 rfl) (zP (i := 5) 47 rfl rfl (by kernel_rfl) (fun _ => y_move rfl) (zD (i := 4) 63 rfl rfl (by kernel_rfl) (hS.cell rfl) (fun w hS => y_load pl_46 rfl hS) (zU (i := 6) 127 rfl (by kernel_rfl) (wl_call (.cons rfl .nil) (cseen_c (by omega) hb0 (hS.pull _)) rfl ?_))))))))))))
  rintro v w ⟨zs, Hz, ho, hr, hS⟩
  obtain ⟨za, zc, rfl⟩ := ho.slice
  refine zE ⟨fun _ _ => hS.cell rfl, zU (i := 7) 255 rfl (by kernel_rfl) (wl_call (.cons rfl (.cons rfl (.cons rfl .nil))) (rread_c k m.opn _ h5 hol _ (by rw [List.length_append]; omega) ho hr (hS.pull Hz)) rfl ?_)⟩
  rintro _ w ⟨rfl, hS⟩
  refine zE ⟨fun h => absurd (by decide) h, zU (i := 8) 511 rfl (by kernel_rfl) (a_storeS (vs := [_, _, _]) sz_65 rfl rfl rfl rfl hS (Nat.le_of_ble_eq_true rfl) fun w hS => zE ⟨fun h => absurd (by decide) h, zH (by kernel_rfl) (wc_ret (wret (vs := [_]) (.cell rfl (loadVar_struct st_65 sz_65 (vs := [_, _, _]) rfl (hS.cells rfl)) .nil) ?_))⟩)⟩
  exact ⟨rfl, hS.keep⟩
theorem nread_c (k : ByteArray) {p : Nat} {m : Nod} {H : Chunk} (hs : m.small) (hb : IsN M p m H) (hS : St M w (H :: Ls)) :
    CallsR Tryz.prog 27 [.pointer (some ⟨p, 0, none⟩), .string k].toArray w fun v w' => v = vv (m.own.read k) ∧ St M w' (H :: Ls) := by
  obtain ⟨s1, s2, s3, s4⟩ := hs
  obtain ⟨jp, kp, cp, Hj, Hk, Hc, h1, h2, h3, rfl⟩ := hb
  replace hS := hS.un3
  refine calls_of (c := _) (rs := _) (n := 11) Tryz.func27 rfl rfl rfl rfl rfl (zQ (zR (a_alloc z_65 hS rfl fun b4 w hS => zE (zQ (zR (zM rfl rfl (zN rfl rfl (zF fl_97_4 rfl rfl (wl (y_load pl_95 rfl (hS.cell (v := .pointer (some ⟨cp, 0, none⟩)) rfl)) rfl (zM rfl rfl (wl_call (.cons rfl (.cons rfl .nil)) (cread_c k (by omega) (by omega) h3 (hS.pull Hc)) rfl ?_)))))))))))
  rintro _ w ⟨rfl, hS⟩
  refine a_storeS (vs := [_, _, _]) sz_65 rfl rfl rfl rfl hS (Nat.le_of_ble_eq_true rfl) fun w hS => zE (wc_ret (wret (vs := [_]) (.cell rfl (loadVar_struct st_65 sz_65 (vs := [_, _, _]) rfl (hS.cells rfl)) .nil) ?_))
  exact ⟨rfl, hS.keep⟩
end
end Go.Proofs.YtndahppmjdbifaaGreatDoor.Sto
set_option linter.unusedVariables false
set_option linter.unusedSimpArgs false
namespace Go.Proofs.YtndahppmjdbifaaGreatDoor.Nod
open Go Go.Proofs Go.Proofs.YtndahppmjdbifaaGreatDoor.Eng Go.Proofs.YtndahppmjdbifaaGreatDoor.Pre Go.Proofs.YtndahppmjdbifaaGreatDoor.Pak Go.Proofs.YtndahppmjdbifaaGreatDoor.Val Go.Proofs.YtndahppmjdbifaaGreatDoor.Rou Go.Proofs.YtndahppmjdbifaaGreatDoor.Fra Go.Proofs.YtndahppmjdbifaaGreatDoor.Snd Go.Proofs.YtndahppmjdbifaaGreatDoor.Lnk Go.Proofs.YtndahppmjdbifaaGreatDoor.Jnl Go.Proofs.YtndahppmjdbifaaGreatDoor.Cli Go.Proofs.YtndahppmjdbifaaGreatDoor.Sto Go.Proofs.YtndahppmjdbifaaGreatDoor.Crc
structure Act where
  kind : Int
  u : Upd
  bytes : ByteArray
def encA : Enc Act := ⟨6, fun a => [.int .i64 a.kind, .string a.u.key, .int .i64 a.u.kind, .int .i64 a.u.n, .string a.u.s, .string a.bytes], fun _ => rfl, by simp [oneC]⟩
def Nod.act (m : Nod) (a : Act) : Nod :=
  if a.kind = 1 then m.upd a.u else if a.kind = 2 then m.push else if a.kind = 3 then m.pull else if a.kind = 4 then m.reset else if a.kind = 5 then m.hear a.bytes else if a.kind = 6 then m.tick else m
def Nod.acts (m : Nod) (l : List Act) : Nod := l.foldl Nod.act m
structure Nod.inv (t : Nat) (m : Nod) : Prop where
  c : mayC m.c = 0
  k : m.k.ok
  rd : ∀ d ∈ m.k.r.all, d.size ≤ 1400
  sd : ∀ d ∈ m.k.s.all, d.size ≤ 1400
  mtu : m.own.mtu = m.c.mtu
  opn : m.own.opn.length ≤ 8
  j : m.j.l.length ≤ t
  pend : m.own.pending.length ≤ t
  known : m.own.known.length ≤ 16 * t
theorem mayC_ok {c : Cfg} (h : mayC c = 0) : 1 ≤ c.clients ∧ c.clients ≤ 64 ∧ 1 ≤ c.window ∧ c.window ≤ 16 ∧ 1 ≤ c.push ∧ c.push ≤ 16 ∧ 1 ≤ c.pull ∧ c.pull ≤ 16 ∧ 64 ≤ c.mtu ∧ c.mtu ≤ 1400 ∧ 1 ≤ c.last ∧ c.last ≤ 1099511627776 := by
  unfold mayC at h
  split at h
  · assumption
  · cases h
theorem fits_ok {l : List Upd} {mtu : Int} (h : fits l mtu = true) : mayR ⟨64, 1099511627776, l⟩ = 0 ∧ (64 ≤ mtu ∧ mtu ≤ 1400) ∧ ((rbytes ⟨64, 1099511627776, l⟩).length : Int) ≤ mtu - 40 := by
  unfold fits at h
  exact of_decide_eq_true h
theorem fits_length {l : List Upd} {mtu : Int} (h : fits l mtu = true) : l.length ≤ 8 := by
  have h1 := (fits_ok h).1
  have h2 := mayR_ok h1
  exact h2.2.2.2.2.2.1
theorem putB_size (r : Rnd) : (putB r).size ≤ 1400 := by
  unfold putB
  split
  · rename_i h
    have := rbytes_length h
    show (rbytes r).toArray.size ≤ 1400
    rw [List.size_toArray]
    omega
  · exact Nat.zero_le _
theorem behind_length (n : Int) (l : List Rnd) : (behind n l).length ≤ l.length := List.length_filter_le _ _
theorem fget_data (b : ByteArray) (hb : b.size ≤ 140737488351232) : (fget b).data.size ≤ 1400 ∧ (fget b).seq ≤ 1125899906842624 := by
  unfold fget
  split
  · simp [frm0]
  · rename_i s hs
    have hz := open_size hs
    obtain ⟨h1, h1', h2, h3, h4, h5⟩ := fg_ok s (by omega)
    unfold fgf
    split
    · simp only
      refine ⟨?_, ?_⟩
      · unfold fg4; exact (rtext_ok h3 1400).2.1
      · have := (rnum_ok h1' 1125899906842624).2.1
        unfold fg2; omega
    · simp [frm0]
theorem Lnk.hear_ok {m : Lnk} {f : Frm} (h : m.ok) (hs : f.seq ≤ 1125899906842624) : (m.hear f).ok := by
  have h2 : ∀ {m : Lnk}, m.ok → (m.hear2 f).ok := by
    intro m h
    refine ⟨h.1, Snd.ack_ok h.2.1 _, ?_⟩
    unfold Lnk.hear2; simp only
    split
    · exact h.2.2
    · exact Rcv.hear_ok h.2.2 _ hs _
  unfold Lnk.hear
  split
  · exact h
  · split
    · split
      · exact h2 (Lnk.fresh_ok _ _)
      · exact h
    · exact h2 h
theorem Lnk.hear_r {m : Lnk} {f : Frm} (h : ∀ d ∈ m.r.all, d.size ≤ 1400) (hd : f.data.size ≤ 1400) : ∀ d ∈ (m.hear f).r.all, d.size ≤ 1400 := by
  have h2 : ∀ {m : Lnk}, (∀ d ∈ m.r.all, d.size ≤ 1400) → ∀ d ∈ (m.hear2 f).r.all, d.size ≤ 1400 := by
    intro m h
    unfold Lnk.hear2; simp only
    split
    · exact h
    · unfold Rcv.hear
      split
      · intro d hx
        simp only [List.mem_append, List.mem_singleton] at hx
        rcases hx with hx | rfl
        · exact h d hx
        · exact hd
      · exact h
  unfold Lnk.hear
  split
  · exact h
  · split
    · split
      · exact h2 (by unfold Lnk.fresh Rcv.new; simp)
      · exact h
    · exact h2 h
theorem Snd.ack_all (m : Snd) (n : Int) : (m.ack n).all = m.all := by unfold Snd.ack; split <;> rfl
theorem Lnk.hear_s {m : Lnk} {f : Frm} {P : ByteArray → Prop} (h : ∀ d ∈ m.s.all, P d) : ∀ d ∈ (m.hear f).s.all, P d := by
  unfold Lnk.hear
  split
  · exact h
  · split
    · split
      · unfold Lnk.hear2 Lnk.fresh Snd.new; simp [Snd.ack_all]
      · exact h
    · unfold Lnk.hear2; simp only [Snd.ack_all]; exact h
theorem offl_r (l : List Rnd) (k : Lnk) (n : Nat) : (offl l k n).1.r = k.r ∧ (offl l k n).1.ep = k.ep ∧ (offl l k n).1.win = k.win ∧ (offl l k n).1.room = k.room ∧ (offl l k n).1.pas = k.pas := by
  induction l generalizing k n with
  | nil => exact ⟨rfl, rfl, rfl, rfl, rfl⟩
  | cons r l ih =>
    simp only [offl]
    split
    · exact ih _ _
    · exact ⟨rfl, rfl, rfl, rfl, rfl⟩
theorem offl_s {l : List Rnd} {k : Lnk} {n : Nat} {P : ByteArray → Prop} (h : ∀ d ∈ k.s.all, P d) (hl : ∀ r ∈ l, P (putB r)) : ∀ d ∈ (offl l k n).1.s.all, P d := by
  induction l generalizing k n with
  | nil => exact h
  | cons r l ih =>
    simp only [offl]
    split
    · rename_i he
      refine ih ?_ fun x hx => hl x (List.mem_cons_of_mem _ hx)
      intro d hd
      unfold Lnk.offer Snd.offer at hd
      rw [if_pos he] at hd
      simp only [List.mem_append, List.mem_singleton] at hd
      rcases hd with hd | rfl
      · exact h d hd
      · exact hl r List.mem_cons_self
    · exact h
theorem Cli.take_same (m : Cli) (r : Rnd) : (m.take r).mtu = m.mtu ∧ (m.take r).origin = m.origin ∧ (m.take r).push = m.push ∧ (m.take r).opn = m.opn ∧ (m.take r).pending.length ≤ m.pending.length := by
  unfold Cli.take
  split
  · refine ⟨rfl, rfl, rfl, rfl, ?_⟩
    simp only
    split
    · rw [List.length_tail]; omega
    · exact Nat.le_refl _
  · exact ⟨rfl, rfl, rfl, rfl, Nat.le_refl _⟩
theorem Cli.take1_same (m : Cli) (d : ByteArray) : (m.take1 d).mtu = m.mtu ∧ (m.take1 d).origin = m.origin ∧ (m.take1 d).push = m.push ∧ (m.take1 d).opn = m.opn ∧ (m.take1 d).pending.length ≤ m.pending.length := by
  unfold Cli.take1
  split
  · exact Cli.take_same _ _
  · exact ⟨rfl, rfl, rfl, rfl, Nat.le_refl _⟩
theorem Cli.takeL_same (m : Cli) (l : List ByteArray) : (m.takeL l).mtu = m.mtu ∧ (m.takeL l).origin = m.origin ∧ (m.takeL l).push = m.push ∧ (m.takeL l).opn = m.opn ∧ (m.takeL l).pending.length ≤ m.pending.length := by
  induction l generalizing m with
  | nil => exact ⟨rfl, rfl, rfl, rfl, Nat.le_refl _⟩
  | cons d l ih =>
    obtain ⟨a1, a2, a3, a4, a5⟩ := ih (m.take1 d)
    obtain ⟨b1, b2, b3, b4, b5⟩ := Cli.take1_same m d
    exact ⟨a1.trans b1, a2.trans b2, a3.trans b3, a4.trans b4, Nat.le_trans a5 b5⟩
theorem Nod.new_inv {c : Cfg} (hc : mayC c = 0) (origin : Int) : (Nod.new c origin).inv 0 := by
  refine ⟨hc, Lnk.new_ok _ _ _ _, ?_, ?_, rfl, ?_, ?_, ?_, ?_⟩
  · unfold Nod.new Lnk.new Rcv.new; simp
  · unfold Nod.new Lnk.new Snd.new; simp
  · unfold Nod.new Cli.new; simp
  · unfold Nod.new Jnl.new; simp
  · unfold Nod.new Cli.new Jnl.new behind; simp
  · unfold Nod.new Cli.new; simp
theorem Nod.inv.mono {t t' : Nat} {m : Nod} (h : m.inv t) (ht : t ≤ t') : m.inv t' :=
  ⟨h.c, h.k, h.rd, h.sd, h.mtu, h.opn, Nat.le_trans h.j ht, Nat.le_trans h.pend ht, Nat.le_trans h.known (by omega)⟩
theorem Nod.upd_inv {t : Nat} {m : Nod} (h : m.inv t) (u : Upd) : (m.upd u).inv t := by
  unfold Nod.upd Cli.upd
  split
  · rename_i he
    refine ⟨h.c, h.k, h.rd, h.sd, h.mtu, ?_, h.j, h.pend, h.known⟩
    unfold Cli.updE at he
    split at he
    · omega
    · split at he; · cases he
      split at he; · cases he
      rename_i hf
      exact fits_length (by simpa using hf)
  · exact h
theorem Nod.push_inv {t : Nat} {m : Nod} (h : m.inv t) : m.push.inv (t + 1) := by
  unfold Nod.push Cli.pushC Cli.pushJ
  split
  · rename_i he
    have hj := h.j
    have hp := h.pend
    refine ⟨h.c, h.k, h.rd, h.sd, h.mtu, by simp, ?_, by simp; omega, Nat.le_trans h.known (by omega)⟩
    simp only
    unfold Jnl.add
    split
    · simp; omega
    · omega
  · exact h.mono (by omega)
theorem Nod.pull_inv {t : Nat} {m : Nod} (h : m.inv t) : m.pull.inv (t + 1) := by
  obtain ⟨a1, a2, a3, a4, a5⟩ := Cli.takeL_same m.own m.k.r.came
  have hk := Cli.takeL_known m.own m.k.r.came
  rw [Rcv.came_length] at hk
  have hw16 : m.k.r.wait ≤ 16 := by have := h.k.2.2; unfold Rcv.ok at this; omega
  have hp := h.pend
  have hkn := h.known
  have hj := h.j
  exact ⟨h.c, Lnk.pops_ok _ _ h.k, h.rd, h.sd, a1.trans h.mtu, by unfold Nod.pull; simp only [a4]; exact h.opn, Nat.le_trans h.j (by omega), Nat.le_trans a5 (by omega), Nat.le_trans hk (by omega)⟩
theorem Nod.reset_inv {t : Nat} {m : Nod} (h : m.inv t) : m.reset.inv t := by
  unfold Nod.reset
  split
  · refine ⟨h.c, Lnk.new_ok _ _ _ _, ?_, ?_, h.mtu, ?_, h.j, ?_, ?_⟩
    · unfold Lnk.new Rcv.new; simp
    · unfold Lnk.new Snd.new; simp
    · unfold Cli.resume; simp
    · unfold Cli.resume; simp only; exact Nat.le_trans (behind_length _ _) h.j
    · unfold Cli.resume; simp
  · exact h
theorem Nod.hear_inv {t : Nat} {m : Nod} (h : m.inv t) (b : ByteArray) (hb : b.size ≤ 140737488351232) : (m.hear b).inv t := by
  obtain ⟨f1, f2⟩ := fget_data b hb
  unfold Nod.hear
  split
  · exact ⟨h.c, Lnk.hear_ok h.k f2, Lnk.hear_r h.rd f1, Lnk.hear_s h.sd, h.mtu, h.opn, h.j, h.pend, h.known⟩
  · exact h
theorem Nod.tick_inv {t : Nat} {m : Nod} (h : m.inv t) : m.tick.inv t := by
  refine ⟨h.c, offl_ok h.k, ?_, ?_, h.mtu, h.opn, h.j, h.pend, h.known⟩
  · intro d hd
    rw [show m.tick.k.r = m.k.r from (offl_r _ _ _).1] at hd
    exact h.rd d hd
  · show ∀ d ∈ (offl (m.j.l.drop m.offered) m.k m.offered).1.s.all, d.size ≤ 1400
    exact offl_s h.sd fun r _ => putB_size r
theorem Nod.act_inv {t : Nat} {m : Nod} (h : m.inv t) (a : Act) (hb : a.bytes.size ≤ 140737488351232) : (m.act a).inv (t + 1) := by
  unfold Nod.act
  split; · exact (Nod.upd_inv h _).mono (by omega)
  split; · exact Nod.push_inv h
  split; · exact Nod.pull_inv h
  split; · exact (Nod.reset_inv h).mono (by omega)
  split; · exact (Nod.hear_inv h _ hb).mono (by omega)
  split; · exact (Nod.tick_inv h).mono (by omega)
  exact h.mono (by omega)
theorem Nod.inv.small {t : Nat} {m : Nod} (h : m.inv t) (ht : t ≤ 1000) : m.small := by
  have h1 := h.j
  have h2 := h.pend
  have h3 := h.known
  have h4 := h.opn
  unfold Nod.small
  omega
theorem pcs_mem {a : Nat} {l : List ByteArray} {x : Nat × ByteArray} (h : x ∈ pcs a l) : x.2 ∈ l := by
  induction l generalizing a with
  | nil => cases h
  | cons d l ih =>
    simp only [pcs, List.mem_cons] at h
    rcases h with rfl | h
    · exact List.mem_cons_self
    · exact List.mem_cons_of_mem _ (ih h)
theorem frames_data {k : Lnk} {P : ByteArray → Prop} (h : ∀ d ∈ k.s.all, P d) (h0 : P ByteArray.empty) : ∀ f ∈ k.frames, P f.data := by
  intro f hf
  unfold Lnk.frames at hf
  split at hf
  · cases hf
  · split at hf
    · simp only [List.mem_singleton] at hf; subst hf; exact h0
    · obtain ⟨x, hx, rfl⟩ := List.mem_map.1 hf
      exact h _ (List.mem_of_mem_drop (pcs_mem hx))
theorem Nod.inv.frames {t : Nat} {m : Nod} (h : m.inv t) : ∀ f ∈ m.tick.k.frames, f.data.size ≤ 34359738368 := fun f hf => by
  have := frames_data (P := fun d => d.size ≤ 1400) (Nod.tick_inv h).sd (by simp) f hf
  omega
end Go.Proofs.YtndahppmjdbifaaGreatDoor.Nod
set_option linter.unusedVariables false
set_option linter.unusedSimpArgs false
namespace Go.Proofs.YtndahppmjdbifaaGreatDoor.Nod
open Go Go.Proofs Go.Proofs.YtndahppmjdbifaaGreatDoor.Eng Go.Proofs.YtndahppmjdbifaaGreatDoor.Pre Go.Proofs.YtndahppmjdbifaaGreatDoor.Pak Go.Proofs.YtndahppmjdbifaaGreatDoor.Val Go.Proofs.YtndahppmjdbifaaGreatDoor.Rou Go.Proofs.YtndahppmjdbifaaGreatDoor.Fra Go.Proofs.YtndahppmjdbifaaGreatDoor.Snd Go.Proofs.YtndahppmjdbifaaGreatDoor.Lnk Go.Proofs.YtndahppmjdbifaaGreatDoor.Jnl Go.Proofs.YtndahppmjdbifaaGreatDoor.Cli Go.Proofs.YtndahppmjdbifaaGreatDoor.Sto
def aV (a : Act) : Value := .agg [.int .i64 a.kind, .string a.u.key, .int .i64 a.u.kind, .int .i64 a.u.n, .string a.u.s, .string a.bytes].toArray
section
variable {M : Mem} {w : World} {Ls : List Chunk}
theorem do_c (hG : Bits M) (a : Act) (hab : a.bytes.size ≤ 140737488351232) {p t : Nat} {m : Nod} {H : Chunk} (hi : m.inv t) (ht : t ≤ 900) (hb : IsN M p m H) (hS : St M w (H :: Ls)) :
    CallsR Tryz.prog 25 [.pointer (some ⟨p, 0, none⟩), aV a].toArray w fun v w' => ∃ M' H', Mle M M' ∧ v = .tuple #[] ∧ IsN M' p (m.act a) H' ∧ St M' w' (H' :: Ls) := by
  have hsm := hi.small (by omega)
  have hsm' := hsm
  obtain ⟨s1, s2, s3, s4⟩ := hsm'
  have hc := mayC_ok hi.c
  have hmt := hi.mtu
  refine calls_of (c := _) (rs := _) (n := 34) Tryz.func25 rfl rfl rfl rfl rfl (zQ (zR (a_box rfl hS rfl fun b3 w hS => zE (zQ (zR (zF fl_61_0 rfl rfl (wl (y_load pl_3 rfl (hS.cell (v := .int .i64 a.kind) rfl)) rfl (zE (zB (zQ (zR (wl (y_eql rfl rfl) rfl (zA rfl rfl (zE (wc_if rfl (fun hc6 => ?_) (fun hc6 => ?_))))))))))))))))
  · try simp only [zZ] at hc6
    have hq : m.act a = m.upd a.u := by unfold Nod.act; rw [if_pos hc6]
    refine zR (zM rfl rfl (zF fl_61_1 rfl rfl (wl ((y_loadS st_59 sz_59 rfl (vs := encU.f a.u) (hS.cells rfl) rfl).val (show _ = uv a.u from rfl)) rfl (wl_call (.cons rfl (.cons rfl .nil)) (nupd_c hG a.u (by omega) (by omega) hb (hS.pull H)) rfl ?_))))
    rintro _ w ⟨M1, H1, hM, rfl, hn, hS⟩
    refine zE (wretN (vs := []) .nil ?_)
    rw [hq]
    first
    | exact ⟨M1, H1, hM, rfl, hn, hS.keep⟩
    | exact ⟨M, H1, Mle.refl _, rfl, hn, hS.keep⟩
    | exact ⟨M, H, Mle.refl _, rfl, hb, hS.keep⟩
  · try simp only [zZ] at hc6
    refine zQ (zR (wl (y_eql rfl rfl) rfl (zA rfl rfl (zE (wc_if rfl (fun hc12 => ?_) (fun hc12 => ?_))))))
    · try simp only [zZ] at hc12
      have hq : m.act a = m.push := by unfold Nod.act; rw [if_neg hc6, if_pos hc12]
      refine zR (zM rfl rfl (wl_call (.cons rfl .nil) (npush_c (by omega) (by omega) (by omega) hb (hS.pull H)) rfl ?_))
      rintro _ w ⟨M1, H1, hM, rfl, hn, hS⟩
      refine zE (wretN (vs := []) .nil ?_)
      rw [hq]
      first
      | exact ⟨M1, H1, hM, rfl, hn, hS.keep⟩
      | exact ⟨M, H1, Mle.refl _, rfl, hn, hS.keep⟩
      | exact ⟨M, H, Mle.refl _, rfl, hb, hS.keep⟩
    · try simp only [zZ] at hc12
      refine zQ (zR (wl (y_eql rfl rfl) rfl (zA rfl rfl (zE (wc_if rfl (fun hc16 => ?_) (fun hc16 => ?_))))))
      · try simp only [zZ] at hc16
        have hq : m.act a = m.pull := by unfold Nod.act; rw [if_neg hc6, if_neg hc12, if_pos hc16]
        refine zR (zM rfl rfl (wl_call (.cons rfl .nil) (npull_c hG hi.k hsm hi.rd hb (hS.pull H)) rfl ?_))
        rintro _ w ⟨M1, H1, hM, rfl, hn, hS⟩
        refine zE (wretN (vs := []) .nil ?_)
        rw [hq]
        first
        | exact ⟨M1, H1, hM, rfl, hn, hS.keep⟩
        | exact ⟨M, H1, Mle.refl _, rfl, hn, hS.keep⟩
        | exact ⟨M, H, Mle.refl _, rfl, hb, hS.keep⟩
      · try simp only [zZ] at hc16
        refine zQ (zR (wl (y_eql rfl rfl) rfl (zA rfl rfl (zE (wc_if rfl (fun hc20 => ?_) (fun hc20 => ?_))))))
        · try simp only [zZ] at hc20
          have hq : m.act a = m.reset := by unfold Nod.act; rw [if_neg hc6, if_neg hc12, if_neg hc16, if_pos hc20]
          refine zR (zM rfl rfl (wl_call (.cons rfl .nil) (nreset_c (by omega) (by omega) hb (hS.pull H)) rfl ?_))
          rintro _ w ⟨M1, H1, hM, rfl, hn, hS⟩
          refine zE (wretN (vs := []) .nil ?_)
          rw [hq]
          first
          | exact ⟨M1, H1, hM, rfl, hn, hS.keep⟩
          | exact ⟨M, H1, Mle.refl _, rfl, hn, hS.keep⟩
          | exact ⟨M, H, Mle.refl _, rfl, hb, hS.keep⟩
        · try simp only [zZ] at hc20
          refine zQ (zR (wl (y_eql rfl rfl) rfl (zA rfl rfl (zE (wc_if rfl (fun hc24 => ?_) (fun hc24 => ?_))))))
          · try simp only [zZ] at hc24
            have hq : m.act a = m.hear a.bytes := by unfold Nod.act; rw [if_neg hc6, if_neg hc12, if_neg hc16, if_neg hc20, if_pos hc24]
            refine zR (zM rfl rfl (zF fl_61_2 rfl rfl (wl (y_load pl_9 rfl (hS.cell (v := .string a.bytes) rfl)) rfl (wl_call (.cons rfl (.cons rfl .nil)) (nhear_c hG a.bytes hab hi.k hb (hS.pull H)) rfl ?_))))
            rintro _ w ⟨H1, rfl, hn, hS⟩
            refine zE (wretN (vs := []) .nil ?_)
            rw [hq]
            first
            | exact ⟨M1, H1, hM, rfl, hn, hS.keep⟩
            | exact ⟨M, H1, Mle.refl _, rfl, hn, hS.keep⟩
            | exact ⟨M, H, Mle.refl _, rfl, hb, hS.keep⟩
          · try simp only [zZ] at hc24
            refine zQ (zR (wl (y_eql rfl rfl) rfl (zA rfl rfl (zE (wc_if rfl (fun hc30 => ?_) (fun hc30 => ?_))))))
            · try simp only [zZ] at hc30
              have hq : m.act a = m.tick := by unfold Nod.act; rw [if_neg hc6, if_neg hc12, if_neg hc16, if_neg hc20, if_neg hc24, if_pos hc30]
              refine zR (zM rfl rfl (wl_call (.cons rfl .nil) (ntick_c hG hi.k hsm hi.frames hb (hS.pull H)) rfl ?_))
              rintro v w ⟨M1, H1, Hp, hM, _, hn, hS⟩
              refine zE (wretN (vs := []) .nil ?_)
              rw [hq]
              first
              | exact ⟨M1, H1, hM, rfl, hn, hS.keep⟩
              | exact ⟨M, H1, Mle.refl _, rfl, hn, hS.keep⟩
              | exact ⟨M, H, Mle.refl _, rfl, hb, hS.keep⟩
            · try simp only [zZ] at hc30
              have hq : m.act a = m := by unfold Nod.act; rw [if_neg hc6, if_neg hc12, if_neg hc16, if_neg hc20, if_neg hc24, if_neg hc30]
              refine zK (wretN (vs := []) .nil ?_)
              rw [hq]
              first
              | exact ⟨M1, H1, hM, rfl, hn, hS.keep⟩
              | exact ⟨M, H1, Mle.refl _, rfl, hn, hS.keep⟩
              | exact ⟨M, H, Mle.refl _, rfl, hb, hS.keep⟩
def greatU (u : Upd) : Bool := decide (u.key.size > 100 ∨ u.s.size > 1200)
def greatA (a : Act) : Bool := decide (a.bytes.size > 400) || greatU a.u
def greatB (c : Cfg) (l : List Act) : Bool := decide (l.length > 50 ∨ c.clients > 4) || l.any greatA
theorem greatu_c (u : Upd) (hS : St M w Ls) : CallsR Tryz.prog 84 [uv u].toArray w fun v w' => v = .bool (greatU u) ∧ St M w' Ls := by
  refine calls_of (c := _) (rs := _) (n := 13) Tryz.func84 rfl rfl rfl rfl rfl (zQ (zR (a_box rfl hS rfl fun b1 w hS => zA rfl rfl (zE (zQ (zR (zF fl_59_0 rfl rfl (wl (y_load pl_9 rfl (hS.cell (v := .string u.key) rfl)) rfl (wl (y_len_s Tryz.underlying9 rfl) rfl (wl (y_gtr rfl rfl) rfl (zM rfl rfl (wl_cases (s := 7) rfl (fun hg7 => ?_) (fun hg7 => ?_)))))))))))))
  · try simp only [zZ] at hg7
    refine zO rfl rfl rfl rfl (zO rfl rfl rfl rfl (zO rfl rfl rfl rfl (zO rfl rfl rfl rfl (wl (y_pickT rfl rfl) rfl (zA rfl rfl (zE (wc_ret (wret (vs := [_]) (.tmp rfl .nil) ?_))))))))
    first
    | exact ⟨congrArg Value.bool (decide_eq_decide.2 ⟨fun h => .inr (by omega), fun h => by omega⟩), hS.keep⟩
    | exact ⟨congrArg Value.bool (decide_eq_true (.inl (by omega))).symm, hS.keep⟩
  · try simp only [zZ] at hg7
    refine zI rfl rfl (zF fl_59_3 rfl rfl (zI rfl rfl (wl (y_load pl_9 rfl (hS.cell (v := .string u.s) rfl)) rfl (zI rfl rfl (wl (y_len_s Tryz.underlying9 rfl) rfl (zI rfl rfl (wl (y_gtr rfl rfl) rfl (wl (y_pickF rfl rfl) rfl (zA rfl rfl (zE (wc_ret (wret (vs := [_]) (.tmp rfl .nil) ?_))))))))))))
    first
    | exact ⟨congrArg Value.bool (decide_eq_decide.2 ⟨fun h => .inr (by omega), fun h => by omega⟩), hS.keep⟩
    | exact ⟨congrArg Value.bool (decide_eq_true (.inl (by omega))).symm, hS.keep⟩
theorem rmayc_c (c : Cfg) (hS : St M w Ls) : CallsR Tryz.prog 29 [cfgV c].toArray w fun v w' => v = .bool (decide (mayC c = 0)) ∧ St M w' Ls := by
  have ht : ∀ b : Bool, (b = true ↔ (1 ≤ c.clients ∧ c.clients ≤ 64 ∧ 1 ≤ c.window ∧ c.window ≤ 16 ∧ 1 ≤ c.push ∧ c.push ≤ 16 ∧ 1 ≤ c.pull ∧ c.pull ≤ 16 ∧ 64 ≤ c.mtu ∧ c.mtu ≤ 1400 ∧ 1 ≤ c.last ∧ c.last ≤ 1099511627776)) → b = decide (mayC c = 0) := by
    intro b hb
    rw [Bool.eq_iff_iff, hb, decide_eq_true_iff]
    unfold mayC
    split
    · rename_i h; exact ⟨fun _ => rfl, fun _ => h⟩
    · rename_i h; exact ⟨fun h' => absurd h' h, fun h' => by cases h'⟩
  refine calls_of (c := _) (rs := _) (n := 61) Tryz.func29 rfl rfl rfl rfl rfl (zQ (zR (a_box rfl hS rfl fun b1 w hS => zA rfl rfl (zE (zQ (zR (zF fl_23_0 rfl rfl (wl (y_load pl_3 rfl (hS.cell rfl)) rfl (wl (y_geq rfl rfl) rfl (zM rfl rfl (wl_cases (s := 6) rfl (fun hg6 => ?_) (fun hg6 => ?_))))))))))))
  · try simp only [zZ] at hg6
    refine zI rfl rfl (zF fl_23_0 rfl rfl (zI rfl rfl (wl (y_load pl_3 rfl (hS.cell rfl)) rfl (zI rfl rfl (wl (y_leq rfl rfl) rfl (wl (y_pickT rfl rfl) rfl (zM rfl rfl (wl_cases (s := 11) rfl (fun hg11 => ?_) (fun hg11 => ?_)))))))))
    · try simp only [zZ] at hg11
      refine zI rfl rfl (zF fl_23_1 rfl rfl (zI rfl rfl (wl (y_load pl_3 rfl (hS.cell rfl)) rfl (zI rfl rfl (wl (y_geq rfl rfl) rfl (wl (y_pickT rfl rfl) rfl (zM rfl rfl (wl_cases (s := 16) rfl (fun hg16 => ?_) (fun hg16 => ?_)))))))))
      · try simp only [zZ] at hg16
        refine zI rfl rfl (zF fl_23_1 rfl rfl (zI rfl rfl (wl (y_load pl_3 rfl (hS.cell rfl)) rfl (zI rfl rfl (wl (y_leq rfl rfl) rfl (wl (y_pickT rfl rfl) rfl (zM rfl rfl (wl_cases (s := 21) rfl (fun hg21 => ?_) (fun hg21 => ?_)))))))))
        · try simp only [zZ] at hg21
          refine zI rfl rfl (zF fl_23_2 rfl rfl (zI rfl rfl (wl (y_load pl_3 rfl (hS.cell rfl)) rfl (zI rfl rfl (wl (y_geq rfl rfl) rfl (wl (y_pickT rfl rfl) rfl (zM rfl rfl (wl_cases (s := 26) rfl (fun hg26 => ?_) (fun hg26 => ?_)))))))))
          · try simp only [zZ] at hg26
            refine zI rfl rfl (zF fl_23_2 rfl rfl (zI rfl rfl (wl (y_load pl_3 rfl (hS.cell rfl)) rfl (zI rfl rfl (wl (y_leq rfl rfl) rfl (wl (y_pickT rfl rfl) rfl (zM rfl rfl (wl_cases (s := 31) rfl (fun hg31 => ?_) (fun hg31 => ?_)))))))))
            · try simp only [zZ] at hg31
              refine zI rfl rfl (zF fl_23_3 rfl rfl (zI rfl rfl (wl (y_load pl_3 rfl (hS.cell rfl)) rfl (zI rfl rfl (wl (y_geq rfl rfl) rfl (wl (y_pickT rfl rfl) rfl (zM rfl rfl (wl_cases (s := 36) rfl (fun hg36 => ?_) (fun hg36 => ?_)))))))))
              · try simp only [zZ] at hg36
                refine zI rfl rfl (zF fl_23_3 rfl rfl (zI rfl rfl (wl (y_load pl_3 rfl (hS.cell rfl)) rfl (zI rfl rfl (wl (y_leq rfl rfl) rfl (wl (y_pickT rfl rfl) rfl (zM rfl rfl (wl_cases (s := 41) rfl (fun hg41 => ?_) (fun hg41 => ?_)))))))))
                · try simp only [zZ] at hg41
                  refine zI rfl rfl (zF fl_23_4 rfl rfl (zI rfl rfl (wl (y_load pl_3 rfl (hS.cell rfl)) rfl (zI rfl rfl (wl (y_geq rfl rfl) rfl (wl (y_pickT rfl rfl) rfl (zM rfl rfl (wl_cases (s := 46) rfl (fun hg46 => ?_) (fun hg46 => ?_)))))))))
                  · try simp only [zZ] at hg46
                    refine zI rfl rfl (zF fl_23_4 rfl rfl (zI rfl rfl (wl (y_load pl_3 rfl (hS.cell rfl)) rfl (zI rfl rfl (wl (y_leq rfl rfl) rfl (wl (y_pickT rfl rfl) rfl (zM rfl rfl (wl_cases (s := 51) rfl (fun hg51 => ?_) (fun hg51 => ?_)))))))))
                    · try simp only [zZ] at hg51
                      refine zI rfl rfl (zF fl_23_5 rfl rfl (zI rfl rfl (wl (y_load pl_3 rfl (hS.cell rfl)) rfl (zI rfl rfl (wl (y_geq rfl rfl) rfl (wl (y_pickT rfl rfl) rfl (zM rfl rfl (wl_cases (s := 56) rfl (fun hg56 => ?_) (fun hg56 => ?_)))))))))
                      · try simp only [zZ] at hg56
                        refine zI rfl rfl (zF fl_23_5 rfl rfl (zI rfl rfl (wl (y_load pl_3 rfl (hS.cell rfl)) rfl (zI rfl rfl (wl (y_leq rfl rfl) rfl (wl (y_pickT rfl rfl) rfl (zA rfl rfl (zE (wc_ret (wret (vs := [_]) (.tmp rfl .nil) ?_))))))))))
                        first
                        | exact ⟨congrArg Value.bool (ht _ (by rw [decide_eq_true_iff]; omega)), hS.keep⟩
                        | exact ⟨congrArg Value.bool (ht _ (by simp only [Bool.false_eq_true, false_iff]; omega)), hS.keep⟩
                      · try simp only [zZ] at hg56
                        refine zO rfl rfl rfl rfl (zO rfl rfl rfl rfl (zO rfl rfl rfl rfl (wl (y_pickF rfl rfl) rfl (zA rfl rfl (zE (wc_ret (wret (vs := [_]) (.tmp rfl .nil) ?_)))))))
                        first
                        | exact ⟨congrArg Value.bool (ht _ (by rw [decide_eq_true_iff]; omega)), hS.keep⟩
                        | exact ⟨congrArg Value.bool (ht _ (by simp only [Bool.false_eq_true, false_iff]; omega)), hS.keep⟩
                    · try simp only [zZ] at hg51
                      refine zO rfl rfl rfl rfl (zO rfl rfl rfl rfl (zO rfl rfl rfl rfl (wl (y_pickF rfl rfl) rfl (zM rfl rfl (zO rfl rfl rfl rfl (zO rfl rfl rfl rfl (zO rfl rfl rfl rfl (wl (y_pickF rfl rfl) rfl (zA rfl rfl (zE (wc_ret (wret (vs := [_]) (.tmp rfl .nil) ?_))))))))))))
                      first
                      | exact ⟨congrArg Value.bool (ht _ (by rw [decide_eq_true_iff]; omega)), hS.keep⟩
                      | exact ⟨congrArg Value.bool (ht _ (by simp only [Bool.false_eq_true, false_iff]; omega)), hS.keep⟩
                  · try simp only [zZ] at hg46
                    refine zO rfl rfl rfl rfl (zO rfl rfl rfl rfl (zO rfl rfl rfl rfl (wl (y_pickF rfl rfl) rfl (zM rfl rfl (zO rfl rfl rfl rfl (zO rfl rfl rfl rfl (zO rfl rfl rfl rfl (wl (y_pickF rfl rfl) rfl (zM rfl rfl (zO rfl rfl rfl rfl (zO rfl rfl rfl rfl (zO rfl rfl rfl rfl (wl (y_pickF rfl rfl) rfl (zA rfl rfl (zE (wc_ret (wret (vs := [_]) (.tmp rfl .nil) ?_)))))))))))))))))
                    first
                    | exact ⟨congrArg Value.bool (ht _ (by rw [decide_eq_true_iff]; omega)), hS.keep⟩
                    | exact ⟨congrArg Value.bool (ht _ (by simp only [Bool.false_eq_true, false_iff]; omega)), hS.keep⟩
                · try simp only [zZ] at hg41
                  refine zO rfl rfl rfl rfl (zO rfl rfl rfl rfl (zO rfl rfl rfl rfl (wl (y_pickF rfl rfl) rfl (zM rfl rfl (zO rfl rfl rfl rfl (zO rfl rfl rfl rfl (zO rfl rfl rfl rfl (wl (y_pickF rfl rfl) rfl (zM rfl rfl (zO rfl rfl rfl rfl (zO rfl rfl rfl rfl (zO rfl rfl rfl rfl (wl (y_pickF rfl rfl) rfl (zM rfl rfl (zO rfl rfl rfl rfl (zO rfl rfl rfl rfl (zO rfl rfl rfl rfl (wl (y_pickF rfl rfl) rfl (zA rfl rfl (zE (wc_ret (wret (vs := [_]) (.tmp rfl .nil) ?_))))))))))))))))))))))
                  first
                  | exact ⟨congrArg Value.bool (ht _ (by rw [decide_eq_true_iff]; omega)), hS.keep⟩
                  | exact ⟨congrArg Value.bool (ht _ (by simp only [Bool.false_eq_true, false_iff]; omega)), hS.keep⟩
              · try simp only [zZ] at hg36
                refine zO rfl rfl rfl rfl (zO rfl rfl rfl rfl (zO rfl rfl rfl rfl (wl (y_pickF rfl rfl) rfl (zM rfl rfl (zO rfl rfl rfl rfl (zO rfl rfl rfl rfl (zO rfl rfl rfl rfl (wl (y_pickF rfl rfl) rfl (zM rfl rfl (zO rfl rfl rfl rfl (zO rfl rfl rfl rfl (zO rfl rfl rfl rfl (wl (y_pickF rfl rfl) rfl (zM rfl rfl (zO rfl rfl rfl rfl (zO rfl rfl rfl rfl (zO rfl rfl rfl rfl (wl (y_pickF rfl rfl) rfl (zM rfl rfl (zO rfl rfl rfl rfl (zO rfl rfl rfl rfl (zO rfl rfl rfl rfl (wl (y_pickF rfl rfl) rfl (zA rfl rfl (zE (wc_ret (wret (vs := [_]) (.tmp rfl .nil) ?_)))))))))))))))))))))))))))
                first
                | exact ⟨congrArg Value.bool (ht _ (by rw [decide_eq_true_iff]; omega)), hS.keep⟩
                | exact ⟨congrArg Value.bool (ht _ (by simp only [Bool.false_eq_true, false_iff]; omega)), hS.keep⟩
            · try simp only [zZ] at hg31
              refine zO rfl rfl rfl rfl (zO rfl rfl rfl rfl (zO rfl rfl rfl rfl (wl (y_pickF rfl rfl) rfl (zM rfl rfl (zO rfl rfl rfl rfl (zO rfl rfl rfl rfl (zO rfl rfl rfl rfl (wl (y_pickF rfl rfl) rfl (zM rfl rfl (zO rfl rfl rfl rfl (zO rfl rfl rfl rfl (zO rfl rfl rfl rfl (wl (y_pickF rfl rfl) rfl (zM rfl rfl (zO rfl rfl rfl rfl (zO rfl rfl rfl rfl (zO rfl rfl rfl rfl (wl (y_pickF rfl rfl) rfl (zM rfl rfl (zO rfl rfl rfl rfl (zO rfl rfl rfl rfl (zO rfl rfl rfl rfl (wl (y_pickF rfl rfl) rfl (zM rfl rfl (zO rfl rfl rfl rfl (zO rfl rfl rfl rfl (zO rfl rfl rfl rfl (wl (y_pickF rfl rfl) rfl (zA rfl rfl (zE (wc_ret (wret (vs := [_]) (.tmp rfl .nil) ?_))))))))))))))))))))))))))))))))
              first
              | exact ⟨congrArg Value.bool (ht _ (by rw [decide_eq_true_iff]; omega)), hS.keep⟩
              | exact ⟨congrArg Value.bool (ht _ (by simp only [Bool.false_eq_true, false_iff]; omega)), hS.keep⟩
          · try simp only [zZ] at hg26
            refine zO rfl rfl rfl rfl (zO rfl rfl rfl rfl (zO rfl rfl rfl rfl (wl (y_pickF rfl rfl) rfl (zM rfl rfl (zO rfl rfl rfl rfl (zO rfl rfl rfl rfl (zO rfl rfl rfl rfl (wl (y_pickF rfl rfl) rfl (zM rfl rfl (zO rfl rfl rfl rfl (zO rfl rfl rfl rfl (zO rfl rfl rfl rfl (wl (y_pickF rfl rfl) rfl (zM rfl rfl (zO rfl rfl rfl rfl (zO rfl rfl rfl rfl (zO rfl rfl rfl rfl (wl (y_pickF rfl rfl) rfl (zM rfl rfl (zO rfl rfl rfl rfl (zO rfl rfl rfl rfl (zO rfl rfl rfl rfl (wl (y_pickF rfl rfl) rfl (zM rfl rfl (zO rfl rfl rfl rfl (zO rfl rfl rfl rfl (zO rfl rfl rfl rfl (wl (y_pickF rfl rfl) rfl (zM rfl rfl (zO rfl rfl rfl rfl (zO rfl rfl rfl rfl (zO rfl rfl rfl rfl (wl (y_pickF rfl rfl) rfl (zA rfl rfl (zE (wc_ret (wret (vs := [_]) (.tmp rfl .nil) ?_)))))))))))))))))))))))))))))))))))))
            first
            | exact ⟨congrArg Value.bool (ht _ (by rw [decide_eq_true_iff]; omega)), hS.keep⟩
            | exact ⟨congrArg Value.bool (ht _ (by simp only [Bool.false_eq_true, false_iff]; omega)), hS.keep⟩
        · try simp only [zZ] at hg21
          refine zO rfl rfl rfl rfl (zO rfl rfl rfl rfl (zO rfl rfl rfl rfl (wl (y_pickF rfl rfl) rfl (zM rfl rfl (zO rfl rfl rfl rfl (zO rfl rfl rfl rfl (zO rfl rfl rfl rfl (wl (y_pickF rfl rfl) rfl (zM rfl rfl (zO rfl rfl rfl rfl (zO rfl rfl rfl rfl (zO rfl rfl rfl rfl (wl (y_pickF rfl rfl) rfl (zM rfl rfl (zO rfl rfl rfl rfl (zO rfl rfl rfl rfl (zO rfl rfl rfl rfl (wl (y_pickF rfl rfl) rfl (zM rfl rfl (zO rfl rfl rfl rfl (zO rfl rfl rfl rfl (zO rfl rfl rfl rfl (wl (y_pickF rfl rfl) rfl (zM rfl rfl (zO rfl rfl rfl rfl (zO rfl rfl rfl rfl (zO rfl rfl rfl rfl (wl (y_pickF rfl rfl) rfl (zM rfl rfl (zO rfl rfl rfl rfl (zO rfl rfl rfl rfl (zO rfl rfl rfl rfl (wl (y_pickF rfl rfl) rfl (zM rfl rfl (zO rfl rfl rfl rfl (zO rfl rfl rfl rfl (zO rfl rfl rfl rfl (wl (y_pickF rfl rfl) rfl (zA rfl rfl (zE (wc_ret (wret (vs := [_]) (.tmp rfl .nil) ?_))))))))))))))))))))))))))))))))))))))))))
          first
          | exact ⟨congrArg Value.bool (ht _ (by rw [decide_eq_true_iff]; omega)), hS.keep⟩
          | exact ⟨congrArg Value.bool (ht _ (by simp only [Bool.false_eq_true, false_iff]; omega)), hS.keep⟩
      · try simp only [zZ] at hg16
        refine zO rfl rfl rfl rfl (zO rfl rfl rfl rfl (zO rfl rfl rfl rfl (wl (y_pickF rfl rfl) rfl (zM rfl rfl (zO rfl rfl rfl rfl (zO rfl rfl rfl rfl (zO rfl rfl rfl rfl (wl (y_pickF rfl rfl) rfl (zM rfl rfl (zO rfl rfl rfl rfl (zO rfl rfl rfl rfl (zO rfl rfl rfl rfl (wl (y_pickF rfl rfl) rfl (zM rfl rfl (zO rfl rfl rfl rfl (zO rfl rfl rfl rfl (zO rfl rfl rfl rfl (wl (y_pickF rfl rfl) rfl (zM rfl rfl (zO rfl rfl rfl rfl (zO rfl rfl rfl rfl (zO rfl rfl rfl rfl (wl (y_pickF rfl rfl) rfl (zM rfl rfl (zO rfl rfl rfl rfl (zO rfl rfl rfl rfl (zO rfl rfl rfl rfl (wl (y_pickF rfl rfl) rfl (zM rfl rfl (zO rfl rfl rfl rfl (zO rfl rfl rfl rfl (zO rfl rfl rfl rfl (wl (y_pickF rfl rfl) rfl (zM rfl rfl (zO rfl rfl rfl rfl (zO rfl rfl rfl rfl (zO rfl rfl rfl rfl (wl (y_pickF rfl rfl) rfl (zM rfl rfl (zO rfl rfl rfl rfl (zO rfl rfl rfl rfl (zO rfl rfl rfl rfl (wl (y_pickF rfl rfl) rfl (zA rfl rfl (zE (wc_ret (wret (vs := [_]) (.tmp rfl .nil) ?_)))))))))))))))))))))))))))))))))))))))))))))))
        first
        | exact ⟨congrArg Value.bool (ht _ (by rw [decide_eq_true_iff]; omega)), hS.keep⟩
        | exact ⟨congrArg Value.bool (ht _ (by simp only [Bool.false_eq_true, false_iff]; omega)), hS.keep⟩
    · try simp only [zZ] at hg11
      refine zO rfl rfl rfl rfl (zO rfl rfl rfl rfl (zO rfl rfl rfl rfl (wl (y_pickF rfl rfl) rfl (zM rfl rfl (zO rfl rfl rfl rfl (zO rfl rfl rfl rfl (zO rfl rfl rfl rfl (wl (y_pickF rfl rfl) rfl (zM rfl rfl (zO rfl rfl rfl rfl (zO rfl rfl rfl rfl (zO rfl rfl rfl rfl (wl (y_pickF rfl rfl) rfl (zM rfl rfl (zO rfl rfl rfl rfl (zO rfl rfl rfl rfl (zO rfl rfl rfl rfl (wl (y_pickF rfl rfl) rfl (zM rfl rfl (zO rfl rfl rfl rfl (zO rfl rfl rfl rfl (zO rfl rfl rfl rfl (wl (y_pickF rfl rfl) rfl (zM rfl rfl (zO rfl rfl rfl rfl (zO rfl rfl rfl rfl (zO rfl rfl rfl rfl (wl (y_pickF rfl rfl) rfl (zM rfl rfl (zO rfl rfl rfl rfl (zO rfl rfl rfl rfl (zO rfl rfl rfl rfl (wl (y_pickF rfl rfl) rfl (zM rfl rfl (zO rfl rfl rfl rfl (zO rfl rfl rfl rfl (zO rfl rfl rfl rfl (wl (y_pickF rfl rfl) rfl (zM rfl rfl (zO rfl rfl rfl rfl (zO rfl rfl rfl rfl (zO rfl rfl rfl rfl (wl (y_pickF rfl rfl) rfl (zM rfl rfl (zO rfl rfl rfl rfl (zO rfl rfl rfl rfl (zO rfl rfl rfl rfl (wl (y_pickF rfl rfl) rfl (zA rfl rfl (zE (wc_ret (wret (vs := [_]) (.tmp rfl .nil) ?_))))))))))))))))))))))))))))))))))))))))))))))))))))
      first
      | exact ⟨congrArg Value.bool (ht _ (by rw [decide_eq_true_iff]; omega)), hS.keep⟩
      | exact ⟨congrArg Value.bool (ht _ (by simp only [Bool.false_eq_true, false_iff]; omega)), hS.keep⟩
  · try simp only [zZ] at hg6
    refine zO rfl rfl rfl rfl (zO rfl rfl rfl rfl (zO rfl rfl rfl rfl (wl (y_pickF rfl rfl) rfl (zM rfl rfl (zO rfl rfl rfl rfl (zO rfl rfl rfl rfl (zO rfl rfl rfl rfl (wl (y_pickF rfl rfl) rfl (zM rfl rfl (zO rfl rfl rfl rfl (zO rfl rfl rfl rfl (zO rfl rfl rfl rfl (wl (y_pickF rfl rfl) rfl (zM rfl rfl (zO rfl rfl rfl rfl (zO rfl rfl rfl rfl (zO rfl rfl rfl rfl (wl (y_pickF rfl rfl) rfl (zM rfl rfl (zO rfl rfl rfl rfl (zO rfl rfl rfl rfl (zO rfl rfl rfl rfl (wl (y_pickF rfl rfl) rfl (zM rfl rfl (zO rfl rfl rfl rfl (zO rfl rfl rfl rfl (zO rfl rfl rfl rfl (wl (y_pickF rfl rfl) rfl (zM rfl rfl (zO rfl rfl rfl rfl (zO rfl rfl rfl rfl (zO rfl rfl rfl rfl (wl (y_pickF rfl rfl) rfl (zM rfl rfl (zO rfl rfl rfl rfl (zO rfl rfl rfl rfl (zO rfl rfl rfl rfl (wl (y_pickF rfl rfl) rfl (zM rfl rfl (zO rfl rfl rfl rfl (zO rfl rfl rfl rfl (zO rfl rfl rfl rfl (wl (y_pickF rfl rfl) rfl (zM rfl rfl (zO rfl rfl rfl rfl (zO rfl rfl rfl rfl (zO rfl rfl rfl rfl (wl (y_pickF rfl rfl) rfl (zM rfl rfl (zO rfl rfl rfl rfl (zO rfl rfl rfl rfl (zO rfl rfl rfl rfl (wl (y_pickF rfl rfl) rfl (zA rfl rfl (zE (wc_ret (wret (vs := [_]) (.tmp rfl .nil) ?_)))))))))))))))))))))))))))))))))))))))))))))))))))))))))
    first
    | exact ⟨congrArg Value.bool (ht _ (by rw [decide_eq_true_iff]; omega)), hS.keep⟩
    | exact ⟨congrArg Value.bool (ht _ (by simp only [Bool.false_eq_true, false_iff]; omega)), hS.keep⟩
end
end Go.Proofs.YtndahppmjdbifaaGreatDoor.Nod
set_option linter.unusedVariables false
set_option linter.unusedSimpArgs false
namespace Go.Proofs.YtndahppmjdbifaaGreatDoor.Nod
open Go Go.Proofs Go.Proofs.YtndahppmjdbifaaGreatDoor.Eng Go.Proofs.YtndahppmjdbifaaGreatDoor.Pre Go.Proofs.YtndahppmjdbifaaGreatDoor.Pak Go.Proofs.YtndahppmjdbifaaGreatDoor.Val Go.Proofs.YtndahppmjdbifaaGreatDoor.Rou Go.Proofs.YtndahppmjdbifaaGreatDoor.Fra Go.Proofs.YtndahppmjdbifaaGreatDoor.Snd Go.Proofs.YtndahppmjdbifaaGreatDoor.Lnk Go.Proofs.YtndahppmjdbifaaGreatDoor.Jnl Go.Proofs.YtndahppmjdbifaaGreatDoor.Cli Go.Proofs.YtndahppmjdbifaaGreatDoor.Sto
theorem _root_.Go.Proofs.YtndahppmjdbifaaGreatDoor.Eng.Holds.atV {α : Type} {A : Enc α} {w : World} {b off m c i : Nat} {xs : List α} {x : α} (h : Holds w A (.slice (some ⟨b, off, none⟩) m c) xs) (hx : xs[i]? = some x) : CellsAt w b (off + i * A.k) (A.f x) := by
  obtain ⟨b', off', c', hse, hce⟩ := h.at hx
  simp only [Value.slice.injEq, Option.some.injEq, Addr.mk.injEq] at hse
  obtain ⟨⟨rfl, rfl, _⟩, _⟩ := hse
  exact hce
theorem take_eq_step {α : Type} {xs ys : List α} {i : Nat} {x y : α} (hx : xs[i]? = some x) (hy : ys[i]? = some y) (h : xs.take i = ys.take i) (e : x = y) : xs.take (i + 1) = ys.take (i + 1) := by
  rw [List.take_add_one, List.take_add_one, hx, hy, h, e]
section
variable {M : Mem} {w : World} {Ls : List Chunk}
theorem upd_eq (x y : Upd) : (decide (x.key = y.key) && (decide (x.kind = y.kind) && (decide (x.n = y.n) && (decide (x.s = y.s) && true)))) = decide (x = y) := by
  rw [Bool.eq_iff_iff]
  simp only [Bool.and_true, Bool.and_eq_true, decide_eq_true_iff]
  cases x; cases y; simp
theorem rsame_c (r q : Rnd) (s t : Value) (hs : Rd M encU s r.ups) (ht : Rd M encU t q.ups) (hl : r.ups.length ≤ 137438953472) (hS : St M w Ls) :
    CallsR Tryz.prog 58 [rvS r s, rvS q t].toArray w fun v w' => v = .bool (decide (r = q)) ∧ St M w' Ls := by
  have hs0 := hs
  have ht0 := ht
  obtain ⟨sa, sc, rfl⟩ := (hs.holds hS).slice
  obtain ⟨ta, tc, rfl⟩ := (ht.holds hS).slice
  refine calls_of (c := _) (rs := _) (n := 45) Tryz.func58 rfl rfl rfl rfl rfl (zQ (zR (a_box rfl hS rfl fun b2 w hS => a_box rfl hS rfl fun b3 w hS => zA rfl rfl (zE (zQ (zQ (zR (zF fl_48_0 rfl rfl (wl (y_load pl_3 rfl (hS.cell (v := .int .i64 r.o) rfl)) rfl (zF fl_48_0 rfl rfl (wl (y_load pl_3 rfl (hS.cell (v := .int .i64 q.o) rfl)) rfl (wl (y_neq rfl rfl) rfl (zM rfl rfl (wl_cases (s := 11) rfl (fun hg11 => ?_) (fun hg11 => ?_)))))))))))))))
  · try simp only [zZ] at hg11
    have hne : r ≠ q := fun e => by subst e; exact absurd rfl hg11
    rw [decide_eq_false hne]
    refine zO rfl rfl rfl rfl (zO rfl rfl rfl rfl (zO rfl rfl rfl rfl (zO rfl rfl rfl rfl (zO rfl rfl rfl rfl (wl (y_pickT rfl rfl) rfl (zM rfl rfl (zO rfl rfl rfl rfl (zO rfl rfl rfl rfl (zO rfl rfl rfl rfl (zO rfl rfl rfl rfl (zO rfl rfl rfl rfl (zO rfl rfl rfl rfl (zO rfl rfl rfl rfl (wl (y_pickT rfl rfl) rfl (zE (wc_ifT rfl rfl (zQ (zR (zA rfl rfl (zE (wc_ret (wret (vs := [_]) (.tmp rfl .nil) ?_))))))))))))))))))))))
    exact ⟨rfl, hS.keep⟩
  · try simp only [zZ] at hg11
    refine zI rfl rfl (zF fl_48_1 rfl rfl (zI rfl rfl (wl (y_load pl_3 rfl (hS.cell (v := .int .i64 r.n) rfl)) rfl (zI rfl rfl (zF fl_48_1 rfl rfl (zI rfl rfl (wl (y_load pl_3 rfl (hS.cell (v := .int .i64 q.n) rfl)) rfl (zI rfl rfl (wl (y_neq rfl rfl) rfl (wl (y_pickF rfl rfl) rfl (zM rfl rfl (wl_cases (s := 18) rfl (fun hg18 => ?_) (fun hg18 => ?_)))))))))))))
    · try simp only [zZ] at hg18
      have hne : r ≠ q := fun e => by subst e; exact absurd rfl hg18
      rw [decide_eq_false hne]
      refine zO rfl rfl rfl rfl (zO rfl rfl rfl rfl (zO rfl rfl rfl rfl (zO rfl rfl rfl rfl (zO rfl rfl rfl rfl (zO rfl rfl rfl rfl (zO rfl rfl rfl rfl (wl (y_pickT rfl rfl) rfl (zE (wc_ifT rfl rfl (zQ (zR (zA rfl rfl (zE (wc_ret (wret (vs := [_]) (.tmp rfl .nil) ?_)))))))))))))))
      exact ⟨rfl, hS.keep⟩
    · try simp only [zZ] at hg18
      refine zI rfl rfl (zF fl_48_2 rfl rfl (zI rfl rfl (wl (y_load pl_46 rfl (hS.cell (v := .slice sa r.ups.length sc) rfl)) rfl (zI rfl rfl (wl (y_len_sl Tryz.underlying46 rfl) rfl (zI rfl rfl (zF fl_48_2 rfl rfl (zI rfl rfl (wl (y_load pl_46 rfl (hS.cell (v := .slice ta q.ups.length tc) rfl)) rfl (zI rfl rfl (wl (y_len_sl Tryz.underlying46 rfl) rfl (zI rfl rfl (wl (y_neq rfl rfl) rfl (wl (y_pickF rfl rfl) rfl (zE (wc_if rfl (fun hc26 => ?_) (fun hc26 => ?_)))))))))))))))))
      · try simp only [zZ] at hc26
        have hne : r ≠ q := fun e => by subst e; exact absurd rfl hc26
        rw [decide_eq_false hne]
        refine zQ (zR (zA rfl rfl (zE (wc_ret (wret (vs := [_]) (.tmp rfl .nil) ?_)))))
        exact ⟨rfl, hS.keep⟩
      · try simp only [zZ] at hc26
        have hlen : r.ups.length = q.ups.length := by omega
        refine zK (zQ (zQ (zR (zA rfl rfl (zE (zB (wc_loop (α := Nat) (fun i => [(2, .pointer (some ⟨b2, 0, none⟩)), (3, .pointer (some ⟨b3, 0, none⟩)), (5, .int .i64 i)]) (fun i w => i ≤ r.ups.length ∧ r.ups.take i = q.ups.take i ∧ St M w ([(b3, .cells #[.int .i64 q.o, .int .i64 q.n, .slice ta q.ups.length tc] 48)] :: [(b2, .cells #[.int .i64 r.o, .int .i64 r.n, .slice sa r.ups.length sc] 48)] :: Ls)) (fun i => r.ups.length - i) 0 (sub_cons rfl (sub_cons rfl (sub_cons rfl sub_nil))) ⟨by omega, rfl, hS⟩ ?_)))))))
        clear hS
        rintro i w ⟨hi, hq, hS⟩
        refine zQ (zQ (zR (zM rfl rfl (zF fl_48_2 rfl rfl (wl (y_load pl_46 rfl (hS.cell (v := .slice sa r.ups.length sc) rfl)) rfl (wl (y_len_sl Tryz.underlying46 rfl) rfl (wl (y_lss rfl rfl) rfl (zE (wc_if rfl (fun hc31 => ?_) (fun hc31 => ?_))))))))))
        · try simp only [zZ] at hc31
          refine zK (zQ (zB (zQ ?_)))
          have hi' : i < r.ups.length := by omega
          obtain ⟨x, hxi⟩ : ∃ x, r.ups[i]? = some x := ⟨_, List.getElem?_eq_getElem hi'⟩
          obtain ⟨y, hyi⟩ : ∃ y, q.ups[i]? = some y := ⟨_, List.getElem?_eq_getElem (by omega)⟩
          obtain ⟨bb, off, c', hse, _⟩ := (hs0.holds hS).at hxi
          obtain ⟨bc, og, c2, hsf, _⟩ := (ht0.holds hS).at hyi
          simp only [Value.slice.injEq] at hse hsf
          have hSk := hS
          obtain ⟨rfl, _, rfl⟩ := hse
          obtain ⟨rfl, _, rfl⟩ := hsf
          replace hS := hSk
          refine zW hS (fun w => w.cell? ⟨b2, 2, none⟩ = some (.slice (some ⟨bb, off, none⟩) r.ups.length sc) ∧ w.cell? ⟨b3, 2, none⟩ = some (.slice (some ⟨bc, og, none⟩) q.ups.length tc) ∧ CellsAt w bb (off + i * encU.k) (encU.f x) ∧ CellsAt w bc (og + i * encU.k) (encU.f y)) [] wide_ rfl rfl fun w hS => zP (i := 0) 1 rfl rfl (by kernel_rfl) (fun w => y_fld fl_48_2 rfl) (zP (i := 2) 5 rfl rfl (by kernel_rfl) (fun _ => y_move rfl) (zP (i := 5) 37 rfl rfl (by kernel_rfl) (fun w => y_fld fl_48_2 rfl) (zP (i := 7) 165 rfl rfl (by kernel_rfl) (fun _ => y_move rfl) (zD (i := 1) 167 rfl rfl (by kernel_rfl) ⟨hS.cell rfl, hS.cell rfl, (hs0.holds hS).atV hxi, (ht0.holds hS).atV hyi⟩ (fun w hS => y_load pl_46 rfl hS.1) (zP (i := 3) 175 rfl rfl (by kernel_rfl) (fun w => y_ixa_sl Tryz.underlying46 sz_59 rfl rfl (by omega) (by omega)) (zD (i := 4) 191 rfl rfl (by kernel_rfl) ⟨hS.cell rfl, hS.cell rfl, (hs0.holds hS).atV hxi, (ht0.holds hS).atV hyi⟩ (fun w hS => y_loadS st_59 sz_59 rfl hS.2.2.1 rfl) (zD (i := 6) 255 rfl rfl (by kernel_rfl) ⟨hS.cell rfl, hS.cell rfl, (hs0.holds hS).atV hxi, (ht0.holds hS).atV hyi⟩ (fun w hS => y_load pl_46 rfl hS.2.1) (zP (i := 8) 511 rfl rfl (by kernel_rfl) (fun w => y_ixa_sl Tryz.underlying46 sz_59 rfl rfl (by omega) (by omega)) (zD (i := 9) 1023 rfl rfl (by kernel_rfl) ⟨hS.cell rfl, hS.cell rfl, (hs0.holds hS).atV hxi, (ht0.holds hS).atV hyi⟩ (fun w hS => y_loadS st_59 sz_59 rfl hS.2.2.2 rfl) (zP (i := 10) 2047 rfl rfl (by kernel_rfl) (fun w => (y_neS Tryz.eqGuardType59 rfl rfl (eq_59 _ _ _ _ _ _ _ _)).val (u := .bool (!decide (x = y))) (congrArg Value.bool (congrArg not (upd_eq x y)))) (zH (by kernel_rfl) (wc_if rfl (fun hc44 => ?_) (fun hc44 => ?_)))))))))))))
          · try simp only [zZ] at hc44
            have hne : r ≠ q := fun e => by subst e; rw [hxi] at hyi; exact hc44 (Option.some.inj hyi)
            rw [decide_eq_false hne]
            refine zQ (zR (zA rfl rfl (zE (wc_ret (wret (vs := [_]) (.tmp rfl .nil) ?_)))))
            exact ⟨rfl, hS.keep⟩
          · try simp only [zZ] at hc44
            refine zK (zR (zM rfl rfl (wl (y_add rfl rfl (w64 (by omega) (by omega))) rfl (zA rfl rfl (zE ?_)))))
            exact ⟨i + 1, by omega, sub_cons rfl (sub_cons rfl (sub_cons rfl sub_nil)), by omega, take_eq_step hxi hyi hq hc44, hS⟩
        · try simp only [zZ] at hc31
          obtain rfl : i = r.ups.length := by omega
          rw [List.take_length, hlen, List.take_length] at hq
          have heq : r = q := by cases r; cases q; simp only [Rnd.mk.injEq]; exact ⟨hg11, hg18, hq⟩
          rw [decide_eq_true heq]
          refine wc_exit (zQ (zR (zA rfl rfl (zE (wc_ret (wret (vs := [_]) (.tmp rfl .nil) ?_))))))
          exact ⟨rfl, hS.keep⟩
theorem rsameall_c {xs ys : List RV} {rs qs : List Rnd} {s t : Value} {H1 H2 : Chunk} (hl : rs.length ≤ 137438953472) (hx : Own 48 encRV s xs H1) (hr : Rvs M xs rs) (hy : Own 48 encRV t ys H2) (hq : Rvs M ys qs) (hS : St M w (H1 :: H2 :: Ls)) :
    CallsR Tryz.prog 16 [s, t].toArray w fun v w' => v = .bool (decide (rs = qs)) ∧ St M w' (H1 :: H2 :: Ls) := by
  obtain ⟨sa, sc, rfl⟩ := hx.slice
  obtain ⟨ta, tc, rfl⟩ := hy.slice
  have e1 := hr.len
  have e2 := hq.len
  refine calls_of (c := _) (rs := _) (n := 27) Tryz.func16 rfl rfl rfl rfl rfl (zQ (zR (zA rfl rfl (zE (zQ (zQ (zR (zM rfl rfl (wl (y_len_sl Tryz.underlying32 rfl) rfl (zM rfl rfl (wl (y_len_sl Tryz.underlying32 rfl) rfl (wl (y_neq rfl rfl) rfl (zE (wc_if rfl (fun hc10 => ?_) (fun hc10 => ?_)))))))))))))))
  · try simp only [zZ] at hc10
    have hne : rs ≠ qs := fun e => by subst e; omega
    rw [decide_eq_false hne]
    refine zQ (zR (zA rfl rfl (zE (wc_ret (wret (vs := [_]) (.tmp rfl .nil) ?_)))))
    exact ⟨rfl, hS⟩
  · try simp only [zZ] at hc10
    have hlen : xs.length = ys.length := by omega
    refine zK (zQ (zQ (zR (zA rfl rfl (zE (zB (wc_loop (α := Nat) (fun i => [(0, .slice sa xs.length sc), (1, .slice ta ys.length tc), (5, .int .i64 i)]) (fun i w => i ≤ xs.length ∧ rs.take i = qs.take i ∧ St M w (H1 :: H2 :: Ls)) (fun i => xs.length - i) 0 (sub_cons rfl (sub_cons rfl (sub_cons rfl sub_nil))) ⟨by omega, rfl, hS⟩ ?_)))))))
    clear hS
    rintro i w ⟨hi, hk, hS⟩
    refine zQ (zQ (zR (zM rfl rfl (zM rfl rfl (wl (y_len_sl Tryz.underlying32 rfl) rfl (wl (y_lss rfl rfl) rfl (zE (wc_if rfl (fun hc14 => ?_) (fun hc14 => ?_)))))))))
    · try simp only [zZ] at hc14
      refine zK (zQ (zB (zQ ?_)))
      have hi' : i < xs.length := by omega
      obtain ⟨r, hri⟩ : ∃ r, rs[i]? = some r := ⟨_, List.getElem?_eq_getElem (by omega)⟩
      obtain ⟨q, hqi⟩ : ∃ q, qs[i]? = some q := ⟨_, List.getElem?_eq_getElem (by omega)⟩
      obtain ⟨x, hxi, hxr⟩ := hr.at hri
      obtain ⟨y, hyi, hyq⟩ := hq.at hqi
      obtain ⟨bb, off, c', hse, _⟩ := (hx.holds (hS.pull H1)).at hxi
      obtain ⟨bc, og, c2, hsf, _⟩ := (hy.holds (hS.pull H2)).at hyi
      simp only [Value.slice.injEq] at hse hsf
      have hSk := hS
      obtain ⟨rfl, _, rfl⟩ := hse
      obtain ⟨rfl, _, rfl⟩ := hsf
      replace hS := hSk
      refine zW hS (fun w => CellsAt w bb (off + i * encRV.k) (encRV.f x) ∧ CellsAt w bc (og + i * encRV.k) (encRV.f y)) [8] wide_ rfl rfl fun w hS => zP (i := 0) 1 rfl rfl (by kernel_rfl) (fun _ => y_move rfl) (zP (i := 1) 3 rfl rfl (by kernel_rfl) (fun _ => y_move rfl) (zP (i := 2) 7 rfl rfl (by kernel_rfl) (fun w => y_ixa_sl Tryz.underlying32 sz_48 rfl rfl (by omega) (by omega)) (zP (i := 4) 23 rfl rfl (by kernel_rfl) (fun _ => y_move rfl) (zP (i := 5) 55 rfl rfl (by kernel_rfl) (fun _ => y_move rfl) (zP (i := 6) 119 rfl rfl (by kernel_rfl) (fun w => y_ixa_sl Tryz.underlying32 sz_48 rfl rfl (by omega) (by omega)) (zD (i := 3) 127 rfl rfl (by kernel_rfl) ⟨(hx.holds (hS.pull H1)).atV hxi, (hy.holds (hS.pull H2)).atV hyi⟩ (fun w hS => (y_loadS st_48 sz_48 rfl hS.1 rfl).val hxr.val) (zD (i := 7) 255 rfl rfl (by kernel_rfl) ⟨(hx.holds (hS.pull H1)).atV hxi, (hy.holds (hS.pull H2)).atV hyi⟩ (fun w hS => (y_loadS st_48 sz_48 rfl hS.2 rfl).val hyq.val) (zU (i := 8) 511 rfl (by kernel_rfl) (wl_call (.cons rfl (.cons rfl .nil)) (rsame_c r q x.s y.s hxr.2.2.1 hyq.2.2.1 hxr.2.2.2 hS) rfl ?_)))))))))
      rintro _ w ⟨rfl, hS⟩
      refine zE ⟨fun h => absurd (by decide) h, zP (i := 9) 1023 rfl rfl (by kernel_rfl) (fun w => y_not rfl) (zH (by kernel_rfl) (wc_if rfl (fun hc26 => ?_) (fun hc26 => ?_)))⟩
      · try simp only [zZ] at hc26
        have hne : rs ≠ qs := fun e => by subst e; rw [hri] at hqi; exact hc26 (Option.some.inj hqi)
        rw [decide_eq_false hne]
        refine zQ (zR (zA rfl rfl (zE (wc_ret (wret (vs := [_]) (.tmp rfl .nil) ?_)))))
        exact ⟨rfl, hS⟩
      · try simp only [zZ] at hc26
        refine zK (zR (zM rfl rfl (wl (y_add rfl rfl (w64 (by omega) (by omega))) rfl (zA rfl rfl (zE ?_)))))
        exact ⟨i + 1, by omega, sub_cons rfl (sub_cons rfl (sub_cons rfl sub_nil)), by omega, take_eq_step hri hqi hk hc26, hS⟩
    · try simp only [zZ] at hc14
      obtain rfl : i = xs.length := by omega
      rw [e1, List.take_length, ← e1, hlen, e2, List.take_length] at hk
      rw [decide_eq_true hk]
      refine wc_exit (zQ (zR (zA rfl rfl (zE (wc_ret (wret (vs := [_]) (.tmp rfl .nil) ?_))))))
      exact ⟨rfl, hS⟩
end
end Go.Proofs.YtndahppmjdbifaaGreatDoor.Nod
set_option linter.unusedVariables false
set_option linter.unusedSimpArgs false
namespace Go.Proofs.YtndahppmjdbifaaGreatDoor.Nod
open Go Go.Proofs Go.Proofs.YtndahppmjdbifaaGreatDoor.Eng Go.Proofs.YtndahppmjdbifaaGreatDoor.Pre Go.Proofs.YtndahppmjdbifaaGreatDoor.Pak Go.Proofs.YtndahppmjdbifaaGreatDoor.Val Go.Proofs.YtndahppmjdbifaaGreatDoor.Rou Go.Proofs.YtndahppmjdbifaaGreatDoor.Fra Go.Proofs.YtndahppmjdbifaaGreatDoor.Snd Go.Proofs.YtndahppmjdbifaaGreatDoor.Lnk Go.Proofs.YtndahppmjdbifaaGreatDoor.Jnl Go.Proofs.YtndahppmjdbifaaGreatDoor.Cli Go.Proofs.YtndahppmjdbifaaGreatDoor.Sto
def mayB (c : Cfg) (origin : Int) (l : List Act) : Bool := decide (greatB c l = false ∧ mayC c = 0 ∧ 1 ≤ origin ∧ origin ≤ c.clients)
theorem greatB_ok {c : Cfg} {l : List Act} (h : greatB c l = false) : l.length ≤ 50 ∧ c.clients ≤ 4 ∧ ∀ a ∈ l, greatA a = false := by
  unfold greatB at h
  simp only [Bool.or_eq_false_iff, decide_eq_false_iff_not, List.any_eq_false, Bool.not_eq_true] at h
  exact ⟨by omega, by omega, h.2⟩
theorem greatA_ok {a : Act} (h : greatA a = false) : a.bytes.size ≤ 400 ∧ a.u.key.size ≤ 100 ∧ a.u.s.size ≤ 1200 := by
  unfold greatA greatU at h
  simp only [Bool.or_eq_false_iff, decide_eq_false_iff_not] at h
  omega
section
variable {M : Mem} {w : World} {Ls : List Chunk}
theorem great_c (c : Cfg) (l : List Act) (s : Value) (hl : Rd M encA s l) (hS : St M w Ls) : CallsR Tryz.prog 28 [cfgV c, s].toArray w fun v w' => v = .bool (greatB c l) ∧ St M w' Ls := by
  obtain ⟨sa, sc, rfl⟩ := (hl.holds hS).slice
  refine calls_of (c := _) (rs := _) (n := 31) Tryz.func28 rfl rfl rfl rfl rfl (zQ (zR (a_box rfl hS rfl fun b2 w hS => zA rfl rfl (zE (zQ (zQ (zR (zM rfl rfl (wl (y_len_sl Tryz.underlying24 rfl) rfl (wl (y_gtr rfl rfl) rfl (zM rfl rfl (wl_cases (s := 10) rfl (fun hg10 => ?_) (fun hg10 => ?_)))))))))))))
  · try simp only [zZ] at hg10
    have he : greatB c l = true := by unfold greatB; rw [decide_eq_true (by omega)]; rfl
    rw [he]
    refine zO rfl rfl rfl rfl (zO rfl rfl rfl rfl (zO rfl rfl rfl rfl (wl (y_pickT rfl rfl) rfl (zE (wc_ifT rfl rfl (zQ (zR (zA rfl rfl (zE (wc_ret (wret (vs := [_]) (.tmp rfl .nil) ?_)))))))))))
    exact ⟨rfl, hS.keep⟩
  · try simp only [zZ] at hg10
    refine zI rfl rfl (zF fl_23_0 rfl rfl (zI rfl rfl (wl (y_load pl_3 rfl (hS.cell (v := .int .i64 c.clients) rfl)) rfl (zI rfl rfl (wl (y_gtr rfl rfl) rfl (wl (y_pickF rfl rfl) rfl (zE (wc_if rfl (fun hc14 => ?_) (fun hc14 => ?_)))))))))
    · try simp only [zZ] at hc14
      have he : greatB c l = true := by unfold greatB; rw [decide_eq_true (by omega)]; rfl
      rw [he]
      refine zQ (zR (zA rfl rfl (zE (wc_ret (wret (vs := [_]) (.tmp rfl .nil) ?_)))))
      exact ⟨rfl, hS.keep⟩
    · try simp only [zZ] at hc14
      refine zK (zQ (zQ (zR (zM rfl rfl (wl (y_len_sl Tryz.underlying24 rfl) rfl (zM rfl rfl (zE (zB (wc_loop (α := Nat) (fun i => [(15, .slice sa l.length sc), (16, .int .i64 l.length), (17, .int .i64 i)]) (fun i w => i ≤ l.length ∧ (∀ a ∈ l.take i, greatA a = false) ∧ St M w Ls) (fun i => l.length - i) 0 (sub_cons rfl (sub_cons rfl (sub_cons rfl sub_nil))) ⟨by omega, by simp, hS.keep⟩ ?_)))))))))
      clear hS
      rintro i w ⟨hi, hq, hS⟩
      refine zQ (zR (wl (y_lss rfl rfl) rfl (zE (zQ (wc_if rfl (fun hc18 => ?_) (fun hc18 => ?_))))))
      · try simp only [zZ] at hc18
        refine zK (zQ (zB (zQ ?_)))
        have hi' : i < l.length := by omega
        obtain ⟨a, hai⟩ : ∃ a, l[i]? = some a := ⟨_, List.getElem?_eq_getElem hi'⟩
        obtain ⟨bb, off, c', hse, hce⟩ := (hl.holds hS).at hai
        simp only [Value.slice.injEq] at hse
        have hSk := hS
        obtain ⟨rfl, _, rfl⟩ := hse
        replace hS := hSk
        refine zR (wl (y_ixa_sl Tryz.underlying24 sz_61 rfl rfl (by omega) (by omega)) rfl (wl ((y_loadS st_61 sz_61 rfl (vs := encA.f a) hce rfl).val (show _ = aV a from rfl)) rfl (a_alloc z_61 hS rfl fun b6 w hS => a_storeS (vs := [_, _, _, _, _, _]) sz_61 rfl rfl rfl rfl hS (Nat.le_of_ble_eq_true rfl) fun w hS => zE (zQ (zR (zF fl_61_2 rfl rfl (wl (y_load pl_9 rfl (hS.cell (v := .string a.bytes) rfl)) rfl (wl (y_len_s Tryz.underlying9 rfl) rfl (wl (y_gtr rfl rfl) rfl (zM rfl rfl (wl_cases (s := 25) rfl (fun hg25 => ?_) (fun hg25 => ?_))))))))))))
        · try simp only [zZ] at hg25
          have hga : greatA a = true := by unfold greatA; rw [decide_eq_true (by omega)]; rfl
          have he : greatB c l = true := by unfold greatB; rw [List.any_eq_true.2 ⟨a, List.mem_of_getElem? hai, hga⟩, Bool.or_true]
          rw [he]
          refine zO rfl rfl rfl rfl (zO rfl rfl rfl rfl (zO rfl rfl rfl rfl (wl (y_pickT rfl rfl) rfl (zE (wc_ifT rfl rfl (zQ (zR (zA rfl rfl (zE (wc_ret (wret (vs := [_]) (.tmp rfl .nil) ?_)))))))))))
          exact ⟨rfl, hS.keep⟩
        · try simp only [zZ] at hg25
          refine zI rfl rfl (zF fl_61_1 rfl rfl (zI rfl rfl (wl ((y_loadS st_59 sz_59 rfl (vs := encU.f a.u) (hS.cells rfl) rfl).val (show _ = uv a.u from rfl)) rfl (zI rfl rfl (wl_call (.cons rfl .nil) (greatu_c a.u hS) rfl ?_)))))
          rintro _ w ⟨rfl, hS⟩
          refine wl (y_pickF rfl rfl) rfl (zE (wc_if rfl (fun hc29 => ?_) (fun hc29 => ?_)))
          · try simp only [zZ] at hc29
            have hga : greatA a = true := by unfold greatA; rw [hc29, Bool.or_true]
            have he : greatB c l = true := by unfold greatB; rw [List.any_eq_true.2 ⟨a, List.mem_of_getElem? hai, hga⟩, Bool.or_true]
            rw [he]
            refine zQ (zR (zA rfl rfl (zE (wc_ret (wret (vs := [_]) (.tmp rfl .nil) ?_)))))
            exact ⟨rfl, hS.keep⟩
          · try simp only [zZ] at hc29
            have hga : greatA a = false := by unfold greatA; rw [hc29, decide_eq_false (by omega)]; rfl
            refine zK (zR (wl (y_add rfl rfl (w64 (by omega) (by omega))) rfl (zM rfl rfl (zE ?_))))
            exact ⟨i + 1, by omega, sub_cons rfl (sub_cons rfl (sub_cons rfl sub_nil)), by omega, (by
              intro x hx
              rw [List.take_add_one, hai] at hx
              rcases List.mem_append.1 hx with hx | hx
              · exact hq x hx
              · simp at hx; subst hx; exact hga), hS.keep⟩
      · try simp only [zZ] at hc18
        obtain rfl : i = l.length := by omega
        rw [List.take_length] at hq
        have he : greatB c l = false := by
          unfold greatB
          rw [decide_eq_false (by omega), Bool.false_or, List.any_eq_false]
          intro x hx; rw [hq x hx]; decide
        rw [he]
        refine wc_exit (zQ (zR (zA rfl rfl (zE (wc_ret (wret (vs := [_]) (.tmp rfl .nil) ?_))))))
        exact ⟨rfl, hS.keep⟩
theorem may_c (c : Cfg) (origin : Int) (l : List Act) (s : Value) (hl : Rd M encA s l) (hS : St M w Ls) : CallsR Tryz.prog 11 [cfgV c, .int .i64 origin, s].toArray w fun v w' => v = .bool (mayB c origin l) ∧ St M w' Ls := by
  obtain ⟨sa, sc, rfl⟩ := (hl.holds hS).slice
  have fin : ∀ b : Bool, (b = true ↔ greatB c l = false ∧ mayC c = 0 ∧ 1 ≤ origin ∧ origin ≤ c.clients) → b = mayB c origin l := by
    intro b hb
    unfold mayB
    rw [Bool.eq_iff_iff, hb, decide_eq_true_iff]
  refine calls_of (c := _) (rs := _) (n := 25) Tryz.func11 rfl rfl rfl rfl rfl (zQ (zR (a_box rfl hS rfl fun b3 w hS => zA rfl rfl (zE (zQ (zR (wl ((y_loadS st_23 sz_23 rfl (vs := [.int .i64 c.clients, .int .i64 c.window, .int .i64 c.push, .int .i64 c.pull, .int .i64 c.mtu, .int .i64 c.last]) (hS.cells rfl) rfl).val (show _ = cfgV c from rfl)) rfl (zM rfl rfl (wl_call (.cons rfl (.cons rfl .nil)) (great_c c l _ hl hS) rfl ?_)))))))))
  rintro _ w ⟨rfl, hS⟩
  refine wl (y_not rfl) rfl (zM rfl rfl (wl_cases (s := 11) rfl (fun hg11 => ?_) (fun hg11 => ?_)))
  · try simp only [zZ] at hg11
    refine zI rfl rfl (wl ((y_loadS st_23 sz_23 rfl (vs := [.int .i64 c.clients, .int .i64 c.window, .int .i64 c.push, .int .i64 c.pull, .int .i64 c.mtu, .int .i64 c.last]) (hS.cells rfl) rfl).val (show _ = cfgV c from rfl)) rfl (zI rfl rfl (wl_call (.cons rfl .nil) (rmayc_c c hS) rfl ?_)))
    rintro _ w ⟨rfl, hS⟩
    refine wl (y_pickT rfl rfl) rfl (zM rfl rfl (wl_cases (s := 15) rfl (fun hg15 => ?_) (fun hg15 => ?_)))
    · try simp only [zZ] at hg15
      refine zI rfl rfl (zM rfl rfl (zI rfl rfl (wl (y_geq rfl rfl) rfl (wl (y_pickT rfl rfl) rfl (zM rfl rfl (wl_cases (s := 19) rfl (fun hg19 => ?_) (fun hg19 => ?_)))))))
      · try simp only [zZ] at hg19
        refine zI rfl rfl (zM rfl rfl (zI rfl rfl (zF fl_23_0 rfl rfl (zI rfl rfl (wl (y_load pl_3 rfl (hS.cell (v := .int .i64 c.clients) rfl)) rfl (zI rfl rfl (wl (y_leq rfl rfl) rfl (wl (y_pickT rfl rfl) rfl (zA rfl rfl (zE (wc_ret (wret (vs := [_]) (.tmp rfl .nil) ?_))))))))))))
        first
        | exact ⟨congrArg Value.bool (fin _ (by rw [decide_eq_true_iff]; exact ⟨fun h => ⟨hg11, hg15, hg19, h⟩, fun h => h.2.2.2⟩)), hS.keep⟩
        | exact ⟨congrArg Value.bool (fin _ ⟨fun h => absurd h (by decide), fun h => absurd h.2.2.1 (by omega)⟩), hS.keep⟩
        | exact ⟨congrArg Value.bool (fin _ ⟨fun h => absurd h (by decide), fun h => absurd h.2.1 hg15⟩), hS.keep⟩
        | exact ⟨congrArg Value.bool (fin _ ⟨fun h => absurd h (by decide), fun h => absurd h.1 (by rw [hg11]; decide)⟩), hS.keep⟩
      · try simp only [zZ] at hg19
        refine zO rfl rfl rfl rfl (zO rfl rfl rfl rfl (zO rfl rfl rfl rfl (zO rfl rfl rfl rfl (wl (y_pickF rfl rfl) rfl (zA rfl rfl (zE (wc_ret (wret (vs := [_]) (.tmp rfl .nil) ?_))))))))
        first
        | exact ⟨congrArg Value.bool (fin _ (by rw [decide_eq_true_iff]; exact ⟨fun h => ⟨hg11, hg15, hg19, h⟩, fun h => h.2.2.2⟩)), hS.keep⟩
        | exact ⟨congrArg Value.bool (fin _ ⟨fun h => absurd h (by decide), fun h => absurd h.2.2.1 (by omega)⟩), hS.keep⟩
        | exact ⟨congrArg Value.bool (fin _ ⟨fun h => absurd h (by decide), fun h => absurd h.2.1 hg15⟩), hS.keep⟩
        | exact ⟨congrArg Value.bool (fin _ ⟨fun h => absurd h (by decide), fun h => absurd h.1 (by rw [hg11]; decide)⟩), hS.keep⟩
    · try simp only [zZ] at hg15
      refine zO rfl rfl rfl rfl (zO rfl rfl rfl rfl (wl (y_pickF rfl rfl) rfl (zM rfl rfl (zO rfl rfl rfl rfl (zO rfl rfl rfl rfl (zO rfl rfl rfl rfl (zO rfl rfl rfl rfl (wl (y_pickF rfl rfl) rfl (zA rfl rfl (zE (wc_ret (wret (vs := [_]) (.tmp rfl .nil) ?_))))))))))))
      first
      | exact ⟨congrArg Value.bool (fin _ (by rw [decide_eq_true_iff]; exact ⟨fun h => ⟨hg11, hg15, hg19, h⟩, fun h => h.2.2.2⟩)), hS.keep⟩
      | exact ⟨congrArg Value.bool (fin _ ⟨fun h => absurd h (by decide), fun h => absurd h.2.2.1 (by omega)⟩), hS.keep⟩
      | exact ⟨congrArg Value.bool (fin _ ⟨fun h => absurd h (by decide), fun h => absurd h.2.1 hg15⟩), hS.keep⟩
      | exact ⟨congrArg Value.bool (fin _ ⟨fun h => absurd h (by decide), fun h => absurd h.1 (by rw [hg11]; decide)⟩), hS.keep⟩
  · try simp only [zZ] at hg11
    refine zO rfl rfl rfl rfl (zO rfl rfl rfl rfl (wl (y_pickF rfl rfl) rfl (zM rfl rfl (zO rfl rfl rfl rfl (zO rfl rfl rfl rfl (wl (y_pickF rfl rfl) rfl (zM rfl rfl (zO rfl rfl rfl rfl (zO rfl rfl rfl rfl (zO rfl rfl rfl rfl (zO rfl rfl rfl rfl (wl (y_pickF rfl rfl) rfl (zA rfl rfl (zE (wc_ret (wret (vs := [_]) (.tmp rfl .nil) ?_))))))))))))))))
    first
    | exact ⟨congrArg Value.bool (fin _ (by rw [decide_eq_true_iff]; exact ⟨fun h => ⟨hg11, hg15, hg19, h⟩, fun h => h.2.2.2⟩)), hS.keep⟩
    | exact ⟨congrArg Value.bool (fin _ ⟨fun h => absurd h (by decide), fun h => absurd h.2.2.1 (by omega)⟩), hS.keep⟩
    | exact ⟨congrArg Value.bool (fin _ ⟨fun h => absurd h (by decide), fun h => absurd h.2.1 hg15⟩), hS.keep⟩
    | exact ⟨congrArg Value.bool (fin _ ⟨fun h => absurd h (by decide), fun h => absurd h.1 (by rw [hg11]; decide)⟩), hS.keep⟩
end
end Go.Proofs.YtndahppmjdbifaaGreatDoor.Nod
set_option linter.unusedVariables false
set_option linter.unusedSimpArgs false
namespace Go.Proofs.YtndahppmjdbifaaGreatDoor.Nod
open Go Go.Proofs Go.Proofs.YtndahppmjdbifaaGreatDoor.Eng Go.Proofs.YtndahppmjdbifaaGreatDoor.Pre Go.Proofs.YtndahppmjdbifaaGreatDoor.Pak Go.Proofs.YtndahppmjdbifaaGreatDoor.Val Go.Proofs.YtndahppmjdbifaaGreatDoor.Rou Go.Proofs.YtndahppmjdbifaaGreatDoor.Fra Go.Proofs.YtndahppmjdbifaaGreatDoor.Snd Go.Proofs.YtndahppmjdbifaaGreatDoor.Lnk Go.Proofs.YtndahppmjdbifaaGreatDoor.Jnl Go.Proofs.YtndahppmjdbifaaGreatDoor.Cli Go.Proofs.YtndahppmjdbifaaGreatDoor.Sto
def cfg0 : Cfg := ⟨2, 2, 4, 2, 100, 2⟩
def u0 : Upd := ⟨⟨#[107]⟩, 1, 5, ByteArray.empty⟩
def aw1 : Nod := (Nod.new cfg0 1).upd u0
def aw2 : Nod := aw1.push
def aw3 : Nod := aw2.tick
def aw4 : Nod := aw3.reset
def aw5 : Nod := aw4.reset
def aw6 : Nod := aw5.tick
def aw7 : Nod := aw6.hear ⟨#[120]⟩
def aw8 : Nod := aw7.pull
theorem aw_may : mayC cfg0 = 0 := by kernel_rfl
theorem aw_e1 : newE cfg0 1 = 0 := by kernel_rfl
theorem aw_e3 : newE cfg0 3 = 11 := by kernel_rfl
theorem aw_e0 : newE ⟨0, 0, 0, 0, 0, 0⟩ 1 = 1 := by kernel_rfl
theorem aw_push : (aw1.own.pushR aw1.j).n = 1 ∧ aw1.own.pushE aw1.j = 0 := ⟨by kernel_rfl, by kernel_rfl⟩
theorem aw_tick : (aw2.tickP.map fun x => (x.frm, x.to_)) = [(1, 0)] := by kernel_rfl
theorem aw_reset : aw3.resetE = 0 := by kernel_rfl
theorem aw_reset2 : aw4.resetE = 8 := by kernel_rfl
theorem aw_tick2 : aw5.tickP.length = 1 := by kernel_rfl
theorem aw_look : aw6.look = ⟨2, 0, 1, 0, 0, 1⟩ := by kernel_rfl
theorem aw_read : (aw6.own.read ⟨#[107]⟩).n = 5 := by kernel_rfl
theorem aw_hear : aw6.hearE ⟨#[120]⟩ = 6 := by kernel_rfl
theorem aw_pull : aw7.pullN = 0 := by kernel_rfl
theorem aw_journal : (behind 0 aw8.j.l).length = 1 := by kernel_rfl
theorem aw_pend : aw8.own.pending.length = 1 := by kernel_rfl
end Go.Proofs.YtndahppmjdbifaaGreatDoor.Nod
set_option linter.unusedVariables false
set_option linter.unusedSimpArgs false
namespace Go.Proofs.YtndahppmjdbifaaGreatDoor.Nod
open Go Go.Proofs Go.Proofs.YtndahppmjdbifaaGreatDoor.Eng Go.Proofs.YtndahppmjdbifaaGreatDoor.Pre Go.Proofs.YtndahppmjdbifaaGreatDoor.Pak Go.Proofs.YtndahppmjdbifaaGreatDoor.Val Go.Proofs.YtndahppmjdbifaaGreatDoor.Rou Go.Proofs.YtndahppmjdbifaaGreatDoor.Fra Go.Proofs.YtndahppmjdbifaaGreatDoor.Snd Go.Proofs.YtndahppmjdbifaaGreatDoor.Lnk Go.Proofs.YtndahppmjdbifaaGreatDoor.Jnl Go.Proofs.YtndahppmjdbifaaGreatDoor.Cli Go.Proofs.YtndahppmjdbifaaGreatDoor.Sto
section
variable {M : Mem} {w : World} {Ls : List Chunk}
theorem config_c (hS : St M w Ls) : CallsR Tryz.prog 48 [].toArray w fun v w' => v = cfgV cfg0 ∧ St M w' Ls := by
  refine calls_of (c := _) (rs := _) (n := 2) Tryz.func48 rfl rfl rfl rfl rfl (zQ (zR (a_alloc z_23 hS rfl fun b0 w hS => zE (zQ (zR (wl (y_build (is := [0, 1, 2, 3, 4, 5]) (xs := [_, _, _, _, _, _]) (out := [_, _, _, _, _, _]) plc_23 z_23 (.cons rfl (.cons rfl (.cons rfl (.cons rfl (.cons rfl (.cons rfl .nil)))))) rfl) rfl (a_storeS (vs := [_, _, _, _, _, _]) sz_23 rfl rfl rfl rfl hS (Nat.le_of_ble_eq_true rfl) fun w hS => zE (wc_ret (wret (vs := [_]) (.cell rfl (loadVar_struct st_23 sz_23 (vs := [_, _, _, _, _, _]) rfl (hS.cells rfl)) .nil) ?_)))))))))
  exact ⟨rfl, hS.keep⟩
theorem awake_c (hG : Bits M) (hS : St M w Ls) : CallsR Tryz.prog 10 [].toArray w fun v w' => ∃ M', Mle M M' ∧ v = .bool true ∧ St M' w' Ls := by
  have i1 : aw1.inv 0 := Nod.upd_inv (Nod.new_inv aw_may 1) u0
  have i2 : aw2.inv 1 := Nod.push_inv i1
  have i3 : aw3.inv 1 := Nod.tick_inv i2
  have i4 : aw4.inv 1 := Nod.reset_inv i3
  have i5 : aw5.inv 1 := Nod.reset_inv i4
  have i6 : aw6.inv 1 := Nod.tick_inv i5
  have i7 : aw7.inv 1 := Nod.hear_inv i6 ⟨#[120]⟩ (by decide)
  have i8 : aw8.inv 2 := Nod.pull_inv i7
  refine calls_of (c := _) (rs := _) (n := 129) Tryz.func10 rfl rfl rfl rfl rfl (zQ (zR (zA rfl rfl (zE (zQ (zR (wl_call .nil (config_c hS) rfl ?_)))))))
  rintro _ w ⟨rfl, hS⟩
  refine wl_call (.cons rfl (.cons rfl .nil)) (nnew_c cfg0 1 hS) rfl ?_
  rintro v w ⟨M1, hM1, ⟨h0, _⟩ | ⟨_, p, H, rfl, n0, hS⟩⟩
  · exact absurd aw_e1 h0
  refine zM rfl rfl (zX (vs := [_, _]) rfl rfl rfl (zX (vs := [_, _]) rfl rfl rfl (zA rfl rfl (zA rfl rfl (zE (zQ (zR (wl_call .nil (config_c hS) rfl ?_))))))))
  rintro _ w ⟨rfl, hS⟩
  refine wl_call (.cons rfl (.cons rfl .nil)) (nnew_c cfg0 3 hS) rfl ?_
  rintro v w ⟨M2, hM2, ⟨_, rfl, hS⟩ | ⟨h0, _⟩⟩
  rotate_left
  · exact absurd (aw_e3.symm.trans h0) (by decide)
  rw [aw_e3]
  refine zM rfl rfl (zX (vs := [_, _]) rfl rfl rfl (zX (vs := [_, _]) rfl rfl rfl (zA rfl rfl (zA rfl rfl (zE (zQ (zR (wl (y_build (is := []) (xs := []) (out := [_, _, _, _, _, _]) plc_23 z_23 .nil rfl) rfl (wl_call (.cons rfl (.cons rfl .nil)) (nnew_c ⟨0, 0, 0, 0, 0, 0⟩ 1 hS) rfl ?_)))))))))
  rintro v w ⟨M3, hM3, ⟨_, rfl, hS⟩ | ⟨h0, _⟩⟩
  rotate_left
  · exact absurd (aw_e0.symm.trans h0) (by decide)
  rw [aw_e0]
  have hM := hM1.trans (hM2.trans hM3)
  replace n0 := n0.mono (hM2.trans hM3)
  refine zM rfl rfl (zX (vs := [_, _]) rfl rfl rfl (zX (vs := [_, _]) rfl rfl rfl (zA rfl rfl (zA rfl rfl (zE (zQ (zQ (zR (zM rfl rfl (wl ((y_neq rfl rfl).val (u := .bool false) rfl) rfl (zM rfl rfl (zI rfl rfl (zM rfl rfl (zI rfl rfl (wl ((y_pnil Tryz.underlying27 rfl rfl).val (u := .bool false) rfl) rfl (wl (y_pickF rfl rfl) rfl (zM rfl rfl (zI rfl rfl (zM rfl rfl (zI rfl rfl (wl ((y_neq rfl rfl).val (u := .bool false) rfl) rfl (wl (y_pickF rfl rfl) rfl (zM rfl rfl (zI rfl rfl (zM rfl rfl (zI rfl rfl (wl ((y_neq rfl rfl).val (u := .bool false) rfl) rfl (wl (y_pickF rfl rfl) rfl (zE (wc_ifF rfl rfl (zK (zQ (zR (zM rfl rfl (wl (y_build (is := [0, 1, 2]) (xs := [_, _, _]) (out := [_, _, _, _]) plc_59 z_59 (.cons rfl (.cons rfl (.cons rfl .nil))) rfl) rfl (wl_call (.cons rfl (.cons rfl .nil)) (nupd_c (hG.mono hM) u0 (by decide) (by decide) n0 (hS.pull H)) rfl ?_))))))))))))))))))))))))))))))))))))
  rintro _ w ⟨M4, H4, hM4, rfl, n1, hS⟩
  refine zE (zQ (zR (zM rfl rfl (wl_call (.cons rfl .nil) (npush_c (m := aw1) (by have := i1.small (by omega); unfold Nod.small at this; omega) (by have := i1.small (by omega); unfold Nod.small at this; omega) (by have := i1.small (by omega); unfold Nod.small at this; omega) n1 (hS.pull H4)) rfl ?_))))
  rintro _ w ⟨M5, H5, hM5, rfl, n2, hS⟩
  rw [aw_push.1, aw_push.2]
  refine zM rfl rfl (zX (vs := [_, _]) rfl rfl rfl (zX (vs := [_, _]) rfl rfl rfl (zA rfl rfl (zA rfl rfl (zE (zQ (zR (zM rfl rfl (wl_call (.cons rfl .nil) (ntick_c (m := aw2) (((hG.mono hM).mono hM4).mono hM5) i2.k (i2.small (by omega)) i2.frames n2 (hS.pull H5)) rfl ?_)))))))))
  rintro _ w ⟨M6, H6, Hp, hM6, hp, n3, hS⟩
  have hp0 := aw_tick
  have hpl : aw2.tickP.length = 1 := by have := congrArg List.length hp0; simpa using this
  obtain ⟨x0, hx0⟩ : ∃ x, aw2.tickP[0]? = some x := ⟨_, List.getElem?_eq_getElem (by omega)⟩
  have hx1 : x0.frm = 1 ∧ x0.to_ = 0 := by
    have := congrArg (fun l => l[0]?) hp0
    simp only [List.getElem?_map, hx0, Option.map_some] at this
    simpa using this
  obtain ⟨pa, pc, rfl⟩ := hp.slice
  obtain ⟨bb, off, c', hse, _⟩ := (hp.holds (hS.pull Hp)).at hx0
  simp only [Value.slice.injEq] at hse
  have hSk := hS
  obtain ⟨rfl, _, rfl⟩ := hse
  replace hS := hSk
  rw [hpl]
  refine zA rfl rfl (zE (zQ (zR (zM rfl rfl (wl_call (.cons rfl .nil) (nreset_c (m := aw3) (by have := mayC_ok i3.c; omega) (by have := i3.small (by omega); unfold Nod.small at this; omega) n3 (hS.pull H6)) rfl ?_)))))
  rintro _ w ⟨M7, H7, hM7, rfl, n4, hS⟩
  rw [aw_reset]
  refine zA rfl rfl (zE (zQ (zR (zM rfl rfl (wl_call (.cons rfl .nil) (nreset_c (m := aw4) (by have := mayC_ok i4.c; omega) (by have := i4.small (by omega); unfold Nod.small at this; omega) n4 (hS.pull H7)) rfl ?_)))))
  rintro _ w ⟨M8, H8, hM8, rfl, n5, hS⟩
  rw [aw_reset2]
  refine zA rfl rfl (zE (zQ (zR (zM rfl rfl (wl_call (.cons rfl .nil) (ntick_c (m := aw5) (((((((hG.mono hM).mono hM4).mono hM5).mono hM6).mono hM7).mono hM8)) i5.k (i5.small (by omega)) i5.frames n5 (hS.pull H8)) rfl ?_)))))
  rintro _ w ⟨M9, H9, Hq, hM9, hq, n6, hS⟩
  obtain ⟨qa, qc, rfl⟩ := hq.slice
  rw [aw_tick2]
  refine zA rfl rfl (zE (zQ (zR (zM rfl rfl (wl ((y_eql rfl rfl).val (u := .bool true) rfl) rfl (zM rfl rfl (zI rfl rfl (zM rfl rfl (zI rfl rfl (wl ((y_eql rfl rfl).val (u := .bool true) rfl) rfl (wl (y_pickT rfl rfl) rfl (zM rfl rfl (zI rfl rfl (zM rfl rfl (zI rfl rfl (wl (y_len_sl Tryz.underlying37 rfl) rfl (zI rfl rfl (wl ((y_eql rfl rfl).val (u := .bool true) rfl) rfl (wl (y_pickT rfl rfl) rfl (zM rfl rfl (zI rfl rfl (zM rfl rfl (zI rfl rfl (wl (y_ixa_sl Tryz.underlying37 sz_40 rfl rfl (by omega) (by omega)) rfl (zI rfl rfl (zF fl_40_0 rfl rfl (zI rfl rfl (wl (y_load pl_3 rfl ((hp.holds (hS.pull Hp)).cellAt hx0 (j := 0) rfl)) rfl (zI rfl rfl (wl ((y_eql rfl rfl).val (u := .bool true) (congrArg Value.bool (decide_eq_true hx1.1))) rfl (wl (y_pickT rfl rfl) rfl (zM rfl rfl (zI rfl rfl (zM rfl rfl (zI rfl rfl (wl (y_ixa_sl Tryz.underlying37 sz_40 rfl rfl (by omega) (by omega)) rfl (zI rfl rfl (zF fl_40_1 rfl rfl (zI rfl rfl (wl (y_load pl_3 rfl ((hp.holds (hS.pull Hp)).cellAt hx0 (j := 1) rfl)) rfl (zI rfl rfl (wl ((y_eql rfl rfl).val (u := .bool true) (congrArg Value.bool (decide_eq_true hx1.2))) rfl (wl (y_pickT rfl rfl) rfl (zM rfl rfl (zI rfl rfl (zM rfl rfl (zI rfl rfl (wl ((y_eql rfl rfl).val (u := .bool true) rfl) rfl (wl (y_pickT rfl rfl) rfl (zM rfl rfl (zI rfl rfl (zM rfl rfl (zI rfl rfl (wl ((y_eql rfl rfl).val (u := .bool true) rfl) rfl (wl (y_pickT rfl rfl) rfl (zM rfl rfl (zI rfl rfl (zM rfl rfl (zI rfl rfl ?_)))))))))))))))))))))))))))))))))))))))))))))))))))))))))))
  refine wl (y_len_sl Tryz.underlying37 rfl) rfl (zI rfl rfl (wl ((y_eql rfl rfl).val (u := .bool true) rfl) rfl (wl (y_pickT rfl rfl) rfl (zM rfl rfl (zI rfl rfl (zM rfl rfl (zI rfl rfl (wl_call (.cons rfl .nil) (nlook_c (m := aw6) (i6.small (by omega)) n6 (hS.pull H9)) rfl ?_))))))))
  rintro _ w ⟨M10, hM10, rfl, n6, hS⟩
  rw [aw_look]
  refine zI rfl rfl (wl (y_build (is := [0, 2, 5]) (xs := [_, _, _]) (out := [_, _, _, _, _, _]) plc_30 z_30 (.cons rfl (.cons rfl (.cons rfl .nil))) rfl) rfl (zI rfl rfl (wl ((y_eqS Tryz.eqGuardType30 rfl rfl (eq_30 _ _ _ _ _ _ _ _ _ _ _ _)).val (u := .bool true) rfl) rfl (wl (y_pickT rfl rfl) rfl (zM rfl rfl (zI rfl rfl (zM rfl rfl (zI rfl rfl (wl_call (.cons rfl (.cons rfl .nil)) (nread_c (m := aw6) ⟨#[107]⟩ (i6.small (by omega)) n6 hS) rfl ?_)))))))))
  rintro _ w ⟨rfl, hS⟩
  refine zI rfl rfl (wl (y_field fl_65_1 pl_2 rfl rfl) rfl (zI rfl rfl (wl ((y_eql rfl rfl).val (u := .bool true) (congrArg Value.bool (decide_eq_true aw_read))) rfl (wl (y_pickT rfl rfl) rfl (zM rfl rfl (zI rfl rfl (zM rfl rfl (zI rfl rfl (wl_call (.cons rfl (.cons rfl .nil)) (nhear_c (m := aw6) ((((((((hG.mono hM).mono hM4).mono hM5).mono hM6).mono hM7).mono hM8).mono hM9).mono hM10) ⟨#[120]⟩ (by decide) i6.k n6 hS) rfl ?_)))))))))
  rintro _ w ⟨H11, rfl, n7, hS⟩
  rw [aw_hear]
  refine zI rfl rfl (wl ((y_eql rfl rfl).val (u := .bool true) rfl) rfl (wl (y_pickT rfl rfl) rfl (zM rfl rfl (zI rfl rfl (zM rfl rfl (zI rfl rfl (wl_call (.cons rfl .nil) (npull_c (m := aw7) ((((((((hG.mono hM).mono hM4).mono hM5).mono hM6).mono hM7).mono hM8).mono hM9).mono hM10) i7.k (i7.small (by omega)) i7.rd n7 hS) rfl ?_)))))))
  rintro _ w ⟨M12, H12, hM12, rfl, n8, hS⟩
  rw [aw_pull]
  refine zI rfl rfl (wl ((y_eql rfl rfl).val (u := .bool true) rfl) rfl (wl (y_pickT rfl rfl) rfl (zM rfl rfl (zI rfl rfl (zM rfl rfl (zI rfl rfl (wl_call (.cons rfl .nil) (njournal_c (m := aw8) (by have := i8.small (by omega); unfold Nod.small at this; omega) n8 hS) rfl ?_)))))))
  rintro v w ⟨M13, ys, H13, hM13, hoj, hrj, n8, hS⟩
  have hjl : ys.length = 1 := hrj.len.trans aw_journal
  obtain ⟨ja, jc, rfl⟩ := hoj.slice
  refine zI rfl rfl (wl (y_len_sl Tryz.underlying32 rfl) rfl (zI rfl rfl (wl ((y_eql rfl rfl).val (u := .bool true) (congrArg Value.bool (decide_eq_true (by rw [hjl]; rfl)))) rfl (wl (y_pickT rfl rfl) rfl (zM rfl rfl (zI rfl rfl (zM rfl rfl (zI rfl rfl (wl_call (.cons rfl .nil) (nconf_c (m := aw8) n8 (hS.pull H12)) rfl ?_)))))))))
  rintro _ w ⟨rfl, hS⟩
  rw [decide_eq_false (fun h => by have := aw_pend; rw [h.1] at this; cases this)]
  refine zI rfl rfl (wl (y_not rfl) rfl (wl (y_pickT rfl rfl) rfl (zA rfl rfl (zE (wc_ret (wret (vs := [_]) (.tmp rfl .nil) ?_))))))
  exact ⟨M13, (((((((((hM.trans hM4).trans hM5).trans hM6).trans hM7).trans hM8).trans hM9).trans hM10).trans hM12).trans hM13), rfl, hS.keep⟩
end
end Go.Proofs.YtndahppmjdbifaaGreatDoor.Nod
set_option linter.unusedVariables false
set_option linter.unusedSimpArgs false
namespace Go.Proofs.YtndahppmjdbifaaGreatDoor.Nod
open Go Go.Proofs Go.Proofs.YtndahppmjdbifaaGreatDoor.Eng Go.Proofs.YtndahppmjdbifaaGreatDoor.Pre Go.Proofs.YtndahppmjdbifaaGreatDoor.Pak Go.Proofs.YtndahppmjdbifaaGreatDoor.Val Go.Proofs.YtndahppmjdbifaaGreatDoor.Rou Go.Proofs.YtndahppmjdbifaaGreatDoor.Fra Go.Proofs.YtndahppmjdbifaaGreatDoor.Snd Go.Proofs.YtndahppmjdbifaaGreatDoor.Lnk Go.Proofs.YtndahppmjdbifaaGreatDoor.Jnl Go.Proofs.YtndahppmjdbifaaGreatDoor.Cli Go.Proofs.YtndahppmjdbifaaGreatDoor.Sto
abbrev cfgL (c : Cfg) : List Value := [.int .i64 c.clients, .int .i64 c.window, .int .i64 c.push, .int .i64 c.pull, .int .i64 c.mtu, .int .i64 c.last]
section
variable {M : Mem} {w : World} {Ls : List Chunk}
end
end Go.Proofs.YtndahppmjdbifaaGreatDoor.Nod
set_option linter.unusedVariables false
set_option linter.unusedSimpArgs false
namespace Go.Proofs.YtndahppmjdbifaaGreatDoor.Nod
open Go Go.Proofs Go.Proofs.YtndahppmjdbifaaGreatDoor.Eng Go.Proofs.YtndahppmjdbifaaGreatDoor.Pre Go.Proofs.YtndahppmjdbifaaGreatDoor.Pak Go.Proofs.YtndahppmjdbifaaGreatDoor.Val Go.Proofs.YtndahppmjdbifaaGreatDoor.Rou Go.Proofs.YtndahppmjdbifaaGreatDoor.Fra Go.Proofs.YtndahppmjdbifaaGreatDoor.Snd Go.Proofs.YtndahppmjdbifaaGreatDoor.Lnk Go.Proofs.YtndahppmjdbifaaGreatDoor.Jnl Go.Proofs.YtndahppmjdbifaaGreatDoor.Cli Go.Proofs.YtndahppmjdbifaaGreatDoor.Sto
theorem _root_.Go.Proofs.YtndahppmjdbifaaGreatDoor.Jnl.Rvs.take {M : Mem} {xs : List RV} {rs : List Rnd} (h : Rvs M xs rs) (k : Nat) : Rvs M (xs.take k) (rs.take k) := by
  induction h generalizing k with
  | nil => simpa using Rvs.nil
  | cons h h2 ih =>
    cases k with
    | zero => exact .nil
    | succ k => exact .cons h (ih k)
structure Nod.wide (m : Nod) : Prop where
  room : m.k.r.room = (min (max m.c.pull 1) 16).toNat
  win : m.k.s.win = (min (max m.c.window 1) 16).toNat
  pas : m.k.pas = false
theorem Nod.new_wide (c : Cfg) (o : Int) : (Nod.new c o).wide := ⟨rfl, rfl, rfl⟩
theorem offl_win (l : List Rnd) (k : Lnk) (n : Nat) : (offl l k n).1.s.win = k.s.win ∧ (offl l k n).1.s.acked = k.s.acked := by
  induction l generalizing k n with
  | nil => exact ⟨rfl, rfl⟩
  | cons r l ih =>
    simp only [offl]
    split
    · rename_i he
      obtain ⟨h1, h2⟩ := ih (k.offer (putB r)) (n + 1)
      refine ⟨h1.trans ?_, h2.trans ?_⟩ <;> (unfold Lnk.offer Snd.offer; simp only []; split <;> rfl)
    · exact ⟨rfl, rfl⟩
theorem Lnk.hear_wide {k : Lnk} {f : Frm} (hp : k.pas = false) : (k.hear f).r.room = k.r.room ∧ (k.hear f).s.win = k.s.win ∧ (k.hear f).pas = false ∧ (k.hear f).ep = k.ep ∧ (k.hear f).win = k.win ∧ (k.hear f).room = k.room := by
  unfold Lnk.hear
  split
  · exact ⟨rfl, rfl, hp, rfl, rfl, rfl⟩
  · split
    · rw [if_neg (by rw [hp]; decide)]; exact ⟨rfl, rfl, hp, rfl, rfl, rfl⟩
    · unfold Lnk.hear2
      refine ⟨?_, ?_, hp, rfl, rfl, rfl⟩
      · simp only; split
        · rfl
        · unfold Rcv.hear; split <;> rfl
      · simp only; unfold Snd.ack; split <;> rfl
theorem Nod.act_wide {m : Nod} (h : m.wide) (a : Act) : (m.act a).wide ∧ (m.act a).c = m.c ∧ (m.act a).origin = m.origin := by
  unfold Nod.act
  split; · exact ⟨⟨h.1, h.2, h.3⟩, rfl, rfl⟩
  split; · exact ⟨⟨h.1, h.2, h.3⟩, rfl, rfl⟩
  split; · exact ⟨⟨h.1, h.2, h.3⟩, rfl, rfl⟩
  split
  · unfold Nod.reset
    split
    · exact ⟨⟨rfl, rfl, rfl⟩, rfl, rfl⟩
    · exact ⟨h, rfl, rfl⟩
  split
  · unfold Nod.hear
    split
    · obtain ⟨h1, h2, h3, _⟩ := Lnk.hear_wide (f := fget a.bytes) h.pas
      exact ⟨⟨h1.trans h.1, h2.trans h.2, h3⟩, rfl, rfl⟩
    · exact ⟨h, rfl, rfl⟩
  split
  · refine ⟨⟨?_, ?_, ?_⟩, rfl, rfl⟩
    · exact (congrArg Rcv.room (offl_r _ _ _).1).trans h.1
    · exact (offl_win _ _ _).1.trans h.2
    · exact (offl_r _ _ _).2.2.2.2.trans h.3
  · exact ⟨h, rfl, rfl⟩
theorem pull_wait (m : Nod) (h : m.k.ok) : m.pull.k.r.wait = 0 := by
  obtain ⟨_, _, h3⟩ := h
  unfold Rcv.ok at h3
  unfold Nod.pull Lnk.pops Rcv.wait
  simp only
  unfold Rcv.wait at h3
  omega
section
variable {M : Mem} {w : World} {Ls : List Chunk}
end
end Go.Proofs.YtndahppmjdbifaaGreatDoor.Nod
set_option linter.unusedVariables false
set_option linter.unusedSimpArgs false
namespace Go.Proofs.YtndahppmjdbifaaGreatDoor.Pak
open Go Go.Proofs Go.Proofs.YtndahppmjdbifaaGreatDoor.Eng Go.Proofs.YtndahppmjdbifaaGreatDoor.Pre
section
variable {M : Mem} {w : World} {Ls : List Chunk}
def get1V (at_ : Nat) (x : Nat × Nat × Nat) : Value := .tuple [.int .u64 x.1, .int .i64 ((if x.2.2 = 0 then at_ + x.2.1 else 0 : Nat)), .int .i64 x.2.2].toArray
end
end Go.Proofs.YtndahppmjdbifaaGreatDoor.Pak
set_option linter.unusedVariables false
set_option linter.unusedSimpArgs false
namespace Go.Proofs.YtndahppmjdbifaaGreatDoor.Pak
open Go Go.Proofs Go.Proofs.YtndahppmjdbifaaGreatDoor.Eng Go.Proofs.YtndahppmjdbifaaGreatDoor.Pre
theorem rraw_v {r : Rdr} (h : (rraw r).2.e ≠ 0) : (rraw r).1 = 0 := by
  unfold rraw at h ⊢
  split
  · rfl
  · split
    · rfl
    · rename_i h1 h2
      rw [if_neg h1, if_neg h2] at h
      exact absurd h h1
theorem rfail_e {r : Rdr} (h : r.e ≠ 0) (n : Nat) : rfail r n = r := by unfold rfail; rw [if_neg h]
theorem rnum_v {r : Rdr} {lim : Nat} (h : (rnum r lim).2.e ≠ 0) : (rnum r lim).1 = 0 := by
  unfold rnum at h ⊢
  split
  · rfl
  · rename_i h1; rw [if_neg h1] at h; exact rraw_v h
def rdrQ (r : Rdr) : Obj := .cells #[.string r.b, .int .i64 r.at_, .int .i64 r.e] 120
section
variable {M : Mem} {w : World} {Ls : List Chunk}
end
end Go.Proofs.YtndahppmjdbifaaGreatDoor.Pak
set_option linter.unusedVariables false
set_option linter.unusedSimpArgs false
namespace Go.Proofs.YtndahppmjdbifaaGreatDoor.Fra
open Go Go.Proofs Go.Proofs.YtndahppmjdbifaaGreatDoor.Eng Go.Proofs.YtndahppmjdbifaaGreatDoor.Pre Go.Proofs.YtndahppmjdbifaaGreatDoor.Pak Go.Proofs.YtndahppmjdbifaaGreatDoor.Crc
theorem rtext_v {r : Rdr} {lim : Nat} (h : (rtext r lim).2.e ≠ 0) : (rtext r lim).1 = ByteArray.empty := by
  have hq : rtext r lim = if (rnum r lim).1 > (rnum r lim).2.b.size - (rnum r lim).2.at_ then (ByteArray.empty, rfail (rnum r lim).2 2) else ((rnum r lim).2.b.extract (rnum r lim).2.at_ ((rnum r lim).2.at_ + (rnum r lim).1), ⟨(rnum r lim).2.b, (rnum r lim).2.at_ + (rnum r lim).1, (rnum r lim).2.e⟩) := by unfold rtext; rfl
  rw [hq] at h ⊢
  split
  · rfl
  · rename_i hc
    rw [if_neg hc] at h
    simp only at h ⊢
    rw [rnum_v h]
    exact bytes_eq (by simp [ByteArray.data_extract])
theorem fg1'_eq {s : ByteArray} (h : (fg1 s).2.e ≠ 0 ∨ (fg1 s).1 ≠ 0) : fg1' s = (fg1 s).2 := by
  unfold fg1'
  split
  · rename_i h0
    rcases h with h | h
    · exact rfail_e h 1
    · exact absurd h0 h
  · rfl
theorem fge_end {s : ByteArray} (h : (fg4 s).2.e ≠ 0 ∨ (fg2 s).1 ≠ 0 ∨ (fg4 s).1 = ⟨#[]⟩) : fge s = (rend (fg4 s).2).e := by
  have e5 : fg5 s = (fg4 s).2 := by
    unfold fg5
    split
    · rename_i hd
      split
      · rename_i h0
        rcases h with h | h | h
        · exact absurd (by unfold fg4 at h ⊢; exact rtext_v h) hd
        · exact absurd h0 h
        · exact absurd h hd
      · rfl
    · rfl
  unfold fge
  rw [e5]
section
variable {M : Mem} {w : World} {Ls : List Chunk}
abbrev fvO (f : Frm) : Obj := .cells #[.int .i64 f.ep, .int .i64 f.seq, .int .i64 f.ack, .string f.data] 42
end
end Go.Proofs.YtndahppmjdbifaaGreatDoor.Fra
set_option linter.unusedVariables false
set_option linter.unusedSimpArgs false
namespace Go.Proofs.YtndahppmjdbifaaGreatDoor.Nod
open Go Go.Proofs Go.Proofs.YtndahppmjdbifaaGreatDoor.Eng Go.Proofs.YtndahppmjdbifaaGreatDoor.Pre Go.Proofs.YtndahppmjdbifaaGreatDoor.Pak Go.Proofs.YtndahppmjdbifaaGreatDoor.Val Go.Proofs.YtndahppmjdbifaaGreatDoor.Rou Go.Proofs.YtndahppmjdbifaaGreatDoor.Fra Go.Proofs.YtndahppmjdbifaaGreatDoor.Snd Go.Proofs.YtndahppmjdbifaaGreatDoor.Lnk Go.Proofs.YtndahppmjdbifaaGreatDoor.Jnl Go.Proofs.YtndahppmjdbifaaGreatDoor.Cli Go.Proofs.YtndahppmjdbifaaGreatDoor.Sto
theorem offl_end (l : List Rnd) (k : Lnk) (n : Nat) : (offl l k n).2 = n + l.length ∨ (offl l k n).1.s.offerE ≠ 0 := by
  induction l generalizing k n with
  | nil => exact .inl rfl
  | cons r l ih =>
    simp only [offl]
    split
    · rcases ih (k.offer (putB r)) (n + 1) with h | h
      · exact .inl (by rw [h, List.length_cons]; omega)
      · exact .inr h
    · rename_i h; exact .inr h
theorem Nod.tick_ep (m : Nod) : m.tick.k.ep = m.k.ep := (offl_r _ _ _).2.1
theorem hearE_ne {m : Nod} {b : ByteArray} (h : ¬ (fgetE b = 0 ∧ (fget b).ep = m.k.ep)) : m.hearE b ≠ 0 ∧ m.hear b = m := by
  have h1 : m.hearE b ≠ 0 := by
    unfold Nod.hearE
    split
    · assumption
    · rename_i h0
      rw [if_pos (fun h2 => h ⟨by omega, h2⟩)]
      decide
  exact ⟨h1, by unfold Nod.hear; rw [if_neg h1]⟩
section
variable {M : Mem} {w : World} {Ls : List Chunk}
end
end Go.Proofs.YtndahppmjdbifaaGreatDoor.Nod
set_option linter.unusedVariables false
set_option linter.unusedSimpArgs false
namespace Go.Proofs.YtndahppmjdbifaaGreatDoor.Pak
open Go Go.Proofs Go.Proofs.YtndahppmjdbifaaGreatDoor.Eng Go.Proofs.YtndahppmjdbifaaGreatDoor.Pre
theorem un_be (x y : Nat) : ∀ j, un x (be y j) = x * 256 ^ j + y % 256 ^ j := by
  intro j
  induction j generalizing y with
  | zero => simp [be, un, Nat.mod_one]
  | succ j ih =>
    simp only [be]
    rw [un_append, ih]
    simp only [un]
    rw [show (UInt8.ofNat y).toNat = y % 256 from by simp [UInt8.toNat_ofNat']]
    have h1 : y % 256 ^ (j + 1) = 256 * (y / 256 % 256 ^ j) + y % 256 := by
      rw [Nat.pow_succ, Nat.mul_comm (256 ^ j) 256, Nat.mod_mul]; omega
    rw [h1, Nat.pow_succ]
    have h2 : x * (256 ^ j * 256) = 256 * (x * 256 ^ j) := by rw [← Nat.mul_assoc]; omega
    rw [h2]
    omega
theorem be_cons (y : Nat) : ∀ j, be y (j + 1) = UInt8.ofNat (y / 256 ^ j) :: be y j := by
  intro j
  induction j generalizing y with
  | zero => simp [be]
  | succ j ih =>
    rw [show be y (j + 1 + 1) = be (y / 256) (j + 1) ++ [UInt8.ofNat y] from rfl, ih]
    rw [Nat.div_div_eq_div_mul, List.cons_append]
    rw [show 256 * 256 ^ j = 256 ^ (j + 1) by rw [Nat.pow_succ, Nat.mul_comm]]
    rfl
theorem spell_bound (n : Nat) (h : n < 4611686018427387904) : spell n ≤ 3 ∧ n < 64 * 256 ^ (2 ^ spell n - 1) := by
  unfold spell
  (repeat' split) <;> simp <;> omega
theorem pget_put (n : Nat) (h : n < 4611686018427387904) (l : List UInt8) : pget (pput n ++ l) = (n, (pput n).length, 0) := by
  obtain ⟨h3, hb⟩ := spell_bound n h
  have hps : psize n = 2 ^ spell n := by unfold psize; rw [if_pos h]
  have hlen : (pput n).length = 2 ^ spell n := by unfold pput; rw [be_length, hps]
  generalize hsp : spell n = sp at h3 hb hps hlen
  have key : ∀ k, 2 ^ sp = k + 1 → (∃ c : UInt8, pput n = c :: be (pnum n) k ∧ c.toNat / 64 = sp ∧ un (c.toNat % 64) (be (pnum n) k) = n) := by
    intro k hk
    refine ⟨UInt8.ofNat (pnum n / 256 ^ k), ?_, ?_⟩
    · unfold pput; rw [hps, hk, be_cons]
    · rw [un_be, show (UInt8.ofNat (pnum n / 256 ^ k)).toNat = pnum n / 256 ^ k % 256 from by simp [UInt8.toNat_ofNat']]
      unfold pnum
      rw [hps, hsp]
      rcases sp with _ | _ | _ | _ | sp
      · obtain rfl : k = 0 := by omega
        simp at hb ⊢; omega
      · obtain rfl : k = 1 := by omega
        simp at hb ⊢; omega
      · obtain rfl : k = 3 := by omega
        simp at hb ⊢; omega
      · obtain rfl : k = 7 := by omega
        simp at hb ⊢; omega
      · omega
  have hp1 : 1 ≤ 2 ^ sp := Nat.pow_pos (by omega)
  obtain ⟨c, h1, h2, h4⟩ := key (2 ^ sp - 1) (by omega)
  rw [hlen]
  have hl2 : (pput n ++ l).length = 2 ^ sp + l.length := by rw [List.length_append, hlen]
  rw [h1, List.cons_append] at hl2 ⊢
  have e : pget (c :: (be (pnum n) (2 ^ sp - 1) ++ l)) = if (c :: (be (pnum n) (2 ^ sp - 1) ++ l)).length < 2 ^ (c.toNat / 64) then (0, 0, 2) else if psize (un (c.toNat % 64) ((be (pnum n) (2 ^ sp - 1) ++ l).take (2 ^ (c.toNat / 64) - 1))) = 2 ^ (c.toNat / 64) then (un (c.toNat % 64) ((be (pnum n) (2 ^ sp - 1) ++ l).take (2 ^ (c.toNat / 64) - 1)), 2 ^ (c.toNat / 64), 0) else (0, 0, 3) := rfl
  rw [e, h2, if_neg (by omega), List.take_left' (be_length _ _), h4, hps, if_pos rfl]
theorem rraw_put {s : ByteArray} {at_ n : Nat} {l : List UInt8} (h : n < 4611686018427387904) (hd : s.data.toList.drop at_ = pput n ++ l) : rraw ⟨s, at_, 0⟩ = (n, ⟨s, at_ + (pput n).length, 0⟩) ∧ s.data.toList.drop (at_ + (pput n).length) = l := by
  refine ⟨?_, ?_⟩
  · unfold rraw rest
    simp only [hd, pget_put n h l]
    simp
  · rw [← List.drop_drop, hd, List.drop_left' rfl]
theorem rnum_put {s : ByteArray} {at_ n lim : Nat} {l : List UInt8} (h : n < 4611686018427387904) (hl : n ≤ lim) (hd : s.data.toList.drop at_ = pput n ++ l) : rnum ⟨s, at_, 0⟩ lim = (n, ⟨s, at_ + (pput n).length, 0⟩) ∧ s.data.toList.drop (at_ + (pput n).length) = l := by
  obtain ⟨h1, h2⟩ := rraw_put h hd
  refine ⟨?_, h2⟩
  unfold rnum
  rw [h1]
  simp only
  rw [if_neg (by omega)]
theorem rtext_put {s d : ByteArray} {at_ lim : Nat} {l : List UInt8} (h : d.size < 4611686018427387904) (hl : d.size ≤ lim) (hd : s.data.toList.drop at_ = ptext d ++ l) : rtext ⟨s, at_, 0⟩ lim = (d, ⟨s, at_ + (ptext d).length, 0⟩) ∧ s.data.toList.drop (at_ + (ptext d).length) = l := by
  unfold ptext at hd ⊢
  rw [List.append_assoc] at hd
  obtain ⟨h1, h2⟩ := rnum_put h hl hd
  have hdl : d.data.toList.length = d.size := by simp
  have hsz : (s.data.toList.drop (at_ + (pput d.size).length)).length = s.size - (at_ + (pput d.size).length) := by rw [List.length_drop]; simp
  rw [h2, List.length_append, hdl] at hsz
  refine ⟨?_, ?_⟩
  · unfold rtext
    rw [h1]
    simp only
    rw [if_neg (by omega)]
    have hex : s.extract (at_ + (pput d.size).length) (at_ + (pput d.size).length + d.size) = d := by
      apply bytes_eq
      simp only [ByteArray.data_extract, Array.toList_extract, List.extract_eq_take_drop]
      rw [h2, Nat.add_sub_cancel_left, List.take_left' hdl]
    rw [hex, List.length_append, hdl]
    rw [Nat.add_assoc]
  · rw [List.length_append, ← Nat.add_assoc, ← List.drop_drop, h2, List.drop_left' rfl]
theorem rend_put {s : ByteArray} {at_ : Nat} (hd : s.data.toList.drop at_ = []) : rend ⟨s, at_, 0⟩ = ⟨s, at_, 0⟩ := by
  have : s.size ≤ at_ := by
    have h1 := congrArg List.length hd
    rw [List.length_drop] at h1
    simp at h1
    omega
  unfold rend
  rw [if_neg (by simp only; omega)]
end Go.Proofs.YtndahppmjdbifaaGreatDoor.Pak
set_option linter.unusedVariables false
set_option linter.unusedSimpArgs false
namespace Go.Proofs.YtndahppmjdbifaaGreatDoor.Nod
open Go Go.Proofs Go.Proofs.YtndahppmjdbifaaGreatDoor.Eng Go.Proofs.YtndahppmjdbifaaGreatDoor.Pre Go.Proofs.YtndahppmjdbifaaGreatDoor.Pak Go.Proofs.YtndahppmjdbifaaGreatDoor.Val Go.Proofs.YtndahppmjdbifaaGreatDoor.Rou Go.Proofs.YtndahppmjdbifaaGreatDoor.Fra Go.Proofs.YtndahppmjdbifaaGreatDoor.Snd Go.Proofs.YtndahppmjdbifaaGreatDoor.Lnk Go.Proofs.YtndahppmjdbifaaGreatDoor.Jnl Go.Proofs.YtndahppmjdbifaaGreatDoor.Cli Go.Proofs.YtndahppmjdbifaaGreatDoor.Sto Go.Proofs.YtndahppmjdbifaaGreatDoor.Crc
theorem fputE_ok {f : Frm} {mtu : Int} (h : fputE f mtu = 0) : (64 ≤ mtu ∧ mtu ≤ 1400) ∧ (1 ≤ f.ep ∧ f.ep ≤ 1099511627776) ∧ (0 ≤ f.seq ∧ f.seq ≤ 1125899906842624) ∧ (0 ≤ f.ack ∧ f.ack ≤ 1125899906842624) ∧ (f.seq = 0 → f.data = ⟨#[]⟩) ∧ ((fbytes f).size : Int) ≤ mtu := by
  unfold fputE at h
  split at h; · cases h
  split at h; · cases h
  split at h; · cases h
  split at h; · cases h
  rename_i h1 h2 h3 h4
  refine ⟨by omega, by omega, by omega, by omega, ?_, ?_⟩
  · intro h0
    rw [if_pos h0] at h
    split at h
    · cases h
    · rename_i h5; exact Decidable.not_not.1 h5
  · split at h
    · split at h
      · cases h
      · split at h
        · cases h
        · omega
    · split at h
      · cases h
      · omega
theorem fputE_of {f : Frm} {mtu : Int} (h1 : 64 ≤ mtu ∧ mtu ≤ 1400) (h2 : 1 ≤ f.ep ∧ f.ep ≤ 1099511627776) (h3 : 0 ≤ f.seq ∧ f.seq ≤ 1125899906842624) (h4 : 0 ≤ f.ack ∧ f.ack ≤ 1125899906842624) (h5 : f.seq = 0 → f.data = ⟨#[]⟩) (h6 : ((fbytes f).size : Int) ≤ mtu) : fputE f mtu = 0 := by
  unfold fputE
  rw [if_neg (by omega), if_neg (by omega), if_neg (by omega), if_neg (by omega)]
  split
  · rename_i h0
    rw [if_neg (fun h => h (h5 h0)), if_neg (by omega)]
  · rw [if_neg (by omega)]
theorem fbytes_size (f : Frm) : (fbytes f).size = (fplain f).length + 4 := by
  unfold fbytes seal_
  show (((str (fplain f)).data.toList ++ le4 (sum (str (fplain f)))).toArray).size = _
  rw [List.size_toArray, List.length_append]
  simp [str, le4]
theorem fbytes_le (f : Frm) : (fbytes f).size ≤ 36 + f.data.size := by
  have := fplain_length f
  rw [fbytes_size]; omega
theorem fget_put {f : Frm} {mtu : Int} (h : fputE f mtu = 0) : fgetE (fput f mtu) = 0 ∧ fget (fput f mtu) = f ∧ ((fput f mtu).size : Int) ≤ mtu := by
  obtain ⟨h1, h2, h3, h4, h5, h6⟩ := fputE_ok h
  have hput : fput f mtu = fbytes f := by unfold fput; rw [if_pos h]
  rw [hput]
  have hop : open_ (fbytes f) = some (str (fplain f)) := by unfold fbytes; exact open_seal _
  obtain ⟨ep, hep⟩ : ∃ n : Nat, f.ep = n := ⟨f.ep.toNat, by omega⟩
  obtain ⟨sq, hsq⟩ : ∃ n : Nat, f.seq = n := ⟨f.seq.toNat, by omega⟩
  obtain ⟨ak, hak⟩ : ∃ n : Nat, f.ack = n := ⟨f.ack.toNat, by omega⟩
  have hpl : fplain f = pput ep ++ (pput sq ++ (pput ak ++ (ptext f.data ++ []))) := by unfold fplain; rw [hep, hsq, hak]; simp
  have hds : f.data.size ≤ 1400 := by
    have e := fbytes_size f
    have e2 : (ptext f.data).length = (pput f.data.size).length + f.data.size := by unfold ptext; rw [List.length_append]; simp
    rw [hpl] at e
    simp only [List.length_append, List.length_nil] at e
    omega
  have hd0 : (str (fplain f)).data.toList.drop 0 = pput ep ++ (pput sq ++ (pput ak ++ (ptext f.data ++ []))) := by rw [← hpl]; rfl
  generalize hss : str (fplain f) = s at hop hd0
  obtain ⟨a1, d1⟩ := rnum_put (lim := 1099511627776) (by omega) (by omega) hd0
  obtain ⟨a2, d2⟩ := rnum_put (lim := 1125899906842624) (by omega) (by omega) d1
  obtain ⟨a3, d3⟩ := rnum_put (lim := 1125899906842624) (by omega) (by omega) d2
  obtain ⟨a4, d4⟩ := rtext_put (lim := 1400) (by omega) hds d3
  have e1 : fg1 s = (ep, ⟨s, 0 + (pput ep).length, 0⟩) := by unfold fg1; exact a1
  have e1' : fg1' s = ⟨s, 0 + (pput ep).length, 0⟩ := by rw [fg1'_eq (.inr (by rw [e1]; simp only; omega)), e1]
  have e2 : fg2 s = (sq, ⟨s, 0 + (pput ep).length + (pput sq).length, 0⟩) := by unfold fg2; rw [e1']; exact a2
  have e3 : fg3 s = (ak, ⟨s, 0 + (pput ep).length + (pput sq).length + (pput ak).length, 0⟩) := by unfold fg3; rw [e2]; exact a3
  have e4 : fg4 s = (f.data, ⟨s, 0 + (pput ep).length + (pput sq).length + (pput ak).length + (ptext f.data).length, 0⟩) := by unfold fg4; rw [e3]; exact a4
  have hge : fge s = 0 := by
    rw [fge_end (by
      by_cases hz : f.data = ⟨#[]⟩
      · right; right; rw [e4]; exact hz
      · right; left; rw [e2]; simp only; intro hz2; exact hz (h5 (by omega)))]
    rw [e4, rend_put d4]
  refine ⟨?_, ?_, h6⟩
  · unfold fgetE; rw [hop]; exact hge
  · unfold fget; rw [hop]
    show fgf s = f
    unfold fgf
    rw [if_pos hge, e1, e2, e3, e4]
    simp only
    rw [← hep, ← hsq, ← hak]
theorem pput_size (n : Nat) : (pput n).length = psize n := by unfold pput; rw [be_length]
theorem psize_2 {n : Nat} (h : n ≤ 64) : psize n ≤ 2 := by
  unfold psize spell
  rw [if_pos (by omega)]
  (repeat' split) <;> first | omega | simp
theorem rbytes_fit {r : Rnd} {mtu : Int} (h : mayR r = 0) (hf : fits r.ups mtu = true) : ((rbytes r).length : Int) ≤ mtu - 40 := by
  obtain ⟨_, _, h3⟩ := fits_ok hf
  obtain ⟨m1, m2, m3, m4, _, _, _⟩ := mayR_ok h
  have e : ∀ r : Rnd, (rbytes r).length = (pput r.o.toNat).length + (pput r.n.toNat).length + (pput r.ups.length).length + (r.ups.flatMap ubytes).length := by
    intro r; unfold rbytes; simp only [List.length_append]
  rw [e] at h3 ⊢
  simp only at h3
  have a := psize_2 (n := r.o.toNat) (by omega)
  have b := psize_le r.n.toNat
  have c : (pput (64 : Int).toNat).length = 2 := by rw [pput_size]; decide
  have d : (pput (1099511627776 : Int).toNat).length = 8 := by rw [pput_size]; decide
  rw [← pput_size] at a b
  rw [c, d] at h3
  omega
theorem putB_eq {r : Rnd} (h : mayR r = 0) : putB r = str (rbytes r) := by unfold putB; rw [if_pos h]
theorem str_size (l : List UInt8) : (str l).size = l.length := by
  show l.toArray.size = l.length
  simp
structure Nod.fit (m : Nod) : Prop where
  jr : ∀ r ∈ m.j.l, mayR r = 0 ∧ ((rbytes r).length : Int) ≤ m.c.mtu - 40
  jn : ∀ i r, m.j.l[i]? = some r → r.n = ((i + 1 : Nat) : Int) ∧ r.o = m.origin
  jo : m.j.origin = m.origin
  opn : m.own.opn = [] ∨ fits m.own.opn m.c.mtu = true
  sd : ∀ d ∈ m.k.s.all, (d.size : Int) ≤ m.c.mtu - 40
  ep : 1 ≤ m.k.ep
theorem Nod.new_fit (c : Cfg) (o : Int) : (Nod.new c o).fit := by
  refine ⟨?_, ?_, rfl, .inl rfl, ?_, ?_⟩
  · intro r hr; unfold Nod.new Jnl.new at hr; simp at hr
  · intro i r hr; unfold Nod.new Jnl.new at hr; simp at hr
  · intro d hd; unfold Nod.new Lnk.new Snd.new at hd; simp at hd
  · show 1 ≤ epc 1; decide
theorem behind_all {l : List Rnd} (h : ∀ i r, l[i]? = some r → r.n = ((i + 1 : Nat) : Int)) : behind 0 l = l := by
  unfold behind
  rw [List.filter_eq_self]
  intro r hr
  obtain ⟨i, hi⟩ := List.getElem?_of_mem hr
  have := h i r hi
  exact decide_eq_true (by omega)
theorem Nod.act_fit {t : Nat} {m : Nod} (hi : m.inv t) (h : m.fit) (a : Act) : (m.act a).fit := by
  have hc := mayC_ok hi.c
  unfold Nod.act
  split
  · unfold Nod.upd Cli.upd
    split
    · rename_i he
      refine ⟨h.jr, h.jn, h.jo, .inr ?_, h.sd, h.ep⟩
      simp only
      unfold Cli.updE at he
      split at he
      · omega
      · split at he; · cases he
        split at he; · cases he
        rename_i hf
        rw [hi.mtu] at hf
        simpa using hf
    · exact h
  split
  · unfold Nod.push Cli.pushC Cli.pushJ
    split
    · rename_i he
      have hadd : m.j.addE m.own.opn = 0 ∧ m.own.opn.length ≠ 0 := by
        unfold Cli.pushE at he
        split at he; · cases he
        split at he; · cases he
        rename_i h1 h2
        exact ⟨he, h1⟩
      have hmr : mayR (m.j.next m.own.opn) = 0 := by
        have := hadd.1
        unfold Jnl.addE at this
        split at this
        · cases this
        · exact this
      have hft : fits m.own.opn m.c.mtu = true := by
        rcases h.opn with h0 | h0
        · exact absurd (by rw [h0]; rfl) hadd.2
        · exact h0
      have hj : m.j.add m.own.opn = ⟨m.j.origin, m.j.last, m.j.l ++ [m.j.next m.own.opn]⟩ := by unfold Jnl.add; rw [if_pos hadd.1]
      rw [hj]
      refine ⟨?_, ?_, h.jo, .inl rfl, h.sd, h.ep⟩
      · intro r hr
        simp only [List.mem_append, List.mem_singleton] at hr
        rcases hr with hr | rfl
        · exact h.jr r hr
        · exact ⟨hmr, rbytes_fit hmr hft⟩
      · intro i r hr
        simp only at hr
        rcases Nat.lt_or_ge i m.j.l.length with hl | hl
        · rw [List.getElem?_append_left hl] at hr; exact h.jn i r hr
        · rw [List.getElem?_append_right hl] at hr
          have hz : i - m.j.l.length = 0 := by
            rcases Nat.eq_zero_or_pos (i - m.j.l.length) with h | h
            · exact h
            · rw [List.getElem?_eq_none (by simp; omega)] at hr; cases hr
          rw [hz] at hr
          simp only [List.getElem?_cons_zero, Option.some.injEq] at hr
          subst hr
          refine ⟨?_, h.jo⟩
          show (m.j.l.length : Int) + 1 = _
          omega
    · exact h
  split
  · obtain ⟨_, _, _, a4, _⟩ := Cli.takeL_same m.own m.k.r.came
    exact ⟨h.jr, h.jn, h.jo, by unfold Nod.pull; simp only [a4]; exact h.opn, h.sd, h.ep⟩
  split
  · unfold Nod.reset
    split
    · rename_i he
      refine ⟨h.jr, h.jn, h.jo, .inl rfl, ?_, ?_⟩
      · intro d hd; unfold Lnk.new Snd.new at hd; simp at hd
      · unfold Lnk.new epc; simp only []; omega
    · exact h
  split
  · unfold Nod.hear
    split
    · rename_i he
      have hpep : (fget a.bytes).ep = m.k.ep := by
        unfold Nod.hearE at he
        split at he
        · omega
        · split at he
          · cases he
          · rename_i h2; exact Decidable.not_not.1 h2
      have hep : (m.k.hear (fget a.bytes)).ep = m.k.ep := by
        unfold Lnk.hear
        rw [if_neg (by omega), if_neg (by omega)]
        rfl
      exact ⟨h.jr, h.jn, h.jo, h.opn, Lnk.hear_s h.sd, by show 1 ≤ (m.k.hear (fget a.bytes)).ep; rw [hep]; exact h.ep⟩
    · exact h
  split
  · refine ⟨h.jr, h.jn, h.jo, h.opn, ?_, ?_⟩
    · show ∀ d ∈ (offl (m.j.l.drop m.offered) m.k m.offered).1.s.all, (d.size : Int) ≤ m.c.mtu - 40
      refine offl_s h.sd fun r hr => ?_
      have hjr := h.jr r (List.mem_of_mem_drop hr)
      rw [putB_eq hjr.1, str_size]
      exact hjr.2
    · rw [Nod.tick_ep]; exact h.ep
  · exact h
end Go.Proofs.YtndahppmjdbifaaGreatDoor.Nod
set_option linter.unusedVariables false
set_option linter.unusedSimpArgs false
namespace Go.Proofs.YtndahppmjdbifaaGreatDoor.Nod
open Go Go.Proofs Go.Proofs.YtndahppmjdbifaaGreatDoor.Eng Go.Proofs.YtndahppmjdbifaaGreatDoor.Pre Go.Proofs.YtndahppmjdbifaaGreatDoor.Pak Go.Proofs.YtndahppmjdbifaaGreatDoor.Val Go.Proofs.YtndahppmjdbifaaGreatDoor.Rou Go.Proofs.YtndahppmjdbifaaGreatDoor.Fra Go.Proofs.YtndahppmjdbifaaGreatDoor.Snd Go.Proofs.YtndahppmjdbifaaGreatDoor.Lnk Go.Proofs.YtndahppmjdbifaaGreatDoor.Jnl Go.Proofs.YtndahppmjdbifaaGreatDoor.Cli Go.Proofs.YtndahppmjdbifaaGreatDoor.Sto Go.Proofs.YtndahppmjdbifaaGreatDoor.Crc
theorem pcs_seq {a : Nat} {l : List ByteArray} {x : Nat × ByteArray} (h : x ∈ pcs a l) : a < x.1 ∧ x.1 ≤ a + l.length := by
  induction l generalizing a with
  | nil => cases h
  | cons d l ih =>
    simp only [pcs, List.mem_cons] at h
    rw [List.length_cons]
    rcases h with rfl | h
    · simp only; omega
    · have := ih h; omega
theorem frames_put {k : Lnk} {mtu : Int} (hk : k.ok) (he : 1 ≤ k.ep) (hm : 64 ≤ mtu ∧ mtu ≤ 1400) (hd : ∀ d ∈ k.s.all, (d.size : Int) ≤ mtu - 40) : ∀ f ∈ k.frames, fputE f mtu = 0 ∧ f.ep = k.ep := by
  obtain ⟨h1, h2, h3⟩ := hk
  unfold Snd.ok at h2
  unfold Rcv.ok at h3
  intro f hf
  unfold Lnk.frames at hf
  rw [if_neg (by omega)] at hf
  split at hf
  · simp only [List.mem_singleton] at hf
    subst hf
    refine ⟨fputE_of hm ⟨by simp only; omega, by simp only; omega⟩ ⟨by simp, by simp⟩ ⟨by simp only; omega, by simp only; omega⟩ (fun _ => rfl) ?_, rfl⟩
    have := fbytes_le ⟨k.ep, 0, k.r.all.length, ByteArray.empty⟩
    have e : ByteArray.empty.size = 0 := rfl
    simp only [e] at this
    omega
  · obtain ⟨x, hx, rfl⟩ := List.mem_map.1 hf
    have hs := pcs_seq hx
    rw [List.length_drop] at hs
    have hxd := hd _ (List.mem_of_mem_drop (pcs_mem hx))
    have := fbytes_le (frm k x)
    unfold frm at this ⊢
    simp only at this
    refine ⟨fputE_of hm ⟨by simp only; omega, by simp only; omega⟩ ⟨by simp only; omega, by simp only; omega⟩ ⟨by simp only; omega, by simp only; omega⟩ (fun h => by simp only at h; omega) (by omega), rfl⟩
theorem pkts_all {o t mtu : Int} {l : List Frm} (h : ∀ f ∈ l, fputE f mtu = 0) : pkts o t mtu l = l.map fun f => ⟨o, t, fput f mtu⟩ := by
  unfold pkts
  induction l with
  | nil => rfl
  | cons f l ih =>
    rw [List.filterMap_cons, if_pos (h f List.mem_cons_self), List.map_cons]
    simp only
    rw [ih fun x hx => h x (List.mem_cons_of_mem _ hx)]
theorem Nod.tick_fit {t : Nat} {m : Nod} (hi : m.inv t) (h : m.fit) : m.tick.fit := by
  have := Nod.act_fit hi h ⟨6, upd0, ByteArray.empty⟩
  exact this
theorem tickP_eq {t : Nat} {m : Nod} (hi : m.inv t) (h : m.fit) : m.tickP = m.tick.k.frames.map fun f => ⟨m.origin, 0, fput f m.c.mtu⟩ := by
  have hc := mayC_ok hi.c
  have hf := Nod.tick_fit hi h
  unfold Nod.tickP
  exact pkts_all fun f hx => (frames_put (mtu := m.c.mtu) (Nod.tick_inv hi).k hf.ep (by omega) hf.sd f hx).1
end Go.Proofs.YtndahppmjdbifaaGreatDoor.Nod
set_option linter.unusedVariables false
set_option linter.unusedSimpArgs false
namespace Go.Proofs.YtndahppmjdbifaaGreatDoor.Nod
open Go Go.Proofs Go.Proofs.YtndahppmjdbifaaGreatDoor.Eng Go.Proofs.YtndahppmjdbifaaGreatDoor.Pre Go.Proofs.YtndahppmjdbifaaGreatDoor.Pak Go.Proofs.YtndahppmjdbifaaGreatDoor.Val Go.Proofs.YtndahppmjdbifaaGreatDoor.Rou Go.Proofs.YtndahppmjdbifaaGreatDoor.Fra Go.Proofs.YtndahppmjdbifaaGreatDoor.Snd Go.Proofs.YtndahppmjdbifaaGreatDoor.Lnk Go.Proofs.YtndahppmjdbifaaGreatDoor.Jnl Go.Proofs.YtndahppmjdbifaaGreatDoor.Cli Go.Proofs.YtndahppmjdbifaaGreatDoor.Sto
section
variable {M : Mem} {w : World} {Ls : List Chunk}
end
end Go.Proofs.YtndahppmjdbifaaGreatDoor.Nod
set_option linter.unusedVariables false
set_option linter.unusedSimpArgs false
namespace Go.Proofs.YtndahppmjdbifaaGreatDoor.Pak
open Go Go.Proofs Go.Proofs.YtndahppmjdbifaaGreatDoor.Eng Go.Proofs.YtndahppmjdbifaaGreatDoor.Pre Go.Proofs.YtndahppmjdbifaaGreatDoor.Crc Go.Proofs.YtndahppmjdbifaaGreatDoor.Snd
def mark (n : Nat) : Nat := if psize n = 2 then 64 else if psize n = 4 then 128 else if psize n = 8 then 192 else 0
def put1V (n : Nat) : Value := if n < 4611686018427387904 then .tuple [.string (str (pput n)), .int .i64 0].toArray else .tuple [.string ⟨#[]⟩, .int .i64 1].toArray
section
variable {M : Mem} {w : World} {Ls : List Chunk}
end
end Go.Proofs.YtndahppmjdbifaaGreatDoor.Pak
set_option linter.unusedVariables false
set_option linter.unusedSimpArgs false
namespace Go.Proofs.YtndahppmjdbifaaGreatDoor.Rou
open Go Go.Proofs Go.Proofs.YtndahppmjdbifaaGreatDoor.Eng Go.Proofs.YtndahppmjdbifaaGreatDoor.Pre Go.Proofs.YtndahppmjdbifaaGreatDoor.Pak Go.Proofs.YtndahppmjdbifaaGreatDoor.Val
section
variable {M : Mem} {w : World} {Ls : List Chunk}
end
end Go.Proofs.YtndahppmjdbifaaGreatDoor.Rou
set_option linter.unusedVariables false
set_option linter.unusedSimpArgs false
namespace Go.Proofs.YtndahppmjdbifaaGreatDoor.Nod
open Go Go.Proofs Go.Proofs.YtndahppmjdbifaaGreatDoor.Eng Go.Proofs.YtndahppmjdbifaaGreatDoor.Pre Go.Proofs.YtndahppmjdbifaaGreatDoor.Pak Go.Proofs.YtndahppmjdbifaaGreatDoor.Val Go.Proofs.YtndahppmjdbifaaGreatDoor.Rou Go.Proofs.YtndahppmjdbifaaGreatDoor.Fra Go.Proofs.YtndahppmjdbifaaGreatDoor.Snd Go.Proofs.YtndahppmjdbifaaGreatDoor.Lnk Go.Proofs.YtndahppmjdbifaaGreatDoor.Jnl Go.Proofs.YtndahppmjdbifaaGreatDoor.Cli Go.Proofs.YtndahppmjdbifaaGreatDoor.Sto
theorem lnk_new_ep (e win room : Int) (pas : Bool) : (Lnk.new e win room pas).ep = epc e := by simp only [Lnk.new]
structure Again (m : Nod) (k : Lnk) : Prop where
  ep : (k.ep : Int) = m.k.ep + 1
  r : k.r.all = []
  s : k.s = ⟨m.c.window.toNat, 1125899906842624, (m.j.l.take m.c.window.toNat).map putB, 0⟩
def lk0 (m : Nod) : Look := ⟨m.k.ep + 1, 0, (behind 0 m.j.l).length, 0, 0, 0⟩
section
variable {M : Mem} {w : World} {Ls : List Chunk}
end
end Go.Proofs.YtndahppmjdbifaaGreatDoor.Nod
set_option linter.unusedVariables false
set_option linter.unusedSimpArgs false
namespace Go.Proofs.YtndahppmjdbifaaGreatDoor.Eng
open Go Go.RowKit
def mem0 (w : World) : Mem := ⟨fun b => w.heap[b]?, w.os, w.output, w.tape⟩
theorem st0 (w : World) : St (mem0 w) w [] := ⟨fun b o h => h, by simp, by simp, by simp, rfl, rfl, rfl⟩
theorem below_of {M : Mem} {w w' : World} {Ls : List Chunk} (h : St M w' Ls) (hm : Mle (mem0 w) M) : Below w.heap.size w w' := by
  have hk : ∀ k, k < w.heap.size → w'.heap[k]? = w.heap[k]? := by
    intro k hk
    have h1 : w.heap[k]? = some w.heap[k] := by simp [hk]
    rw [h1]
    exact h.imm k _ (hm.1 k _ h1)
  refine ⟨h.io.1.trans hm.2.1, h.io.2.2.trans hm.2.2.2, h.io.2.1.trans hm.2.2.1, ?_, hk⟩
  rcases Nat.lt_or_ge 0 w.heap.size with h0 | h0
  · have := hk (w.heap.size - 1) (by omega)
    rcases Nat.lt_or_ge (w.heap.size - 1) w'.heap.size with h1 | h1
    · omega
    · rw [Array.getElem?_eq_none h1] at this
      have h2 : w.heap[w.heap.size - 1]? = some (w.heap[w.heap.size - 1]'(by omega)) := by simp [h0]
      rw [h2] at this; cases this
  · omega
theorem trodAll_below {H : Type} {enc : TypeId × Value → H} {P : Program} (hl : laidOutB P = true) {W W' : World} (hb : Below W.heap.size W W') :
    ∀ {ts : List TypeId} {vs : List Value} {ds : List (DataW H)} {ps : List MemPlace}, ts.all (fun t => P.readableRec t && decide (t < P.types.size)) = true → (∀ x ∈ ps, x.block < W.heap.size) →
    DataW.TrodAll enc P W 0 (fun _ => true) true ts vs ds ps → DataW.TrodAll enc P W' 0 (fun b => decide (b < W.heap.size)) true ts vs ds ps
  | [], vs, ds, ps, _, _, h => by
    obtain ⟨rfl, rfl, rfl⟩ := ChangeShapes.trodAll_nil h
    exact ChangeShapes.trodAll_mk0
  | t :: ts, vs, ds, ps, ht, hlt, h => by
    obtain ⟨v, vs', d, ds', p, q, rfl, rfl, rfl, h1, h2⟩ := ChangeShapes.trodAll_cons h
    simp only [List.all_cons, Bool.and_eq_true, decide_eq_true_eq] at ht
    exact Go.trodAll_cons_mk (Below.trod hl ht.1.1 ht.1.2 h1 hb fun x hx => hlt x (List.mem_append_left _ hx)) (trodAll_below hl hb ht.2 (fun x hx => hlt x (List.mem_append_right _ hx)) h2)
theorem law_post {H : Type} {enc : TypeId × Value → H} {P : Program} {f : Func} {s : ChangeSpec} {W W' : World} {args : Array Value} {ds gs : List (DataW H)} {before : List MemPlace} {tb : TypeId}
    (hl : laidOutB P = true) (hp : f.params.toList.all (fun t => P.readableRec t && decide (t < P.types.size)) = true) (hv : varsRowed P s.vars = true) (hr : f.resultTypes = #[tb]) (hb : P.underlying tb = some .bool)
    (hW : DataW.Whole enc P f.params.toList s.vars false W args.toList ds gs before) (hspec : s.fn H (ds ++ gs) = { results := [.lit (.bool true)], args := ds, vars := gs }) (hB : Below W.heap.size W W') :
    s.post enc P f false true false false W args (.bool true) W' := by
  have hlt := hW.lt
  obtain ⟨p, q, hA, hV, rfl, hfz, hnd⟩ := hW
  refine ⟨ds, gs, p ++ q, [], p, q, ⟨p, q, hA, hV, rfl, hfz, hnd⟩, ?_, ?_, ?_, hB.frame _, fun h => by cases h⟩
  · rw [hspec, hr]
    exact Go.trodAll_cons_mk (shut_bool hb true) ChangeShapes.trodAll_mk0
  · rw [hspec]
    exact trodAll_below hl hB hp (fun x hx => hlt x (List.mem_append_left _ hx)) hA
  · rw [hspec]
    exact Below.trodVars hl hB hv hV
end Go.Proofs.YtndahppmjdbifaaGreatDoor.Eng
