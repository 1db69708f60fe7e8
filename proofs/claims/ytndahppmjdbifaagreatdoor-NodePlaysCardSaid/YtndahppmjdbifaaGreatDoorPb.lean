/-
  Part 2 of the proof: ValC, UpdC, RouC, RgtC, CrcM, CrcA, CrcB, CrcP, FraC, SndC, RcvC, LnkC, LnfC, LnhC, JnlC, JadC, CliC, CldC.
-/
import Derived.Test.YtndahppmjdbifaaGreatDoorPa
import Derived.KernelRfl
set_option linter.unusedVariables false
set_option linter.unusedSimpArgs false
namespace Go.Proofs.YtndahppmjdbifaaGreatDoor.Val
open Go Go.Proofs Eng Pre Pak
structure Upd where
  key : ByteArray
  kind : Int
  n : Int
  s : ByteArray
deriving DecidableEq
structure Valu where
  kind : Int
  n : Int
  s : ByteArray
deriving DecidableEq
def encU : Enc Upd := ⟨4, fun u => [.string u.key, .int .i64 u.kind, .int .i64 u.n, .string u.s], fun _ => rfl, by simp [oneC]⟩
def uv (u : Upd) : Value := .agg [.string u.key, .int .i64 u.kind, .int .i64 u.n, .string u.s].toArray
def vv (x : Valu) : Value := .agg [.int .i64 x.kind, .int .i64 x.n, .string x.s].toArray
def upd0 : Upd := ⟨ByteArray.empty, 0, 0, ByteArray.empty⟩
def val0 : Valu := ⟨0, 0, ByteArray.empty⟩
@[irreducible] def mayU (u : Upd) : Nat :=
  if (u.key.size : Int) < 1 then 1 else if (u.key.size : Int) > 16 then 1 else
  if u.kind = 1 ∨ u.kind = 3 then (if ¬ u.s = (⟨#[]⟩ : ByteArray) then 13 else if u.n < -2305843009213693952 then 1 else if u.n ≥ 2305843009213693952 then 1 else 0)
  else if u.kind = 2 ∨ u.kind = 4 then (if ¬ u.n = 0 then 13 else if (u.s.size : Int) > 32 then 1 else 0)
  else if u.kind = 5 then (if ¬ u.n = 0 then 13 else if ¬ u.s = (⟨#[]⟩ : ByteArray) then 13 else 0)
  else 5
def num (n : Int) : Valu := ⟨1, n, ByteArray.empty⟩
def txt (s : ByteArray) : Valu := ⟨2, 0, s⟩
def clean (x : Valu) : Valu := if x.kind = 1 then num x.n else if x.kind = 2 then txt x.s else val0
def app (x : Valu) (u : Upd) : Valu :=
  if u.kind = 1 then num u.n else if u.kind = 2 then txt u.s else if u.kind = 5 then val0 else
  if u.kind = 3 then (if ¬ x.kind = 2 then num (IntKind.i64.wrap (x.n + u.n)) else x) else
  if u.kind = 4 then (if x.kind = 0 then txt u.s else if x.kind = 2 then (if (x.s.size : Int) + (u.s.size : Int) ≤ 1024 then txt (x.s ++ u.s) else x) else x) else x
def apply (x : Valu) (u : Upd) : Valu := app (clean x) u
section
variable {M : Mem} {w : World} {Ls : List Chunk}
theorem may_c (u : Upd) (hS : St M w Ls) : CallsR Tryz.prog 146 [uv u].toArray w fun v w' => v = .int .i64 (mayU u) ∧ St M w' Ls := by
  refine zC 49 Tryz.func146 rfl (zQ (zR (a_box rfl hS rfl fun b1 w hS => zA rfl (zE (zQ (zQ (zR (zF fl_59_0 rfl (wl (y_load pl_9 rfl (hS.cell rfl)) rfl (wl (y_len_s Tryz.underlying9 rfl) rfl (wl (y_lss rfl rfl) rfl (zM rfl (zWc (s := 7) rfl (fun hg7 => ?_) fun hg7 => ?_)))))))))))))
  · refine zO rfl ?_
    refine zO rfl (zO rfl (zO rfl (wl (y_pickT rfl rfl) rfl (zE (wc_ifT rfl rfl (zQ (zR (zA rfl (zE (zV (z1 rfl ?_)))))))))))
    exact ⟨congrArg (Value.int .i64) (by simp [mayU, *]), hS.keep⟩
  refine zI rfl ?_
  refine zF fl_59_0 rfl (zI rfl (wl (y_load pl_9 rfl (hS.cell rfl)) rfl (zI rfl (wl (y_len_s Tryz.underlying9 rfl) rfl (zI rfl (wl (y_gtr rfl rfl) rfl (wl (y_pickF rfl rfl) rfl (zE (zIf rfl (fun hc12 => ?_) fun hc12 => ?_)))))))))
  · refine zQ ?_
    refine zR (zA rfl (zE (zV (z1 rfl ?_))))
    exact ⟨congrArg (Value.int .i64) (by simp [mayU, *]), hS.keep⟩
  refine zK ?_
  refine zQ (zQ (zR (zF fl_59_1 rfl (wl (y_load pl_3 rfl (hS.cell rfl)) rfl (zE (zB (zQ (zQ (zR (wl (y_eql rfl rfl) rfl (zA rfl (zE (zCs rfl (fun hc15 => ?_) fun hc15 => ?_)))))))))))))
  · refine zK ?_
    refine wc_ifT rfl rfl (zQ (zQ (zR (zF fl_59_3 rfl (wl (y_load pl_9 rfl (hS.cell rfl)) rfl (wl (y_sneq rfl rfl) rfl (zE (zIf rfl (fun hc20 => ?_) fun hc20 => ?_))))))))
    · refine zQ ?_
      refine zR (zA rfl (zE (zV (z1 rfl ?_))))
      exact ⟨congrArg (Value.int .i64) (by simp [mayU, *]), hS.keep⟩
    refine zK ?_
    refine zQ (zR (zF fl_59_2 rfl (wl (y_load pl_2 rfl (hS.cell rfl)) rfl (wl (y_lss rfl rfl) rfl (zM rfl (zWc (s := 24) rfl (fun hg24 => ?_) fun hg24 => ?_))))))
    · refine zO rfl ?_
      refine zO rfl (zO rfl (wl (y_pickT rfl rfl) rfl (zE (wc_ifT rfl rfl (zQ (zR (zA rfl (zE (zV (z1 rfl ?_))))))))))
      exact ⟨congrArg (Value.int .i64) (by simp [mayU, *]), hS.keep⟩
    refine zI rfl ?_
    refine zF fl_59_2 rfl (zI rfl (wl (y_load pl_2 rfl (hS.cell rfl)) rfl (zI rfl (wl (y_geq rfl rfl) rfl (wl (y_pickF rfl rfl) rfl (zE (zIf rfl (fun hc28 => ?_) fun hc28 => ?_)))))))
    · refine zQ ?_
      refine zR (zA rfl (zE (zV (z1 rfl ?_))))
      exact ⟨congrArg (Value.int .i64) (by simp [mayU, *]), hS.keep⟩
    refine zK ?_
    refine zQ (zR (zA rfl (zE (zV (z1 rfl ?_)))))
    exact ⟨congrArg (Value.int .i64) (by simp [mayU, *]), hS.keep⟩
  refine zR ?_
  refine wl (y_eql rfl rfl) rfl (zA rfl (zE (zCs rfl (fun hc15 => ?_) fun hc15 => ?_)))
  · refine zQ ?_
    refine zQ (zR (zF fl_59_3 rfl (wl (y_load pl_9 rfl (hS.cell rfl)) rfl (wl (y_sneq rfl rfl) rfl (zE (zIf rfl (fun hc20 => ?_) fun hc20 => ?_))))))
    · refine zQ ?_
      refine zR (zA rfl (zE (zV (z1 rfl ?_))))
      exact ⟨congrArg (Value.int .i64) (by simp [mayU, *]), hS.keep⟩
    refine zK ?_
    refine zQ (zR (zF fl_59_2 rfl (wl (y_load pl_2 rfl (hS.cell rfl)) rfl (wl (y_lss rfl rfl) rfl (zM rfl (zWc (s := 24) rfl (fun hg24 => ?_) fun hg24 => ?_))))))
    · refine zO rfl ?_
      refine zO rfl (zO rfl (wl (y_pickT rfl rfl) rfl (zE (wc_ifT rfl rfl (zQ (zR (zA rfl (zE (zV (z1 rfl ?_))))))))))
      exact ⟨congrArg (Value.int .i64) (by simp [mayU, *]), hS.keep⟩
    refine zI rfl ?_
    refine zF fl_59_2 rfl (zI rfl (wl (y_load pl_2 rfl (hS.cell rfl)) rfl (zI rfl (wl (y_geq rfl rfl) rfl (wl (y_pickF rfl rfl) rfl (zE (zIf rfl (fun hc28 => ?_) fun hc28 => ?_)))))))
    · refine zQ ?_
      refine zR (zA rfl (zE (zV (z1 rfl ?_))))
      exact ⟨congrArg (Value.int .i64) (by simp [mayU, *]), hS.keep⟩
    refine zK ?_
    refine zQ (zR (zA rfl (zE (zV (z1 rfl ?_)))))
    exact ⟨congrArg (Value.int .i64) (by simp [mayU, *]), hS.keep⟩
  refine zQ ?_
  refine zQ (zR (wl (y_eql rfl rfl) rfl (zA rfl (zE (zCs rfl (fun hc29 => ?_) fun hc29 => ?_)))))
  · refine zK ?_
    refine wc_ifT rfl rfl (zQ (zQ (zR (zF fl_59_2 rfl (wl (y_load pl_2 rfl (hS.cell rfl)) rfl (wl (y_neq rfl rfl) rfl (zE (zIf rfl (fun hc34 => ?_) fun hc34 => ?_))))))))
    · refine zQ ?_
      refine zR (zA rfl (zE (zV (z1 rfl ?_))))
      exact ⟨congrArg (Value.int .i64) (by simp [mayU, *]), hS.keep⟩
    refine zK ?_
    refine zQ (zR (zF fl_59_3 rfl (wl (y_load pl_9 rfl (hS.cell rfl)) rfl (wl (y_len_s Tryz.underlying9 rfl) rfl (wl (y_gtr rfl rfl) rfl (zE (zIf rfl (fun hc38 => ?_) fun hc38 => ?_)))))))
    · refine zQ ?_
      refine zR (zA rfl (zE (zV (z1 rfl ?_))))
      exact ⟨congrArg (Value.int .i64) (by simp [mayU, *]), hS.keep⟩
    refine zK ?_
    refine zQ (zR (zA rfl (zE (zV (z1 rfl ?_)))))
    exact ⟨congrArg (Value.int .i64) (by simp [mayU, *]), hS.keep⟩
  refine zR ?_
  refine wl (y_eql rfl rfl) rfl (zA rfl (zE (zCs rfl (fun hc29 => ?_) fun hc29 => ?_)))
  · refine zQ ?_
    refine zQ (zR (zF fl_59_2 rfl (wl (y_load pl_2 rfl (hS.cell rfl)) rfl (wl (y_neq rfl rfl) rfl (zE (zIf rfl (fun hc34 => ?_) fun hc34 => ?_))))))
    · refine zQ ?_
      refine zR (zA rfl (zE (zV (z1 rfl ?_))))
      exact ⟨congrArg (Value.int .i64) (by simp [mayU, *]), hS.keep⟩
    refine zK ?_
    refine zQ (zR (zF fl_59_3 rfl (wl (y_load pl_9 rfl (hS.cell rfl)) rfl (wl (y_len_s Tryz.underlying9 rfl) rfl (wl (y_gtr rfl rfl) rfl (zE (zIf rfl (fun hc38 => ?_) fun hc38 => ?_)))))))
    · refine zQ ?_
      refine zR (zA rfl (zE (zV (z1 rfl ?_))))
      exact ⟨congrArg (Value.int .i64) (by simp [mayU, *]), hS.keep⟩
    refine zK ?_
    refine zQ (zR (zA rfl (zE (zV (z1 rfl ?_)))))
    exact ⟨congrArg (Value.int .i64) (by simp [mayU, *]), hS.keep⟩
  refine zQ ?_
  refine zR (wl (y_eql rfl rfl) rfl (zA rfl (zE (zIf rfl (fun hc39 => ?_) fun hc39 => ?_))))
  · refine zQ ?_
    refine zR (zF fl_59_2 rfl (wl (y_load pl_2 rfl (hS.cell rfl)) rfl (wl (y_neq rfl rfl) rfl (zM rfl (zWc (s := 44) rfl (fun hg44 => ?_) fun hg44 => ?_)))))
    · refine zO rfl ?_
      refine zO rfl (zO rfl (wl (y_pickT rfl rfl) rfl (zE (wc_ifT rfl rfl (zQ (zR (zA rfl (zE (zV (z1 rfl ?_))))))))))
      exact ⟨congrArg (Value.int .i64) (by simp [mayU, *]), hS.keep⟩
    refine zI rfl ?_
    refine zF fl_59_3 rfl (zI rfl (wl (y_load pl_9 rfl (hS.cell rfl)) rfl (zI rfl (wl (y_sneq rfl rfl) rfl (wl (y_pickF rfl rfl) rfl (zE (zIf rfl (fun hc48 => ?_) fun hc48 => ?_)))))))
    · refine zQ ?_
      refine zR (zA rfl (zE (zV (z1 rfl ?_))))
      exact ⟨congrArg (Value.int .i64) (by simp [mayU, *]), hS.keep⟩
    refine zK ?_
    refine zQ (zR (zA rfl (zE (zV (z1 rfl ?_)))))
    exact ⟨congrArg (Value.int .i64) (by simp [mayU, *]), hS.keep⟩
  refine zQ ?_
  refine zR (zA rfl (zE (zV (z1 rfl ?_))))
  exact ⟨congrArg (Value.int .i64) (by simp [mayU, *]), hS.keep⟩
theorem num_c (n : Int) (hS : St M w Ls) : CallsR Tryz.prog 205 [.int .i64 n].toArray w fun v w' => v = vv (num n) ∧ St M w' Ls := by
  refine zC 5 Tryz.func205 rfl (zQ (zR (a_alloc z_65 hS rfl fun b2 w hS => zE (zQ (zR (zM rfl (wl (y_build (is := [0, 1]) (xs := [_, _]) (out := [_, _, _]) plc_65 z_65 (.cons rfl (.cons rfl .nil)) rfl) rfl (zG (vs := [_, _, _]) sz_65 rfl hS fun w hS => zE (zV (wret (vs := [_]) (.cell rfl (loadVar_struct st_65 sz_65 (vs := [_, _, _]) rfl (hS.cells rfl)) .nil) ?_))))))))))
  exact ⟨rfl, hS.keep⟩
theorem txt_c (s : ByteArray) (hS : St M w Ls) : CallsR Tryz.prog 206 [.string s].toArray w fun v w' => v = vv (txt s) ∧ St M w' Ls := by
  refine zC 5 Tryz.func206 rfl (zQ (zR (a_alloc z_65 hS rfl fun b2 w hS => zE (zQ (zR (zM rfl (wl (y_build (is := [0, 2]) (xs := [_, _]) (out := [_, _, _]) plc_65 z_65 (.cons rfl (.cons rfl .nil)) rfl) rfl (zG (vs := [_, _, _]) sz_65 rfl hS fun w hS => zE (zV (wret (vs := [_]) (.cell rfl (loadVar_struct st_65 sz_65 (vs := [_, _, _]) rfl (hS.cells rfl)) .nil) ?_))))))))))
  exact ⟨rfl, hS.keep⟩
theorem clean_c (x : Valu) (hS : St M w Ls) : CallsR Tryz.prog 204 [vv x].toArray w fun v w' => v = vv (clean x) ∧ St M w' Ls := by
  refine zC 16 Tryz.func204 rfl (zQ (zR (a_box rfl hS rfl fun b1 w hS => a_alloc z_65 hS rfl fun b2 w hS => zE (zQ (zQ (zR (zF fl_65_0 rfl (wl (y_load pl_3 rfl (hS.cell rfl)) rfl (zE (zB (zQ (zR (wl (y_eql rfl rfl) rfl (zA rfl (zE (zIf rfl (fun hc5 => ?_) fun hc5 => ?_))))))))))))))))
  · refine zQ ?_
    refine zR (zF fl_65_1 rfl (wl (y_load pl_2 rfl (hS.cell rfl)) rfl (wl_call (.cons rfl .nil) (num_c x.n hS) rfl ?_)))
    rintro _ w ⟨rfl, hS⟩
    refine zG (vs := [_, _, _]) sz_65 rfl hS fun w hS => zE (zV (wret (vs := [_]) (.cell rfl (loadVar_struct st_65 sz_65 (vs := [_, _, _]) rfl (hS.cells rfl)) .nil) ?_))
    first
    | exact ⟨by simp only [clean, *, if_true, if_false]; rfl, hS.keep⟩
    | exact ⟨by simp [clean, *]; rfl, hS.keep⟩
  refine zQ ?_
  refine zR (wl (y_eql rfl rfl) rfl (zA rfl (zE (zIf rfl (fun hc10 => ?_) fun hc10 => ?_))))
  · refine zQ ?_
    refine zR (zF fl_65_2 rfl (wl (y_load pl_9 rfl (hS.cell rfl)) rfl (wl_call (.cons rfl .nil) (txt_c x.s hS) rfl ?_)))
    rintro _ w ⟨rfl, hS⟩
    refine zG (vs := [_, _, _]) sz_65 rfl hS fun w hS => zE (zV (wret (vs := [_]) (.cell rfl (loadVar_struct st_65 sz_65 (vs := [_, _, _]) rfl (hS.cells rfl)) .nil) ?_))
    first
    | exact ⟨by simp only [clean, *, if_true, if_false]; rfl, hS.keep⟩
    | exact ⟨by simp [clean, *]; rfl, hS.keep⟩
  refine zK ?_
  refine zQ (zR (wl (y_build (is := []) (xs := []) (out := [_, _, _]) plc_65 z_65 .nil rfl) rfl (zG (vs := [_, _, _]) sz_65 rfl hS fun w hS => zE (zV (wret (vs := [_]) (.cell rfl (loadVar_struct st_65 sz_65 (vs := [_, _, _]) rfl (hS.cells rfl)) .nil) ?_)))))
  first
  | exact ⟨by simp only [clean, *, if_true, if_false]; rfl, hS.keep⟩
  | exact ⟨by simp [clean, *]; rfl, hS.keep⟩
theorem apply_c (x : Valu) (u : Upd) (hu : u.s.size ≤ 2305843009213693952) (hx : x.s.size ≤ 2305843009213693952) (hS : St M w Ls) : CallsR Tryz.prog 201 [vv x, uv u].toArray w fun v w' => v = vv (apply x u) ∧ St M w' Ls := by
  have hcs : (clean x).s.size ≤ 2305843009213693952 := by unfold clean; split <;> (try split) <;> simp [num, txt, val0] <;> omega
  unfold apply
  refine zC 63 Tryz.func201 rfl (zQ (zR (a_box rfl hS rfl fun b2 w hS => a_box rfl hS rfl fun b3 w hS => a_alloc z_65 hS rfl fun b4 w hS => zE (zQ (zR (wl (y_loadS st_65 sz_65 rfl (hS.cells (vs := [_, _, _]) rfl) rfl) rfl (wl_call (.cons rfl .nil) (clean_c x hS) rfl ?_)))))))
  rintro _ w ⟨rfl, hS⟩
  obtain ⟨y, hy⟩ : ∃ y, clean x = y := ⟨_, rfl⟩
  rw [hy] at hcs ⊢
  refine zG (vs := [_, _, _]) sz_65 rfl hS fun w hS => zE (zQ (zQ (zR (zF fl_59_1 rfl (wl (y_load pl_3 rfl (hS.cell rfl)) rfl (zE (zB (zQ (zR (wl (y_eql rfl rfl) rfl (zA rfl (zE (zIf rfl (fun hc9 => ?_) fun hc9 => ?_)))))))))))))
  · refine zQ ?_
    refine zR (zF fl_59_2 rfl (wl (y_load pl_2 rfl (hS.cell rfl)) rfl (wl_call (.cons rfl .nil) (num_c _ hS) rfl ?_)))
    rintro _ w ⟨rfl, hS⟩
    refine zG (vs := [_, _, _]) sz_65 rfl hS fun w hS => zE (zV (wret (vs := [_]) (.cell rfl (loadVar_struct st_65 sz_65 (vs := [_, _, _]) rfl (hS.cells rfl)) .nil) (⟨?_, hS.keep⟩)))
    unfold app
    repeat (first | rw [if_pos (by first | assumption | omega)] | rw [if_neg (by first | assumption | omega)])
    all_goals rfl
  refine zQ ?_
  refine zR (wl (y_eql rfl rfl) rfl (zA rfl (zE (zIf rfl (fun hc14 => ?_) fun hc14 => ?_))))
  · refine zQ ?_
    refine zR (zF fl_59_3 rfl (wl (y_load pl_9 rfl (hS.cell rfl)) rfl (wl_call (.cons rfl .nil) (txt_c _ hS) rfl ?_)))
    rintro _ w ⟨rfl, hS⟩
    refine zG (vs := [_, _, _]) sz_65 rfl hS fun w hS => zE (zV (wret (vs := [_]) (.cell rfl (loadVar_struct st_65 sz_65 (vs := [_, _, _]) rfl (hS.cells rfl)) .nil) (⟨?_, hS.keep⟩)))
    unfold app
    repeat (first | rw [if_pos (by first | assumption | omega)] | rw [if_neg (by first | assumption | omega)])
    all_goals rfl
  refine zQ ?_
  refine zR (wl (y_eql rfl rfl) rfl (zA rfl (zE (zIf rfl (fun hc19 => ?_) fun hc19 => ?_))))
  · refine zQ ?_
    refine zR (wl (y_build (is := []) (xs := []) (out := [_, _, _]) plc_65 z_65 .nil rfl) rfl (zG (vs := [_, _, _]) sz_65 rfl hS fun w hS => zE (zV (wret (vs := [_]) (.cell rfl (loadVar_struct st_65 sz_65 (vs := [_, _, _]) rfl (hS.cells rfl)) .nil) (⟨?_, hS.keep⟩)))))
    unfold app
    repeat (first | rw [if_pos (by first | assumption | omega)] | rw [if_neg (by first | assumption | omega)])
    all_goals rfl
  refine zQ ?_
  refine zR (wl (y_eql rfl rfl) rfl (zA rfl (zE (zIf rfl (fun hc22 => ?_) fun hc22 => ?_))))
  · refine zQ ?_
    refine zR (zF fl_65_0 rfl (wl (y_load pl_3 rfl (hS.cell rfl)) rfl (wl (y_neq rfl rfl) rfl (zE (zIf rfl (fun hc26 => ?_) fun hc26 => ?_)))))
    · refine zQ ?_
      refine zR (zF fl_65_1 rfl (wl (y_load pl_2 rfl (hS.cell rfl)) rfl (zF fl_59_2 rfl (wl (y_load pl_2 rfl (hS.cell rfl)) rfl (wl (y_add rfl rfl rfl) rfl (wl_call (.cons rfl .nil) (num_c _ hS) rfl ?_))))))
      rintro _ w ⟨rfl, hS⟩
      refine zG (vs := [_, _, _]) sz_65 rfl hS fun w hS => zE (zV (wret (vs := [_]) (.cell rfl (loadVar_struct st_65 sz_65 (vs := [_, _, _]) rfl (hS.cells rfl)) .nil) (⟨?_, hS.keep⟩)))
      unfold app
      repeat (first | rw [if_pos (by first | assumption | omega)] | rw [if_neg (by first | assumption | omega)])
      all_goals rfl
    refine zK ?_
    refine zQ (zR (wl (y_loadS st_65 sz_65 rfl (hS.cells (vs := [_, _, _]) rfl) rfl) rfl (zG (vs := [_, _, _]) sz_65 rfl hS fun w hS => zE (zV (wret (vs := [_]) (.cell rfl (loadVar_struct st_65 sz_65 (vs := [_, _, _]) rfl (hS.cells rfl)) .nil) (⟨?_, hS.keep⟩))))))
    unfold app
    repeat (first | rw [if_pos (by first | assumption | omega)] | rw [if_neg (by first | assumption | omega)])
    all_goals rfl
  refine zQ ?_
  refine zR (wl (y_eql rfl rfl) rfl (zA rfl (zE (zIf rfl (fun hc33 => ?_) fun hc33 => ?_))))
  · refine zB ?_
    refine zQ (zR (zF fl_65_0 rfl (wl (y_load pl_3 rfl (hS.cell rfl)) rfl (wl (y_eql rfl rfl) rfl (zA rfl (zE (zIf rfl (fun hc35 => ?_) fun hc35 => ?_)))))))
    · refine zQ ?_
      refine zR (zF fl_59_3 rfl (wl (y_load pl_9 rfl (hS.cell rfl)) rfl (wl_call (.cons rfl .nil) (txt_c _ hS) rfl ?_)))
      rintro _ w ⟨rfl, hS⟩
      refine zG (vs := [_, _, _]) sz_65 rfl hS fun w hS => zE (zV (wret (vs := [_]) (.cell rfl (loadVar_struct st_65 sz_65 (vs := [_, _, _]) rfl (hS.cells rfl)) .nil) (⟨?_, hS.keep⟩)))
      unfold app
      repeat (first | rw [if_pos (by first | assumption | omega)] | rw [if_neg (by first | assumption | omega)])
      all_goals rfl
    refine zQ ?_
    refine zR (zF fl_65_0 rfl (wl (y_load pl_3 rfl (hS.cell rfl)) rfl (wl (y_eql rfl rfl) rfl (zM rfl (zWc (s := 46) rfl (fun hg46 => ?_) fun hg46 => ?_)))))
    · refine zI rfl ?_
      refine zF fl_65_2 rfl (zI rfl (wl (y_load pl_9 rfl (hS.cell rfl)) rfl (zI rfl (wl (y_len_s Tryz.underlying9 rfl) rfl (zI rfl (zF fl_59_3 rfl (zI rfl (wl (y_load pl_9 rfl (hS.cell rfl)) rfl (zI rfl (wl (y_len_s Tryz.underlying9 rfl) rfl (zI rfl (wl (y_add rfl rfl (w64 (by omega) (by omega))) rfl (zI rfl (wl (y_leq rfl rfl) rfl (wl (y_pickT rfl rfl) rfl (zA rfl (zE (zIf rfl (fun hc42 => ?_) fun hc42 => ?_))))))))))))))))))
      · refine zQ ?_
        refine zR (zF fl_65_2 rfl (wl (y_load pl_9 rfl (hS.cell rfl)) rfl (zF fl_59_3 rfl (wl (y_load pl_9 rfl (hS.cell rfl)) rfl (wl (y_sadd rfl rfl (by omega)) rfl (wl_call (.cons rfl .nil) (txt_c _ hS) rfl ?_))))))
        rintro _ w ⟨rfl, hS⟩
        refine zG (vs := [_, _, _]) sz_65 rfl hS fun w hS => zE (zV (wret (vs := [_]) (.cell rfl (loadVar_struct st_65 sz_65 (vs := [_, _, _]) rfl (hS.cells rfl)) .nil) (⟨?_, hS.keep⟩)))
        unfold app
        repeat (first | rw [if_pos (by first | assumption | omega)] | rw [if_neg (by first | assumption | omega)])
        all_goals rfl
      refine zK ?_
      refine zQ (zR (wl (y_loadS st_65 sz_65 rfl (hS.cells (vs := [_, _, _]) rfl) rfl) rfl (zG (vs := [_, _, _]) sz_65 rfl hS fun w hS => zE (zV (wret (vs := [_]) (.cell rfl (loadVar_struct st_65 sz_65 (vs := [_, _, _]) rfl (hS.cells rfl)) .nil) (⟨?_, hS.keep⟩))))))
      unfold app
      repeat (first | rw [if_pos (by first | assumption | omega)] | rw [if_neg (by first | assumption | omega)])
      all_goals rfl
    refine zO rfl ?_
    refine zO rfl (zO rfl (zO rfl (zO rfl (zO rfl (zO rfl (zO rfl (wl (y_pickF rfl rfl) rfl (zA rfl (zE (wc_ifF rfl rfl (zK (zQ (zR (wl (y_loadS st_65 sz_65 rfl (hS.cells (vs := [_, _, _]) rfl) rfl) rfl (zG (vs := [_, _, _]) sz_65 rfl hS fun w hS => zE (zV (wret (vs := [_]) (.cell rfl (loadVar_struct st_65 sz_65 (vs := [_, _, _]) rfl (hS.cells rfl)) .nil) (⟨?_, hS.keep⟩))))))))))))))))))
    unfold app
    repeat (first | rw [if_pos (by first | assumption | omega)] | rw [if_neg (by first | assumption | omega)])
    all_goals rfl
  refine zK ?_
  refine zQ (zR (wl (y_loadS st_65 sz_65 rfl (hS.cells (vs := [_, _, _]) rfl) rfl) rfl (zG (vs := [_, _, _]) sz_65 rfl hS fun w hS => zE (zV (wret (vs := [_]) (.cell rfl (loadVar_struct st_65 sz_65 (vs := [_, _, _]) rfl (hS.cells rfl)) .nil) (⟨?_, hS.keep⟩))))))
  unfold app
  repeat (first | rw [if_pos (by first | assumption | omega)] | rw [if_neg (by first | assumption | omega)])
  all_goals rfl
end
end Go.Proofs.YtndahppmjdbifaaGreatDoor.Val
set_option linter.unusedVariables false
set_option linter.unusedSimpArgs false
namespace Go.Proofs.YtndahppmjdbifaaGreatDoor.Val
open Go Go.Proofs Eng Pre Pak
@[irreducible] def ubytes (u : Upd) : List UInt8 :=
  pput u.kind.toNat ++ ptext u.key ++ (if u.kind = 1 ∨ u.kind = 3 then pput (zig u.n) else if u.kind = 2 ∨ u.kind = 4 then ptext u.s else [])
theorem pput_length (n : Nat) : (pput n).length ≤ 8 := by unfold pput; rw [be_length]; exact psize_le n
theorem ptext_length (b : ByteArray) : (ptext b).length ≤ 8 + b.size := by
  unfold ptext
  rw [List.length_append]
  have := pput_length b.size
  have h2 : b.data.toList.length = b.size := by simp
  omega
theorem mayU_ok {u : Upd} (h : mayU u = 0) : 1 ≤ u.kind ∧ u.kind ≤ 5 ∧ 1 ≤ u.key.size ∧ u.key.size ≤ 16 ∧ u.s.size ≤ 32 ∧ -2305843009213693952 ≤ u.n ∧ u.n < 2305843009213693952 := by
  have he : ((⟨#[]⟩ : ByteArray)).size = 0 := rfl
  unfold mayU at h
  split at h; · cases h
  split at h; · cases h
  split at h
  · rename_i h1 h2 h3
    split at h; · cases h
    split at h; · cases h
    split at h; · cases h
    rename_i h4 h5 h6
    have h7 : u.s = ⟨#[]⟩ := by simpa using h4
    rw [h7, he]
    omega
  split at h
  · split at h; · cases h
    split at h; · cases h
    omega
  split at h
  · split at h; · cases h
    split at h; · cases h
    rename_i h4 h5 h6
    have h7 : u.s = ⟨#[]⟩ := by simpa using h6
    rw [h7, he]
    omega
  cases h
theorem ubytes_length {u : Upd} (h : mayU u = 0) : (ubytes u).length ≤ 72 := by
  have h1 := mayU_ok h
  unfold ubytes
  rw [List.length_append, List.length_append]
  have a := pput_length u.kind.toNat
  have b := ptext_length u.key
  have c : (if u.kind = 1 ∨ u.kind = 3 then pput (zig u.n) else if u.kind = 2 ∨ u.kind = 4 then ptext u.s else []).length ≤ 40 := by
    split
    · have := pput_length (zig u.n); omega
    split
    · have := ptext_length u.s; omega
    simp
  omega
@[irreducible] def ru1 (r : Rdr) : Rdr := if (rnum r 5).1 = 0 then rfail (rnum r 5).2 5 else (rnum r 5).2
@[irreducible] def ru2 (r : Rdr) : ByteArray × Rdr := rtext (ru1 r) 16
@[irreducible] def ru3 (r : Rdr) : Rdr := if (ru2 r).1 = ⟨#[]⟩ then rfail (ru2 r).2 1 else (ru2 r).2
@[irreducible] def ru4 (r : Rdr) : Int × ByteArray × Rdr :=
  if (rnum r 5).1 = 1 ∨ (rnum r 5).1 = 3 then ((rsig (ru3 r)).1, ByteArray.empty, (rsig (ru3 r)).2) else
  if (rnum r 5).1 = 2 ∨ (rnum r 5).1 = 4 then (0, (rtext (ru3 r) 32).1, (rtext (ru3 r) 32).2) else (0, ByteArray.empty, ru3 r)
@[irreducible] def ruU (r : Rdr) : Upd := if (ru4 r).2.2.e ≠ 0 then upd0 else ⟨(ru2 r).1, (rnum r 5).1, (ru4 r).1, (ru4 r).2.1⟩
@[irreducible] def ruR (r : Rdr) : Rdr := (ru4 r).2.2
theorem ru1_ok {r : Rdr} (h : r.ok) : (ru1 r).ok := by
  have h1 := rnum_ok h 5
  unfold ru1; split
  · exact (rfail_ok h1.1 5).1
  exact h1.1
theorem ru3_ok {r : Rdr} (h : r.ok) : (ru3 r).ok := by
  have h1 : (ru2 r).2.ok := by unfold ru2; exact (rtext_ok (ru1_ok h) 16).1
  unfold ru3
  by_cases hc : (ru2 r).1 = ⟨#[]⟩
  · rw [if_pos hc]; exact (rfail_ok h1 1).1
  rw [if_neg hc]; exact h1
theorem rsig_ok {r : Rdr} (h : r.ok) : (rsig r).2.ok := by unfold rsig; exact (rraw_ok h).1
theorem ruR_ok {r : Rdr} (h : r.ok) : (ruR r).ok := by
  have h3 := ru3_ok h
  unfold ruR ru4; split
  · exact rsig_ok h3
  split
  · exact (rtext_ok h3 32).1
  exact h3
section
variable {M : Mem} {w : World} {Ls : List Chunk}
theorem uwrite_c (hG : Bits M) {p : Nat} {bs : List UInt8} {H : Chunk} (u : Upd) (hu : mayU u = 0) (hb : IsW p bs false H) (hs : bs.length ≤ 17179869184) (hS : St M w (H :: Ls)) :
    CallsR Tryz.prog 123 [.pointer (some ⟨p, 0, none⟩), uv u].toArray w fun v w' => ∃ H', IsW p (bs ++ ubytes u) false H' ∧ St M w' (H' :: Ls) := by
  obtain ⟨k1, k2, k3, k4, k5, k6, k7⟩ := mayU_ok hu
  obtain ⟨k, hk⟩ : ∃ k : Nat, u.kind = k := ⟨u.kind.toNat, by omega⟩
  have hub : bs ++ ubytes u = bs ++ pput k ++ ptext u.key ++ (if u.kind = 1 ∨ u.kind = 3 then pput (zig u.n) else if u.kind = 2 ∨ u.kind = 4 then ptext u.s else []) := by
    unfold ubytes; rw [hk]; simp
  rw [hub]
  have l1 := pput_length k
  have l2 := ptext_length u.key
  refine zC 28 Tryz.func123 rfl (zQ (zR (a_box rfl hS rfl fun b3 w hS => zE (zQ (zR (zM rfl (zF fl_59_1 rfl (wl ((y_load pl_3 rfl (hS.cell rfl)).val (congrArg (Value.int .i64) hk)) rfl (wl_call (.cons rfl (.cons rfl .nil)) (wnum_c hG k (by omega) hb (by omega) (hS.pull H)) rfl ?_)))))))))
  rintro _ w ⟨H1, hb, hS⟩
  refine zE (zQ (zR (zM rfl (zF fl_59_0 rfl (wl (y_load pl_9 rfl (hS.c (v := .string u.key))) rfl (wl_call (.cons rfl (.cons rfl .nil)) (wtext_c hG u.key (by omega) hb (by rw [List.length_append]; omega) hS) rfl ?_))))))
  rintro _ w ⟨H2, hb, hS⟩
  refine zE (zQ (zR (zF fl_59_1 rfl (wl (y_load pl_3 rfl (hS.c (v := .int .i64 u.kind))) rfl (zE (zB (zQ (zQ (zR (wl (y_eql rfl rfl) rfl (zA rfl (zE (zCs rfl (fun hc14 => ?_) fun hc14 => ?_)))))))))))))
  · refine zK ?_
    refine wc_ifT rfl rfl (zR (zM rfl (zF fl_59_2 rfl (wl (y_load pl_2 rfl (hS.c (v := .int .i64 u.n))) rfl (wl_call (.cons rfl (.cons rfl .nil)) (wsig_c hG u.n ⟨k6, k7⟩ hb (by simp only [List.length_append]; omega) hS) rfl ?_)))))
    rintro _ w ⟨H3, hb, hS⟩
    refine zE (wretN (vs := []) .nil ?_)
    first
    | (rw [if_pos (by omega)]; exact ⟨_, hb, hS.keep⟩)
    | (rw [if_neg (by omega), if_pos (by omega)]; exact ⟨_, hb, hS.keep⟩)
    | (rw [if_neg (by omega), if_neg (by omega), List.append_nil]; exact ⟨_, hb, hS.keep⟩)
  refine zR ?_
  refine wl (y_eql rfl rfl) rfl (zA rfl (zE (zCs rfl (fun hc14 => ?_) fun hc14 => ?_)))
  · refine zR ?_
    refine zM rfl (zF fl_59_2 rfl (wl (y_load pl_2 rfl (hS.c (v := .int .i64 u.n))) rfl (wl_call (.cons rfl (.cons rfl .nil)) (wsig_c hG u.n ⟨k6, k7⟩ hb (by simp only [List.length_append]; omega) hS) rfl ?_)))
    rintro _ w ⟨H3, hb, hS⟩
    refine zE (wretN (vs := []) .nil ?_)
    first
    | (rw [if_pos (by omega)]; exact ⟨_, hb, hS.keep⟩)
    | (rw [if_neg (by omega), if_pos (by omega)]; exact ⟨_, hb, hS.keep⟩)
    | (rw [if_neg (by omega), if_neg (by omega), List.append_nil]; exact ⟨_, hb, hS.keep⟩)
  refine zQ ?_
  refine zQ (zR (wl (y_eql rfl rfl) rfl (zA rfl (zE (zCs rfl (fun hc21 => ?_) fun hc21 => ?_)))))
  · refine zK ?_
    refine wc_ifT rfl rfl (zR (zM rfl (zF fl_59_3 rfl (wl (y_load pl_9 rfl (hS.c (v := .string u.s))) rfl (wl_call (.cons rfl (.cons rfl .nil)) (wtext_c hG u.s (by omega) hb (by simp only [List.length_append]; omega) hS) rfl ?_)))))
    rintro _ w ⟨H3, hb, hS⟩
    refine zE (wretN (vs := []) .nil ?_)
    first
    | (rw [if_pos (by omega)]; exact ⟨_, hb, hS.keep⟩)
    | (rw [if_neg (by omega), if_pos (by omega)]; exact ⟨_, hb, hS.keep⟩)
    | (rw [if_neg (by omega), if_neg (by omega), List.append_nil]; exact ⟨_, hb, hS.keep⟩)
  refine zR ?_
  refine wl (y_eql rfl rfl) rfl (zA rfl (zE (zCs rfl (fun hc21 => ?_) fun hc21 => ?_)))
  · refine zR ?_
    refine zM rfl (zF fl_59_3 rfl (wl (y_load pl_9 rfl (hS.c (v := .string u.s))) rfl (wl_call (.cons rfl (.cons rfl .nil)) (wtext_c hG u.s (by omega) hb (by simp only [List.length_append]; omega) hS) rfl ?_)))
    rintro _ w ⟨H3, hb, hS⟩
    refine zE (wretN (vs := []) .nil ?_)
    first
    | (rw [if_pos (by omega)]; exact ⟨_, hb, hS.keep⟩)
    | (rw [if_neg (by omega), if_pos (by omega)]; exact ⟨_, hb, hS.keep⟩)
    | (rw [if_neg (by omega), if_neg (by omega), List.append_nil]; exact ⟨_, hb, hS.keep⟩)
  refine zK ?_
  refine wretN (vs := []) .nil ?_
  first
  | (rw [if_pos (by omega)]; exact ⟨_, hb, hS.keep⟩)
  | (rw [if_neg (by omega), if_pos (by omega)]; exact ⟨_, hb, hS.keep⟩)
  | (rw [if_neg (by omega), if_neg (by omega), List.append_nil]; exact ⟨_, hb, hS.keep⟩)
theorem uread_c (hG : Bits M) {p : Nat} {r : Rdr} (h : r.ok) (hS : St M w ([(p, rdrO r)] :: Ls)) :
    CallsR Tryz.prog 142 [.pointer (some ⟨p, 0, none⟩)].toArray w fun v w' => v = uv (ruU r) ∧ St M w' ([(p, rdrO (ruR r))] :: Ls) := by
  have h1 := ru1_ok h
  have h3 := ru3_ok h
  unfold ruU ruR
  have e2 : rtext (ru1 r) 16 = ru2 r := by unfold ru2; rfl
  refine zC 39 Tryz.func142 rfl (zQ (zR (a_alloc z_59 hS rfl fun b2 w hS => zE (zQ (zR (zM rfl (wl_call (.cons rfl (.cons rfl .nil)) (rnum_c hG 5 (by decide) h (hS.pull [(p, rdrO r)])) rfl ?_)))))))
  rintro _ w ⟨rfl, hS⟩
  refine wl (y_build (is := [1]) (xs := [_]) (out := [_, _, _, _]) plc_59 z_59 (.cons rfl .nil) rfl) rfl (a_alloc z_59 hS rfl fun b3 w hS => zG (vs := [_, _, _, _]) sz_59 rfl hS fun w hS => zE ?_)
  simp only [zL, cells_agg, setCells] at hS
  refine zQ (zQ (zR (zF fl_59_1 rfl (wl (y_load pl_3 rfl (hS.cell rfl)) rfl (wl (y_eql rfl rfl) rfl (zE (zIf rfl (fun hc9 => ?_) fun hc9 => ?_)))))))
  · have e1 : rfail (rnum r 5).2 5 = ru1 r := by unfold ru1; rw [if_pos (by omega)]
    refine zR (zM rfl (wl_call (.cons rfl (.cons rfl .nil)) (rfail_c 5 (hS.pull [(p, rdrO (rnum r 5).2)])) rfl ?_))
    intro _ w hS
    rw [e1] at hS
    refine zE (zQ (zQ (zR (zM rfl (wl_call (.cons rfl (.cons rfl .nil)) (rtext_c hG 16 (by decide) h1 (hS.pull [(p, rdrO (ru1 r))])) rfl ?_)))))
    rintro _ w ⟨rfl, hS⟩
    rw [e2] at hS ⊢
    refine zF fl_59_0 rfl (zS sz_9 rfl hS fun w hS => zE ?_)
    simp only [zL, cells_agg, setCells] at hS
    refine zQ (zR (zF fl_59_0 rfl (wl (y_load pl_9 rfl (hS.cell rfl)) rfl (wl (y_seql rfl rfl) rfl (zE (zIf rfl (fun hc17 => ?_) fun hc17 => ?_))))))
    · have e3 : rfail (ru2 r).2 1 = ru3 r := by unfold ru3; rw [if_pos hc17]
      refine zR (zM rfl (wl_call (.cons rfl (.cons rfl .nil)) (rfail_c 1 (hS.pull [(p, rdrO (ru2 r).2)])) rfl ?_))
      intro _ w hS
      rw [e3] at hS
      refine zE (zQ (zQ (zR (zF fl_59_1 rfl (wl (y_load pl_3 rfl (hS.cell rfl)) rfl (zE (zB (zQ (zQ (zR (wl (y_eql rfl rfl) rfl (zA rfl (zE (zCs rfl (fun hc22 => ?_) fun hc22 => ?_))))))))))))))
      · refine zK ?_
        refine wc_ifT rfl rfl (zR (zM rfl (wl_call (.cons rfl .nil) (rsig_c hG h3 (hS.pull [(p, rdrO (ru3 r))])) rfl ?_)))
        rintro _ w ⟨rfl, hS⟩
        refine zF fl_59_2 rfl (zS sz_2 rfl hS fun w hS => zE ?_)
        simp only [zL, cells_agg, setCells] at hS
        refine zQ (zQ ?_)
        obtain ⟨q, hq⟩ : ∃ q, q = (ru4 r).2.2 := ⟨_, rfl⟩
        first
          | (have e4 : ru4 r = ((rsig (ru3 r)).1, ByteArray.empty, (rsig (ru3 r)).2) := by (unfold ru4; rw [if_pos (by omega)])
             have eq : (rsig (ru3 r)).2 = q := by rw [hq, e4]
             rw [e4]; simp only; rw [eq] at hS ⊢)
          | (have e4 : ru4 r = (0, (rtext (ru3 r) 32).1, (rtext (ru3 r) 32).2) := by (unfold ru4; rw [if_neg (by omega), if_pos (by omega)])
             have eq : (rtext (ru3 r) 32).2 = q := by rw [hq, e4]
             rw [e4]; simp only; rw [eq] at hS ⊢)
          | (have e4 : ru4 r = (0, ByteArray.empty, ru3 r) := by (unfold ru4; rw [if_neg (by omega), if_neg (by omega)])
             have eq : ru3 r = q := by rw [hq, e4]
             rw [e4]; simp only; rw [eq] at hS ⊢)
        clear hq
        refine zR (zM rfl (wl_call (.cons rfl .nil) (rerr_c (hS.pull [(p, rdrO q)])) rfl ?_))
        rintro _ w ⟨rfl, hS⟩
        refine wl (y_neq rfl rfl) rfl (zE (zIf rfl (fun hc36 => ?_) fun hc36 => ?_))
        · rw [if_pos (by omega)]
          refine zQ (zR (wl (y_build (is := []) (xs := []) (out := [_, _, _, _]) plc_59 z_59 .nil rfl) rfl (zG (vs := [_, _, _, _]) sz_59 rfl hS fun w hS => zE (zV (wret (vs := [_]) (.cell rfl (loadVar_struct st_59 sz_59 (vs := [_, _, _, _]) rfl (hS.cells rfl)) .nil) ?_)))))
          exact ⟨rfl, hS.keep⟩
        rw [if_neg (by omega)]
        refine zK (zQ (zR (wl (y_loadS st_59 sz_59 rfl (hS.cells (vs := [_, _, _, _]) rfl) rfl) rfl (zG (vs := [_, _, _, _]) sz_59 rfl hS fun w hS => zE (zV (wret (vs := [_]) (.cell rfl (loadVar_struct st_59 sz_59 (vs := [_, _, _, _]) rfl (hS.cells rfl)) .nil) ?_))))))
        exact ⟨rfl, hS.keep⟩
      refine zR ?_
      refine wl (y_eql rfl rfl) rfl (zA rfl (zE (zCs rfl (fun hc22 => ?_) fun hc22 => ?_)))
      · refine zR ?_
        refine zM rfl (wl_call (.cons rfl .nil) (rsig_c hG h3 (hS.pull [(p, rdrO (ru3 r))])) rfl ?_)
        rintro _ w ⟨rfl, hS⟩
        refine zF fl_59_2 rfl (zS sz_2 rfl hS fun w hS => zE ?_)
        simp only [zL, cells_agg, setCells] at hS
        refine zQ (zQ ?_)
        obtain ⟨q, hq⟩ : ∃ q, q = (ru4 r).2.2 := ⟨_, rfl⟩
        first
          | (have e4 : ru4 r = ((rsig (ru3 r)).1, ByteArray.empty, (rsig (ru3 r)).2) := by (unfold ru4; rw [if_pos (by omega)])
             have eq : (rsig (ru3 r)).2 = q := by rw [hq, e4]
             rw [e4]; simp only; rw [eq] at hS ⊢)
          | (have e4 : ru4 r = (0, (rtext (ru3 r) 32).1, (rtext (ru3 r) 32).2) := by (unfold ru4; rw [if_neg (by omega), if_pos (by omega)])
             have eq : (rtext (ru3 r) 32).2 = q := by rw [hq, e4]
             rw [e4]; simp only; rw [eq] at hS ⊢)
          | (have e4 : ru4 r = (0, ByteArray.empty, ru3 r) := by (unfold ru4; rw [if_neg (by omega), if_neg (by omega)])
             have eq : ru3 r = q := by rw [hq, e4]
             rw [e4]; simp only; rw [eq] at hS ⊢)
        clear hq
        refine zR (zM rfl (wl_call (.cons rfl .nil) (rerr_c (hS.pull [(p, rdrO q)])) rfl ?_))
        rintro _ w ⟨rfl, hS⟩
        refine wl (y_neq rfl rfl) rfl (zE (zIf rfl (fun hc36 => ?_) fun hc36 => ?_))
        · rw [if_pos (by omega)]
          refine zQ (zR (wl (y_build (is := []) (xs := []) (out := [_, _, _, _]) plc_59 z_59 .nil rfl) rfl (zG (vs := [_, _, _, _]) sz_59 rfl hS fun w hS => zE (zV (wret (vs := [_]) (.cell rfl (loadVar_struct st_59 sz_59 (vs := [_, _, _, _]) rfl (hS.cells rfl)) .nil) ?_)))))
          exact ⟨rfl, hS.keep⟩
        rw [if_neg (by omega)]
        refine zK (zQ (zR (wl (y_loadS st_59 sz_59 rfl (hS.cells (vs := [_, _, _, _]) rfl) rfl) rfl (zG (vs := [_, _, _, _]) sz_59 rfl hS fun w hS => zE (zV (wret (vs := [_]) (.cell rfl (loadVar_struct st_59 sz_59 (vs := [_, _, _, _]) rfl (hS.cells rfl)) .nil) ?_))))))
        exact ⟨rfl, hS.keep⟩
      refine zQ ?_
      refine zQ (zR (wl (y_eql rfl rfl) rfl (zA rfl (zE (zCs rfl (fun hc28 => ?_) fun hc28 => ?_)))))
      · refine zK ?_
        refine wc_ifT rfl rfl (zR (zM rfl (wl_call (.cons rfl (.cons rfl .nil)) (rtext_c hG 32 (by decide) h3 (hS.pull [(p, rdrO (ru3 r))])) rfl ?_)))
        rintro _ w ⟨rfl, hS⟩
        refine zF fl_59_3 rfl (zS sz_9 rfl hS fun w hS => zE ?_)
        simp only [zL, cells_agg, setCells] at hS
        refine zQ (zQ ?_)
        obtain ⟨q, hq⟩ : ∃ q, q = (ru4 r).2.2 := ⟨_, rfl⟩
        first
          | (have e4 : ru4 r = ((rsig (ru3 r)).1, ByteArray.empty, (rsig (ru3 r)).2) := by (unfold ru4; rw [if_pos (by omega)])
             have eq : (rsig (ru3 r)).2 = q := by rw [hq, e4]
             rw [e4]; simp only; rw [eq] at hS ⊢)
          | (have e4 : ru4 r = (0, (rtext (ru3 r) 32).1, (rtext (ru3 r) 32).2) := by (unfold ru4; rw [if_neg (by omega), if_pos (by omega)])
             have eq : (rtext (ru3 r) 32).2 = q := by rw [hq, e4]
             rw [e4]; simp only; rw [eq] at hS ⊢)
          | (have e4 : ru4 r = (0, ByteArray.empty, ru3 r) := by (unfold ru4; rw [if_neg (by omega), if_neg (by omega)])
             have eq : ru3 r = q := by rw [hq, e4]
             rw [e4]; simp only; rw [eq] at hS ⊢)
        clear hq
        refine zR (zM rfl (wl_call (.cons rfl .nil) (rerr_c (hS.pull [(p, rdrO q)])) rfl ?_))
        rintro _ w ⟨rfl, hS⟩
        refine wl (y_neq rfl rfl) rfl (zE (zIf rfl (fun hc36 => ?_) fun hc36 => ?_))
        · rw [if_pos (by omega)]
          refine zQ (zR (wl (y_build (is := []) (xs := []) (out := [_, _, _, _]) plc_59 z_59 .nil rfl) rfl (zG (vs := [_, _, _, _]) sz_59 rfl hS fun w hS => zE (zV (wret (vs := [_]) (.cell rfl (loadVar_struct st_59 sz_59 (vs := [_, _, _, _]) rfl (hS.cells rfl)) .nil) ?_)))))
          exact ⟨rfl, hS.keep⟩
        rw [if_neg (by omega)]
        refine zK (zQ (zR (wl (y_loadS st_59 sz_59 rfl (hS.cells (vs := [_, _, _, _]) rfl) rfl) rfl (zG (vs := [_, _, _, _]) sz_59 rfl hS fun w hS => zE (zV (wret (vs := [_]) (.cell rfl (loadVar_struct st_59 sz_59 (vs := [_, _, _, _]) rfl (hS.cells rfl)) .nil) ?_))))))
        exact ⟨rfl, hS.keep⟩
      refine zR ?_
      refine wl (y_eql rfl rfl) rfl (zA rfl (zE (zCs rfl (fun hc28 => ?_) fun hc28 => ?_)))
      · refine zR ?_
        refine zM rfl (wl_call (.cons rfl (.cons rfl .nil)) (rtext_c hG 32 (by decide) h3 (hS.pull [(p, rdrO (ru3 r))])) rfl ?_)
        rintro _ w ⟨rfl, hS⟩
        refine zF fl_59_3 rfl (zS sz_9 rfl hS fun w hS => zE ?_)
        simp only [zL, cells_agg, setCells] at hS
        refine zQ (zQ ?_)
        obtain ⟨q, hq⟩ : ∃ q, q = (ru4 r).2.2 := ⟨_, rfl⟩
        first
          | (have e4 : ru4 r = ((rsig (ru3 r)).1, ByteArray.empty, (rsig (ru3 r)).2) := by (unfold ru4; rw [if_pos (by omega)])
             have eq : (rsig (ru3 r)).2 = q := by rw [hq, e4]
             rw [e4]; simp only; rw [eq] at hS ⊢)
          | (have e4 : ru4 r = (0, (rtext (ru3 r) 32).1, (rtext (ru3 r) 32).2) := by (unfold ru4; rw [if_neg (by omega), if_pos (by omega)])
             have eq : (rtext (ru3 r) 32).2 = q := by rw [hq, e4]
             rw [e4]; simp only; rw [eq] at hS ⊢)
          | (have e4 : ru4 r = (0, ByteArray.empty, ru3 r) := by (unfold ru4; rw [if_neg (by omega), if_neg (by omega)])
             have eq : ru3 r = q := by rw [hq, e4]
             rw [e4]; simp only; rw [eq] at hS ⊢)
        clear hq
        refine zR (zM rfl (wl_call (.cons rfl .nil) (rerr_c (hS.pull [(p, rdrO q)])) rfl ?_))
        rintro _ w ⟨rfl, hS⟩
        refine wl (y_neq rfl rfl) rfl (zE (zIf rfl (fun hc36 => ?_) fun hc36 => ?_))
        · rw [if_pos (by omega)]
          refine zQ (zR (wl (y_build (is := []) (xs := []) (out := [_, _, _, _]) plc_59 z_59 .nil rfl) rfl (zG (vs := [_, _, _, _]) sz_59 rfl hS fun w hS => zE (zV (wret (vs := [_]) (.cell rfl (loadVar_struct st_59 sz_59 (vs := [_, _, _, _]) rfl (hS.cells rfl)) .nil) ?_)))))
          exact ⟨rfl, hS.keep⟩
        rw [if_neg (by omega)]
        refine zK (zQ (zR (wl (y_loadS st_59 sz_59 rfl (hS.cells (vs := [_, _, _, _]) rfl) rfl) rfl (zG (vs := [_, _, _, _]) sz_59 rfl hS fun w hS => zE (zV (wret (vs := [_]) (.cell rfl (loadVar_struct st_59 sz_59 (vs := [_, _, _, _]) rfl (hS.cells rfl)) .nil) ?_))))))
        exact ⟨rfl, hS.keep⟩
      refine zK ?_
      refine zQ (zQ ?_)
      obtain ⟨q, hq⟩ : ∃ q, q = (ru4 r).2.2 := ⟨_, rfl⟩
      first
        | (have e4 : ru4 r = ((rsig (ru3 r)).1, ByteArray.empty, (rsig (ru3 r)).2) := by (unfold ru4; rw [if_pos (by omega)])
           have eq : (rsig (ru3 r)).2 = q := by rw [hq, e4]
           rw [e4]; simp only; rw [eq] at hS ⊢)
        | (have e4 : ru4 r = (0, (rtext (ru3 r) 32).1, (rtext (ru3 r) 32).2) := by (unfold ru4; rw [if_neg (by omega), if_pos (by omega)])
           have eq : (rtext (ru3 r) 32).2 = q := by rw [hq, e4]
           rw [e4]; simp only; rw [eq] at hS ⊢)
        | (have e4 : ru4 r = (0, ByteArray.empty, ru3 r) := by (unfold ru4; rw [if_neg (by omega), if_neg (by omega)])
           have eq : ru3 r = q := by rw [hq, e4]
           rw [e4]; simp only; rw [eq] at hS ⊢)
      clear hq
      refine zR (zM rfl (wl_call (.cons rfl .nil) (rerr_c (hS.pull [(p, rdrO q)])) rfl ?_))
      rintro _ w ⟨rfl, hS⟩
      refine wl (y_neq rfl rfl) rfl (zE (zIf rfl (fun hc36 => ?_) fun hc36 => ?_))
      · rw [if_pos (by omega)]
        refine zQ (zR (wl (y_build (is := []) (xs := []) (out := [_, _, _, _]) plc_59 z_59 .nil rfl) rfl (zG (vs := [_, _, _, _]) sz_59 rfl hS fun w hS => zE (zV (wret (vs := [_]) (.cell rfl (loadVar_struct st_59 sz_59 (vs := [_, _, _, _]) rfl (hS.cells rfl)) .nil) ?_)))))
        exact ⟨rfl, hS.keep⟩
      rw [if_neg (by omega)]
      refine zK (zQ (zR (wl (y_loadS st_59 sz_59 rfl (hS.cells (vs := [_, _, _, _]) rfl) rfl) rfl (zG (vs := [_, _, _, _]) sz_59 rfl hS fun w hS => zE (zV (wret (vs := [_]) (.cell rfl (loadVar_struct st_59 sz_59 (vs := [_, _, _, _]) rfl (hS.cells rfl)) .nil) ?_))))))
      exact ⟨rfl, hS.keep⟩
    have e3 : (ru2 r).2 = ru3 r := by unfold ru3; rw [if_neg hc17]
    rw [e3] at hS
    refine zK (zQ (zQ (zR (zF fl_59_1 rfl (wl (y_load pl_3 rfl (hS.cell rfl)) rfl (zE (zB (zQ (zQ (zR (wl (y_eql rfl rfl) rfl (zA rfl (zE (zCs rfl (fun hc22 => ?_) fun hc22 => ?_))))))))))))))
    · refine zK ?_
      refine wc_ifT rfl rfl (zR (zM rfl (wl_call (.cons rfl .nil) (rsig_c hG h3 (hS.pull [(p, rdrO (ru3 r))])) rfl ?_)))
      rintro _ w ⟨rfl, hS⟩
      refine zF fl_59_2 rfl (zS sz_2 rfl hS fun w hS => zE ?_)
      simp only [zL, cells_agg, setCells] at hS
      refine zQ (zQ ?_)
      obtain ⟨q, hq⟩ : ∃ q, q = (ru4 r).2.2 := ⟨_, rfl⟩
      first
        | (have e4 : ru4 r = ((rsig (ru3 r)).1, ByteArray.empty, (rsig (ru3 r)).2) := by (unfold ru4; rw [if_pos (by omega)])
           have eq : (rsig (ru3 r)).2 = q := by rw [hq, e4]
           rw [e4]; simp only; rw [eq] at hS ⊢)
        | (have e4 : ru4 r = (0, (rtext (ru3 r) 32).1, (rtext (ru3 r) 32).2) := by (unfold ru4; rw [if_neg (by omega), if_pos (by omega)])
           have eq : (rtext (ru3 r) 32).2 = q := by rw [hq, e4]
           rw [e4]; simp only; rw [eq] at hS ⊢)
        | (have e4 : ru4 r = (0, ByteArray.empty, ru3 r) := by (unfold ru4; rw [if_neg (by omega), if_neg (by omega)])
           have eq : ru3 r = q := by rw [hq, e4]
           rw [e4]; simp only; rw [eq] at hS ⊢)
      clear hq
      refine zR (zM rfl (wl_call (.cons rfl .nil) (rerr_c (hS.pull [(p, rdrO q)])) rfl ?_))
      rintro _ w ⟨rfl, hS⟩
      refine wl (y_neq rfl rfl) rfl (zE (zIf rfl (fun hc36 => ?_) fun hc36 => ?_))
      · rw [if_pos (by omega)]
        refine zQ (zR (wl (y_build (is := []) (xs := []) (out := [_, _, _, _]) plc_59 z_59 .nil rfl) rfl (zG (vs := [_, _, _, _]) sz_59 rfl hS fun w hS => zE (zV (wret (vs := [_]) (.cell rfl (loadVar_struct st_59 sz_59 (vs := [_, _, _, _]) rfl (hS.cells rfl)) .nil) ?_)))))
        exact ⟨rfl, hS.keep⟩
      rw [if_neg (by omega)]
      refine zK (zQ (zR (wl (y_loadS st_59 sz_59 rfl (hS.cells (vs := [_, _, _, _]) rfl) rfl) rfl (zG (vs := [_, _, _, _]) sz_59 rfl hS fun w hS => zE (zV (wret (vs := [_]) (.cell rfl (loadVar_struct st_59 sz_59 (vs := [_, _, _, _]) rfl (hS.cells rfl)) .nil) ?_))))))
      exact ⟨rfl, hS.keep⟩
    refine zR ?_
    refine wl (y_eql rfl rfl) rfl (zA rfl (zE (zCs rfl (fun hc22 => ?_) fun hc22 => ?_)))
    · refine zR ?_
      refine zM rfl (wl_call (.cons rfl .nil) (rsig_c hG h3 (hS.pull [(p, rdrO (ru3 r))])) rfl ?_)
      rintro _ w ⟨rfl, hS⟩
      refine zF fl_59_2 rfl (zS sz_2 rfl hS fun w hS => zE ?_)
      simp only [zL, cells_agg, setCells] at hS
      refine zQ (zQ ?_)
      obtain ⟨q, hq⟩ : ∃ q, q = (ru4 r).2.2 := ⟨_, rfl⟩
      first
        | (have e4 : ru4 r = ((rsig (ru3 r)).1, ByteArray.empty, (rsig (ru3 r)).2) := by (unfold ru4; rw [if_pos (by omega)])
           have eq : (rsig (ru3 r)).2 = q := by rw [hq, e4]
           rw [e4]; simp only; rw [eq] at hS ⊢)
        | (have e4 : ru4 r = (0, (rtext (ru3 r) 32).1, (rtext (ru3 r) 32).2) := by (unfold ru4; rw [if_neg (by omega), if_pos (by omega)])
           have eq : (rtext (ru3 r) 32).2 = q := by rw [hq, e4]
           rw [e4]; simp only; rw [eq] at hS ⊢)
        | (have e4 : ru4 r = (0, ByteArray.empty, ru3 r) := by (unfold ru4; rw [if_neg (by omega), if_neg (by omega)])
           have eq : ru3 r = q := by rw [hq, e4]
           rw [e4]; simp only; rw [eq] at hS ⊢)
      clear hq
      refine zR (zM rfl (wl_call (.cons rfl .nil) (rerr_c (hS.pull [(p, rdrO q)])) rfl ?_))
      rintro _ w ⟨rfl, hS⟩
      refine wl (y_neq rfl rfl) rfl (zE (zIf rfl (fun hc36 => ?_) fun hc36 => ?_))
      · rw [if_pos (by omega)]
        refine zQ (zR (wl (y_build (is := []) (xs := []) (out := [_, _, _, _]) plc_59 z_59 .nil rfl) rfl (zG (vs := [_, _, _, _]) sz_59 rfl hS fun w hS => zE (zV (wret (vs := [_]) (.cell rfl (loadVar_struct st_59 sz_59 (vs := [_, _, _, _]) rfl (hS.cells rfl)) .nil) ?_)))))
        exact ⟨rfl, hS.keep⟩
      rw [if_neg (by omega)]
      refine zK (zQ (zR (wl (y_loadS st_59 sz_59 rfl (hS.cells (vs := [_, _, _, _]) rfl) rfl) rfl (zG (vs := [_, _, _, _]) sz_59 rfl hS fun w hS => zE (zV (wret (vs := [_]) (.cell rfl (loadVar_struct st_59 sz_59 (vs := [_, _, _, _]) rfl (hS.cells rfl)) .nil) ?_))))))
      exact ⟨rfl, hS.keep⟩
    refine zQ ?_
    refine zQ (zR (wl (y_eql rfl rfl) rfl (zA rfl (zE (zCs rfl (fun hc28 => ?_) fun hc28 => ?_)))))
    · refine zK ?_
      refine wc_ifT rfl rfl (zR (zM rfl (wl_call (.cons rfl (.cons rfl .nil)) (rtext_c hG 32 (by decide) h3 (hS.pull [(p, rdrO (ru3 r))])) rfl ?_)))
      rintro _ w ⟨rfl, hS⟩
      refine zF fl_59_3 rfl (zS sz_9 rfl hS fun w hS => zE ?_)
      simp only [zL, cells_agg, setCells] at hS
      refine zQ (zQ ?_)
      obtain ⟨q, hq⟩ : ∃ q, q = (ru4 r).2.2 := ⟨_, rfl⟩
      first
        | (have e4 : ru4 r = ((rsig (ru3 r)).1, ByteArray.empty, (rsig (ru3 r)).2) := by (unfold ru4; rw [if_pos (by omega)])
           have eq : (rsig (ru3 r)).2 = q := by rw [hq, e4]
           rw [e4]; simp only; rw [eq] at hS ⊢)
        | (have e4 : ru4 r = (0, (rtext (ru3 r) 32).1, (rtext (ru3 r) 32).2) := by (unfold ru4; rw [if_neg (by omega), if_pos (by omega)])
           have eq : (rtext (ru3 r) 32).2 = q := by rw [hq, e4]
           rw [e4]; simp only; rw [eq] at hS ⊢)
        | (have e4 : ru4 r = (0, ByteArray.empty, ru3 r) := by (unfold ru4; rw [if_neg (by omega), if_neg (by omega)])
           have eq : ru3 r = q := by rw [hq, e4]
           rw [e4]; simp only; rw [eq] at hS ⊢)
      clear hq
      refine zR (zM rfl (wl_call (.cons rfl .nil) (rerr_c (hS.pull [(p, rdrO q)])) rfl ?_))
      rintro _ w ⟨rfl, hS⟩
      refine wl (y_neq rfl rfl) rfl (zE (zIf rfl (fun hc36 => ?_) fun hc36 => ?_))
      · rw [if_pos (by omega)]
        refine zQ (zR (wl (y_build (is := []) (xs := []) (out := [_, _, _, _]) plc_59 z_59 .nil rfl) rfl (zG (vs := [_, _, _, _]) sz_59 rfl hS fun w hS => zE (zV (wret (vs := [_]) (.cell rfl (loadVar_struct st_59 sz_59 (vs := [_, _, _, _]) rfl (hS.cells rfl)) .nil) ?_)))))
        exact ⟨rfl, hS.keep⟩
      rw [if_neg (by omega)]
      refine zK (zQ (zR (wl (y_loadS st_59 sz_59 rfl (hS.cells (vs := [_, _, _, _]) rfl) rfl) rfl (zG (vs := [_, _, _, _]) sz_59 rfl hS fun w hS => zE (zV (wret (vs := [_]) (.cell rfl (loadVar_struct st_59 sz_59 (vs := [_, _, _, _]) rfl (hS.cells rfl)) .nil) ?_))))))
      exact ⟨rfl, hS.keep⟩
    refine zR ?_
    refine wl (y_eql rfl rfl) rfl (zA rfl (zE (zCs rfl (fun hc28 => ?_) fun hc28 => ?_)))
    · refine zR ?_
      refine zM rfl (wl_call (.cons rfl (.cons rfl .nil)) (rtext_c hG 32 (by decide) h3 (hS.pull [(p, rdrO (ru3 r))])) rfl ?_)
      rintro _ w ⟨rfl, hS⟩
      refine zF fl_59_3 rfl (zS sz_9 rfl hS fun w hS => zE ?_)
      simp only [zL, cells_agg, setCells] at hS
      refine zQ (zQ ?_)
      obtain ⟨q, hq⟩ : ∃ q, q = (ru4 r).2.2 := ⟨_, rfl⟩
      first
        | (have e4 : ru4 r = ((rsig (ru3 r)).1, ByteArray.empty, (rsig (ru3 r)).2) := by (unfold ru4; rw [if_pos (by omega)])
           have eq : (rsig (ru3 r)).2 = q := by rw [hq, e4]
           rw [e4]; simp only; rw [eq] at hS ⊢)
        | (have e4 : ru4 r = (0, (rtext (ru3 r) 32).1, (rtext (ru3 r) 32).2) := by (unfold ru4; rw [if_neg (by omega), if_pos (by omega)])
           have eq : (rtext (ru3 r) 32).2 = q := by rw [hq, e4]
           rw [e4]; simp only; rw [eq] at hS ⊢)
        | (have e4 : ru4 r = (0, ByteArray.empty, ru3 r) := by (unfold ru4; rw [if_neg (by omega), if_neg (by omega)])
           have eq : ru3 r = q := by rw [hq, e4]
           rw [e4]; simp only; rw [eq] at hS ⊢)
      clear hq
      refine zR (zM rfl (wl_call (.cons rfl .nil) (rerr_c (hS.pull [(p, rdrO q)])) rfl ?_))
      rintro _ w ⟨rfl, hS⟩
      refine wl (y_neq rfl rfl) rfl (zE (zIf rfl (fun hc36 => ?_) fun hc36 => ?_))
      · rw [if_pos (by omega)]
        refine zQ (zR (wl (y_build (is := []) (xs := []) (out := [_, _, _, _]) plc_59 z_59 .nil rfl) rfl (zG (vs := [_, _, _, _]) sz_59 rfl hS fun w hS => zE (zV (wret (vs := [_]) (.cell rfl (loadVar_struct st_59 sz_59 (vs := [_, _, _, _]) rfl (hS.cells rfl)) .nil) ?_)))))
        exact ⟨rfl, hS.keep⟩
      rw [if_neg (by omega)]
      refine zK (zQ (zR (wl (y_loadS st_59 sz_59 rfl (hS.cells (vs := [_, _, _, _]) rfl) rfl) rfl (zG (vs := [_, _, _, _]) sz_59 rfl hS fun w hS => zE (zV (wret (vs := [_]) (.cell rfl (loadVar_struct st_59 sz_59 (vs := [_, _, _, _]) rfl (hS.cells rfl)) .nil) ?_))))))
      exact ⟨rfl, hS.keep⟩
    refine zK ?_
    refine zQ (zQ ?_)
    obtain ⟨q, hq⟩ : ∃ q, q = (ru4 r).2.2 := ⟨_, rfl⟩
    first
      | (have e4 : ru4 r = ((rsig (ru3 r)).1, ByteArray.empty, (rsig (ru3 r)).2) := by (unfold ru4; rw [if_pos (by omega)])
         have eq : (rsig (ru3 r)).2 = q := by rw [hq, e4]
         rw [e4]; simp only; rw [eq] at hS ⊢)
      | (have e4 : ru4 r = (0, (rtext (ru3 r) 32).1, (rtext (ru3 r) 32).2) := by (unfold ru4; rw [if_neg (by omega), if_pos (by omega)])
         have eq : (rtext (ru3 r) 32).2 = q := by rw [hq, e4]
         rw [e4]; simp only; rw [eq] at hS ⊢)
      | (have e4 : ru4 r = (0, ByteArray.empty, ru3 r) := by (unfold ru4; rw [if_neg (by omega), if_neg (by omega)])
         have eq : ru3 r = q := by rw [hq, e4]
         rw [e4]; simp only; rw [eq] at hS ⊢)
    clear hq
    refine zR (zM rfl (wl_call (.cons rfl .nil) (rerr_c (hS.pull [(p, rdrO q)])) rfl ?_))
    rintro _ w ⟨rfl, hS⟩
    refine wl (y_neq rfl rfl) rfl (zE (zIf rfl (fun hc36 => ?_) fun hc36 => ?_))
    · rw [if_pos (by omega)]
      refine zQ (zR (wl (y_build (is := []) (xs := []) (out := [_, _, _, _]) plc_59 z_59 .nil rfl) rfl (zG (vs := [_, _, _, _]) sz_59 rfl hS fun w hS => zE (zV (wret (vs := [_]) (.cell rfl (loadVar_struct st_59 sz_59 (vs := [_, _, _, _]) rfl (hS.cells rfl)) .nil) ?_)))))
      exact ⟨rfl, hS.keep⟩
    rw [if_neg (by omega)]
    refine zK (zQ (zR (wl (y_loadS st_59 sz_59 rfl (hS.cells (vs := [_, _, _, _]) rfl) rfl) rfl (zG (vs := [_, _, _, _]) sz_59 rfl hS fun w hS => zE (zV (wret (vs := [_]) (.cell rfl (loadVar_struct st_59 sz_59 (vs := [_, _, _, _]) rfl (hS.cells rfl)) .nil) ?_))))))
    exact ⟨rfl, hS.keep⟩
  have e1 : (rnum r 5).2 = ru1 r := by unfold ru1; rw [if_neg (by omega)]
  rw [e1] at hS
  refine zK (zQ (zQ (zR (zM rfl (wl_call (.cons rfl (.cons rfl .nil)) (rtext_c hG 16 (by decide) h1 (hS.pull [(p, rdrO (ru1 r))])) rfl ?_)))))
  rintro _ w ⟨rfl, hS⟩
  rw [e2] at hS ⊢
  refine zF fl_59_0 rfl (zS sz_9 rfl hS fun w hS => zE ?_)
  simp only [zL, cells_agg, setCells] at hS
  refine zQ (zR (zF fl_59_0 rfl (wl (y_load pl_9 rfl (hS.cell rfl)) rfl (wl (y_seql rfl rfl) rfl (zE (zIf rfl (fun hc17 => ?_) fun hc17 => ?_))))))
  · have e3 : rfail (ru2 r).2 1 = ru3 r := by unfold ru3; rw [if_pos hc17]
    refine zR (zM rfl (wl_call (.cons rfl (.cons rfl .nil)) (rfail_c 1 (hS.pull [(p, rdrO (ru2 r).2)])) rfl ?_))
    intro _ w hS
    rw [e3] at hS
    refine zE (zQ (zQ (zR (zF fl_59_1 rfl (wl (y_load pl_3 rfl (hS.cell rfl)) rfl (zE (zB (zQ (zQ (zR (wl (y_eql rfl rfl) rfl (zA rfl (zE (zCs rfl (fun hc22 => ?_) fun hc22 => ?_))))))))))))))
    · refine zK ?_
      refine wc_ifT rfl rfl (zR (zM rfl (wl_call (.cons rfl .nil) (rsig_c hG h3 (hS.pull [(p, rdrO (ru3 r))])) rfl ?_)))
      rintro _ w ⟨rfl, hS⟩
      refine zF fl_59_2 rfl (zS sz_2 rfl hS fun w hS => zE ?_)
      simp only [zL, cells_agg, setCells] at hS
      refine zQ (zQ ?_)
      obtain ⟨q, hq⟩ : ∃ q, q = (ru4 r).2.2 := ⟨_, rfl⟩
      first
        | (have e4 : ru4 r = ((rsig (ru3 r)).1, ByteArray.empty, (rsig (ru3 r)).2) := by (unfold ru4; rw [if_pos (by omega)])
           have eq : (rsig (ru3 r)).2 = q := by rw [hq, e4]
           rw [e4]; simp only; rw [eq] at hS ⊢)
        | (have e4 : ru4 r = (0, (rtext (ru3 r) 32).1, (rtext (ru3 r) 32).2) := by (unfold ru4; rw [if_neg (by omega), if_pos (by omega)])
           have eq : (rtext (ru3 r) 32).2 = q := by rw [hq, e4]
           rw [e4]; simp only; rw [eq] at hS ⊢)
        | (have e4 : ru4 r = (0, ByteArray.empty, ru3 r) := by (unfold ru4; rw [if_neg (by omega), if_neg (by omega)])
           have eq : ru3 r = q := by rw [hq, e4]
           rw [e4]; simp only; rw [eq] at hS ⊢)
      clear hq
      refine zR (zM rfl (wl_call (.cons rfl .nil) (rerr_c (hS.pull [(p, rdrO q)])) rfl ?_))
      rintro _ w ⟨rfl, hS⟩
      refine wl (y_neq rfl rfl) rfl (zE (zIf rfl (fun hc36 => ?_) fun hc36 => ?_))
      · rw [if_pos (by omega)]
        refine zQ (zR (wl (y_build (is := []) (xs := []) (out := [_, _, _, _]) plc_59 z_59 .nil rfl) rfl (zG (vs := [_, _, _, _]) sz_59 rfl hS fun w hS => zE (zV (wret (vs := [_]) (.cell rfl (loadVar_struct st_59 sz_59 (vs := [_, _, _, _]) rfl (hS.cells rfl)) .nil) ?_)))))
        exact ⟨rfl, hS.keep⟩
      rw [if_neg (by omega)]
      refine zK (zQ (zR (wl (y_loadS st_59 sz_59 rfl (hS.cells (vs := [_, _, _, _]) rfl) rfl) rfl (zG (vs := [_, _, _, _]) sz_59 rfl hS fun w hS => zE (zV (wret (vs := [_]) (.cell rfl (loadVar_struct st_59 sz_59 (vs := [_, _, _, _]) rfl (hS.cells rfl)) .nil) ?_))))))
      exact ⟨rfl, hS.keep⟩
    refine zR ?_
    refine wl (y_eql rfl rfl) rfl (zA rfl (zE (zCs rfl (fun hc22 => ?_) fun hc22 => ?_)))
    · refine zR ?_
      refine zM rfl (wl_call (.cons rfl .nil) (rsig_c hG h3 (hS.pull [(p, rdrO (ru3 r))])) rfl ?_)
      rintro _ w ⟨rfl, hS⟩
      refine zF fl_59_2 rfl (zS sz_2 rfl hS fun w hS => zE ?_)
      simp only [zL, cells_agg, setCells] at hS
      refine zQ (zQ ?_)
      obtain ⟨q, hq⟩ : ∃ q, q = (ru4 r).2.2 := ⟨_, rfl⟩
      first
        | (have e4 : ru4 r = ((rsig (ru3 r)).1, ByteArray.empty, (rsig (ru3 r)).2) := by (unfold ru4; rw [if_pos (by omega)])
           have eq : (rsig (ru3 r)).2 = q := by rw [hq, e4]
           rw [e4]; simp only; rw [eq] at hS ⊢)
        | (have e4 : ru4 r = (0, (rtext (ru3 r) 32).1, (rtext (ru3 r) 32).2) := by (unfold ru4; rw [if_neg (by omega), if_pos (by omega)])
           have eq : (rtext (ru3 r) 32).2 = q := by rw [hq, e4]
           rw [e4]; simp only; rw [eq] at hS ⊢)
        | (have e4 : ru4 r = (0, ByteArray.empty, ru3 r) := by (unfold ru4; rw [if_neg (by omega), if_neg (by omega)])
           have eq : ru3 r = q := by rw [hq, e4]
           rw [e4]; simp only; rw [eq] at hS ⊢)
      clear hq
      refine zR (zM rfl (wl_call (.cons rfl .nil) (rerr_c (hS.pull [(p, rdrO q)])) rfl ?_))
      rintro _ w ⟨rfl, hS⟩
      refine wl (y_neq rfl rfl) rfl (zE (zIf rfl (fun hc36 => ?_) fun hc36 => ?_))
      · rw [if_pos (by omega)]
        refine zQ (zR (wl (y_build (is := []) (xs := []) (out := [_, _, _, _]) plc_59 z_59 .nil rfl) rfl (zG (vs := [_, _, _, _]) sz_59 rfl hS fun w hS => zE (zV (wret (vs := [_]) (.cell rfl (loadVar_struct st_59 sz_59 (vs := [_, _, _, _]) rfl (hS.cells rfl)) .nil) ?_)))))
        exact ⟨rfl, hS.keep⟩
      rw [if_neg (by omega)]
      refine zK (zQ (zR (wl (y_loadS st_59 sz_59 rfl (hS.cells (vs := [_, _, _, _]) rfl) rfl) rfl (zG (vs := [_, _, _, _]) sz_59 rfl hS fun w hS => zE (zV (wret (vs := [_]) (.cell rfl (loadVar_struct st_59 sz_59 (vs := [_, _, _, _]) rfl (hS.cells rfl)) .nil) ?_))))))
      exact ⟨rfl, hS.keep⟩
    refine zQ ?_
    refine zQ (zR (wl (y_eql rfl rfl) rfl (zA rfl (zE (zCs rfl (fun hc28 => ?_) fun hc28 => ?_)))))
    · refine zK ?_
      refine wc_ifT rfl rfl (zR (zM rfl (wl_call (.cons rfl (.cons rfl .nil)) (rtext_c hG 32 (by decide) h3 (hS.pull [(p, rdrO (ru3 r))])) rfl ?_)))
      rintro _ w ⟨rfl, hS⟩
      refine zF fl_59_3 rfl (zS sz_9 rfl hS fun w hS => zE ?_)
      simp only [zL, cells_agg, setCells] at hS
      refine zQ (zQ ?_)
      obtain ⟨q, hq⟩ : ∃ q, q = (ru4 r).2.2 := ⟨_, rfl⟩
      first
        | (have e4 : ru4 r = ((rsig (ru3 r)).1, ByteArray.empty, (rsig (ru3 r)).2) := by (unfold ru4; rw [if_pos (by omega)])
           have eq : (rsig (ru3 r)).2 = q := by rw [hq, e4]
           rw [e4]; simp only; rw [eq] at hS ⊢)
        | (have e4 : ru4 r = (0, (rtext (ru3 r) 32).1, (rtext (ru3 r) 32).2) := by (unfold ru4; rw [if_neg (by omega), if_pos (by omega)])
           have eq : (rtext (ru3 r) 32).2 = q := by rw [hq, e4]
           rw [e4]; simp only; rw [eq] at hS ⊢)
        | (have e4 : ru4 r = (0, ByteArray.empty, ru3 r) := by (unfold ru4; rw [if_neg (by omega), if_neg (by omega)])
           have eq : ru3 r = q := by rw [hq, e4]
           rw [e4]; simp only; rw [eq] at hS ⊢)
      clear hq
      refine zR (zM rfl (wl_call (.cons rfl .nil) (rerr_c (hS.pull [(p, rdrO q)])) rfl ?_))
      rintro _ w ⟨rfl, hS⟩
      refine wl (y_neq rfl rfl) rfl (zE (zIf rfl (fun hc36 => ?_) fun hc36 => ?_))
      · rw [if_pos (by omega)]
        refine zQ (zR (wl (y_build (is := []) (xs := []) (out := [_, _, _, _]) plc_59 z_59 .nil rfl) rfl (zG (vs := [_, _, _, _]) sz_59 rfl hS fun w hS => zE (zV (wret (vs := [_]) (.cell rfl (loadVar_struct st_59 sz_59 (vs := [_, _, _, _]) rfl (hS.cells rfl)) .nil) ?_)))))
        exact ⟨rfl, hS.keep⟩
      rw [if_neg (by omega)]
      refine zK (zQ (zR (wl (y_loadS st_59 sz_59 rfl (hS.cells (vs := [_, _, _, _]) rfl) rfl) rfl (zG (vs := [_, _, _, _]) sz_59 rfl hS fun w hS => zE (zV (wret (vs := [_]) (.cell rfl (loadVar_struct st_59 sz_59 (vs := [_, _, _, _]) rfl (hS.cells rfl)) .nil) ?_))))))
      exact ⟨rfl, hS.keep⟩
    refine zR ?_
    refine wl (y_eql rfl rfl) rfl (zA rfl (zE (zCs rfl (fun hc28 => ?_) fun hc28 => ?_)))
    · refine zR ?_
      refine zM rfl (wl_call (.cons rfl (.cons rfl .nil)) (rtext_c hG 32 (by decide) h3 (hS.pull [(p, rdrO (ru3 r))])) rfl ?_)
      rintro _ w ⟨rfl, hS⟩
      refine zF fl_59_3 rfl (zS sz_9 rfl hS fun w hS => zE ?_)
      simp only [zL, cells_agg, setCells] at hS
      refine zQ (zQ ?_)
      obtain ⟨q, hq⟩ : ∃ q, q = (ru4 r).2.2 := ⟨_, rfl⟩
      first
        | (have e4 : ru4 r = ((rsig (ru3 r)).1, ByteArray.empty, (rsig (ru3 r)).2) := by (unfold ru4; rw [if_pos (by omega)])
           have eq : (rsig (ru3 r)).2 = q := by rw [hq, e4]
           rw [e4]; simp only; rw [eq] at hS ⊢)
        | (have e4 : ru4 r = (0, (rtext (ru3 r) 32).1, (rtext (ru3 r) 32).2) := by (unfold ru4; rw [if_neg (by omega), if_pos (by omega)])
           have eq : (rtext (ru3 r) 32).2 = q := by rw [hq, e4]
           rw [e4]; simp only; rw [eq] at hS ⊢)
        | (have e4 : ru4 r = (0, ByteArray.empty, ru3 r) := by (unfold ru4; rw [if_neg (by omega), if_neg (by omega)])
           have eq : ru3 r = q := by rw [hq, e4]
           rw [e4]; simp only; rw [eq] at hS ⊢)
      clear hq
      refine zR (zM rfl (wl_call (.cons rfl .nil) (rerr_c (hS.pull [(p, rdrO q)])) rfl ?_))
      rintro _ w ⟨rfl, hS⟩
      refine wl (y_neq rfl rfl) rfl (zE (zIf rfl (fun hc36 => ?_) fun hc36 => ?_))
      · rw [if_pos (by omega)]
        refine zQ (zR (wl (y_build (is := []) (xs := []) (out := [_, _, _, _]) plc_59 z_59 .nil rfl) rfl (zG (vs := [_, _, _, _]) sz_59 rfl hS fun w hS => zE (zV (wret (vs := [_]) (.cell rfl (loadVar_struct st_59 sz_59 (vs := [_, _, _, _]) rfl (hS.cells rfl)) .nil) ?_)))))
        exact ⟨rfl, hS.keep⟩
      rw [if_neg (by omega)]
      refine zK (zQ (zR (wl (y_loadS st_59 sz_59 rfl (hS.cells (vs := [_, _, _, _]) rfl) rfl) rfl (zG (vs := [_, _, _, _]) sz_59 rfl hS fun w hS => zE (zV (wret (vs := [_]) (.cell rfl (loadVar_struct st_59 sz_59 (vs := [_, _, _, _]) rfl (hS.cells rfl)) .nil) ?_))))))
      exact ⟨rfl, hS.keep⟩
    refine zK ?_
    refine zQ (zQ ?_)
    obtain ⟨q, hq⟩ : ∃ q, q = (ru4 r).2.2 := ⟨_, rfl⟩
    first
      | (have e4 : ru4 r = ((rsig (ru3 r)).1, ByteArray.empty, (rsig (ru3 r)).2) := by (unfold ru4; rw [if_pos (by omega)])
         have eq : (rsig (ru3 r)).2 = q := by rw [hq, e4]
         rw [e4]; simp only; rw [eq] at hS ⊢)
      | (have e4 : ru4 r = (0, (rtext (ru3 r) 32).1, (rtext (ru3 r) 32).2) := by (unfold ru4; rw [if_neg (by omega), if_pos (by omega)])
         have eq : (rtext (ru3 r) 32).2 = q := by rw [hq, e4]
         rw [e4]; simp only; rw [eq] at hS ⊢)
      | (have e4 : ru4 r = (0, ByteArray.empty, ru3 r) := by (unfold ru4; rw [if_neg (by omega), if_neg (by omega)])
         have eq : ru3 r = q := by rw [hq, e4]
         rw [e4]; simp only; rw [eq] at hS ⊢)
    clear hq
    refine zR (zM rfl (wl_call (.cons rfl .nil) (rerr_c (hS.pull [(p, rdrO q)])) rfl ?_))
    rintro _ w ⟨rfl, hS⟩
    refine wl (y_neq rfl rfl) rfl (zE (zIf rfl (fun hc36 => ?_) fun hc36 => ?_))
    · rw [if_pos (by omega)]
      refine zQ (zR (wl (y_build (is := []) (xs := []) (out := [_, _, _, _]) plc_59 z_59 .nil rfl) rfl (zG (vs := [_, _, _, _]) sz_59 rfl hS fun w hS => zE (zV (wret (vs := [_]) (.cell rfl (loadVar_struct st_59 sz_59 (vs := [_, _, _, _]) rfl (hS.cells rfl)) .nil) ?_)))))
      exact ⟨rfl, hS.keep⟩
    rw [if_neg (by omega)]
    refine zK (zQ (zR (wl (y_loadS st_59 sz_59 rfl (hS.cells (vs := [_, _, _, _]) rfl) rfl) rfl (zG (vs := [_, _, _, _]) sz_59 rfl hS fun w hS => zE (zV (wret (vs := [_]) (.cell rfl (loadVar_struct st_59 sz_59 (vs := [_, _, _, _]) rfl (hS.cells rfl)) .nil) ?_))))))
    exact ⟨rfl, hS.keep⟩
  have e3 : (ru2 r).2 = ru3 r := by unfold ru3; rw [if_neg hc17]
  rw [e3] at hS
  refine zK (zQ (zQ (zR (zF fl_59_1 rfl (wl (y_load pl_3 rfl (hS.cell rfl)) rfl (zE (zB (zQ (zQ (zR (wl (y_eql rfl rfl) rfl (zA rfl (zE (zCs rfl (fun hc22 => ?_) fun hc22 => ?_))))))))))))))
  · refine zK ?_
    refine wc_ifT rfl rfl (zR (zM rfl (wl_call (.cons rfl .nil) (rsig_c hG h3 (hS.pull [(p, rdrO (ru3 r))])) rfl ?_)))
    rintro _ w ⟨rfl, hS⟩
    refine zF fl_59_2 rfl (zS sz_2 rfl hS fun w hS => zE ?_)
    simp only [zL, cells_agg, setCells] at hS
    refine zQ (zQ ?_)
    obtain ⟨q, hq⟩ : ∃ q, q = (ru4 r).2.2 := ⟨_, rfl⟩
    first
      | (have e4 : ru4 r = ((rsig (ru3 r)).1, ByteArray.empty, (rsig (ru3 r)).2) := by (unfold ru4; rw [if_pos (by omega)])
         have eq : (rsig (ru3 r)).2 = q := by rw [hq, e4]
         rw [e4]; simp only; rw [eq] at hS ⊢)
      | (have e4 : ru4 r = (0, (rtext (ru3 r) 32).1, (rtext (ru3 r) 32).2) := by (unfold ru4; rw [if_neg (by omega), if_pos (by omega)])
         have eq : (rtext (ru3 r) 32).2 = q := by rw [hq, e4]
         rw [e4]; simp only; rw [eq] at hS ⊢)
      | (have e4 : ru4 r = (0, ByteArray.empty, ru3 r) := by (unfold ru4; rw [if_neg (by omega), if_neg (by omega)])
         have eq : ru3 r = q := by rw [hq, e4]
         rw [e4]; simp only; rw [eq] at hS ⊢)
    clear hq
    refine zR (zM rfl (wl_call (.cons rfl .nil) (rerr_c (hS.pull [(p, rdrO q)])) rfl ?_))
    rintro _ w ⟨rfl, hS⟩
    refine wl (y_neq rfl rfl) rfl (zE (zIf rfl (fun hc36 => ?_) fun hc36 => ?_))
    · rw [if_pos (by omega)]
      refine zQ (zR (wl (y_build (is := []) (xs := []) (out := [_, _, _, _]) plc_59 z_59 .nil rfl) rfl (zG (vs := [_, _, _, _]) sz_59 rfl hS fun w hS => zE (zV (wret (vs := [_]) (.cell rfl (loadVar_struct st_59 sz_59 (vs := [_, _, _, _]) rfl (hS.cells rfl)) .nil) ?_)))))
      exact ⟨rfl, hS.keep⟩
    rw [if_neg (by omega)]
    refine zK (zQ (zR (wl (y_loadS st_59 sz_59 rfl (hS.cells (vs := [_, _, _, _]) rfl) rfl) rfl (zG (vs := [_, _, _, _]) sz_59 rfl hS fun w hS => zE (zV (wret (vs := [_]) (.cell rfl (loadVar_struct st_59 sz_59 (vs := [_, _, _, _]) rfl (hS.cells rfl)) .nil) ?_))))))
    exact ⟨rfl, hS.keep⟩
  refine zR ?_
  refine wl (y_eql rfl rfl) rfl (zA rfl (zE (zCs rfl (fun hc22 => ?_) fun hc22 => ?_)))
  · refine zR ?_
    refine zM rfl (wl_call (.cons rfl .nil) (rsig_c hG h3 (hS.pull [(p, rdrO (ru3 r))])) rfl ?_)
    rintro _ w ⟨rfl, hS⟩
    refine zF fl_59_2 rfl (zS sz_2 rfl hS fun w hS => zE ?_)
    simp only [zL, cells_agg, setCells] at hS
    refine zQ (zQ ?_)
    obtain ⟨q, hq⟩ : ∃ q, q = (ru4 r).2.2 := ⟨_, rfl⟩
    first
      | (have e4 : ru4 r = ((rsig (ru3 r)).1, ByteArray.empty, (rsig (ru3 r)).2) := by (unfold ru4; rw [if_pos (by omega)])
         have eq : (rsig (ru3 r)).2 = q := by rw [hq, e4]
         rw [e4]; simp only; rw [eq] at hS ⊢)
      | (have e4 : ru4 r = (0, (rtext (ru3 r) 32).1, (rtext (ru3 r) 32).2) := by (unfold ru4; rw [if_neg (by omega), if_pos (by omega)])
         have eq : (rtext (ru3 r) 32).2 = q := by rw [hq, e4]
         rw [e4]; simp only; rw [eq] at hS ⊢)
      | (have e4 : ru4 r = (0, ByteArray.empty, ru3 r) := by (unfold ru4; rw [if_neg (by omega), if_neg (by omega)])
         have eq : ru3 r = q := by rw [hq, e4]
         rw [e4]; simp only; rw [eq] at hS ⊢)
    clear hq
    refine zR (zM rfl (wl_call (.cons rfl .nil) (rerr_c (hS.pull [(p, rdrO q)])) rfl ?_))
    rintro _ w ⟨rfl, hS⟩
    refine wl (y_neq rfl rfl) rfl (zE (zIf rfl (fun hc36 => ?_) fun hc36 => ?_))
    · rw [if_pos (by omega)]
      refine zQ (zR (wl (y_build (is := []) (xs := []) (out := [_, _, _, _]) plc_59 z_59 .nil rfl) rfl (zG (vs := [_, _, _, _]) sz_59 rfl hS fun w hS => zE (zV (wret (vs := [_]) (.cell rfl (loadVar_struct st_59 sz_59 (vs := [_, _, _, _]) rfl (hS.cells rfl)) .nil) ?_)))))
      exact ⟨rfl, hS.keep⟩
    rw [if_neg (by omega)]
    refine zK (zQ (zR (wl (y_loadS st_59 sz_59 rfl (hS.cells (vs := [_, _, _, _]) rfl) rfl) rfl (zG (vs := [_, _, _, _]) sz_59 rfl hS fun w hS => zE (zV (wret (vs := [_]) (.cell rfl (loadVar_struct st_59 sz_59 (vs := [_, _, _, _]) rfl (hS.cells rfl)) .nil) ?_))))))
    exact ⟨rfl, hS.keep⟩
  refine zQ ?_
  refine zQ (zR (wl (y_eql rfl rfl) rfl (zA rfl (zE (zCs rfl (fun hc28 => ?_) fun hc28 => ?_)))))
  · refine zK ?_
    refine wc_ifT rfl rfl (zR (zM rfl (wl_call (.cons rfl (.cons rfl .nil)) (rtext_c hG 32 (by decide) h3 (hS.pull [(p, rdrO (ru3 r))])) rfl ?_)))
    rintro _ w ⟨rfl, hS⟩
    refine zF fl_59_3 rfl (zS sz_9 rfl hS fun w hS => zE ?_)
    simp only [zL, cells_agg, setCells] at hS
    refine zQ (zQ ?_)
    obtain ⟨q, hq⟩ : ∃ q, q = (ru4 r).2.2 := ⟨_, rfl⟩
    first
      | (have e4 : ru4 r = ((rsig (ru3 r)).1, ByteArray.empty, (rsig (ru3 r)).2) := by (unfold ru4; rw [if_pos (by omega)])
         have eq : (rsig (ru3 r)).2 = q := by rw [hq, e4]
         rw [e4]; simp only; rw [eq] at hS ⊢)
      | (have e4 : ru4 r = (0, (rtext (ru3 r) 32).1, (rtext (ru3 r) 32).2) := by (unfold ru4; rw [if_neg (by omega), if_pos (by omega)])
         have eq : (rtext (ru3 r) 32).2 = q := by rw [hq, e4]
         rw [e4]; simp only; rw [eq] at hS ⊢)
      | (have e4 : ru4 r = (0, ByteArray.empty, ru3 r) := by (unfold ru4; rw [if_neg (by omega), if_neg (by omega)])
         have eq : ru3 r = q := by rw [hq, e4]
         rw [e4]; simp only; rw [eq] at hS ⊢)
    clear hq
    refine zR (zM rfl (wl_call (.cons rfl .nil) (rerr_c (hS.pull [(p, rdrO q)])) rfl ?_))
    rintro _ w ⟨rfl, hS⟩
    refine wl (y_neq rfl rfl) rfl (zE (zIf rfl (fun hc36 => ?_) fun hc36 => ?_))
    · rw [if_pos (by omega)]
      refine zQ (zR (wl (y_build (is := []) (xs := []) (out := [_, _, _, _]) plc_59 z_59 .nil rfl) rfl (zG (vs := [_, _, _, _]) sz_59 rfl hS fun w hS => zE (zV (wret (vs := [_]) (.cell rfl (loadVar_struct st_59 sz_59 (vs := [_, _, _, _]) rfl (hS.cells rfl)) .nil) ?_)))))
      exact ⟨rfl, hS.keep⟩
    rw [if_neg (by omega)]
    refine zK (zQ (zR (wl (y_loadS st_59 sz_59 rfl (hS.cells (vs := [_, _, _, _]) rfl) rfl) rfl (zG (vs := [_, _, _, _]) sz_59 rfl hS fun w hS => zE (zV (wret (vs := [_]) (.cell rfl (loadVar_struct st_59 sz_59 (vs := [_, _, _, _]) rfl (hS.cells rfl)) .nil) ?_))))))
    exact ⟨rfl, hS.keep⟩
  refine zR ?_
  refine wl (y_eql rfl rfl) rfl (zA rfl (zE (zCs rfl (fun hc28 => ?_) fun hc28 => ?_)))
  · refine zR ?_
    refine zM rfl (wl_call (.cons rfl (.cons rfl .nil)) (rtext_c hG 32 (by decide) h3 (hS.pull [(p, rdrO (ru3 r))])) rfl ?_)
    rintro _ w ⟨rfl, hS⟩
    refine zF fl_59_3 rfl (zS sz_9 rfl hS fun w hS => zE ?_)
    simp only [zL, cells_agg, setCells] at hS
    refine zQ (zQ ?_)
    obtain ⟨q, hq⟩ : ∃ q, q = (ru4 r).2.2 := ⟨_, rfl⟩
    first
      | (have e4 : ru4 r = ((rsig (ru3 r)).1, ByteArray.empty, (rsig (ru3 r)).2) := by (unfold ru4; rw [if_pos (by omega)])
         have eq : (rsig (ru3 r)).2 = q := by rw [hq, e4]
         rw [e4]; simp only; rw [eq] at hS ⊢)
      | (have e4 : ru4 r = (0, (rtext (ru3 r) 32).1, (rtext (ru3 r) 32).2) := by (unfold ru4; rw [if_neg (by omega), if_pos (by omega)])
         have eq : (rtext (ru3 r) 32).2 = q := by rw [hq, e4]
         rw [e4]; simp only; rw [eq] at hS ⊢)
      | (have e4 : ru4 r = (0, ByteArray.empty, ru3 r) := by (unfold ru4; rw [if_neg (by omega), if_neg (by omega)])
         have eq : ru3 r = q := by rw [hq, e4]
         rw [e4]; simp only; rw [eq] at hS ⊢)
    clear hq
    refine zR (zM rfl (wl_call (.cons rfl .nil) (rerr_c (hS.pull [(p, rdrO q)])) rfl ?_))
    rintro _ w ⟨rfl, hS⟩
    refine wl (y_neq rfl rfl) rfl (zE (zIf rfl (fun hc36 => ?_) fun hc36 => ?_))
    · rw [if_pos (by omega)]
      refine zQ (zR (wl (y_build (is := []) (xs := []) (out := [_, _, _, _]) plc_59 z_59 .nil rfl) rfl (zG (vs := [_, _, _, _]) sz_59 rfl hS fun w hS => zE (zV (wret (vs := [_]) (.cell rfl (loadVar_struct st_59 sz_59 (vs := [_, _, _, _]) rfl (hS.cells rfl)) .nil) ?_)))))
      exact ⟨rfl, hS.keep⟩
    rw [if_neg (by omega)]
    refine zK (zQ (zR (wl (y_loadS st_59 sz_59 rfl (hS.cells (vs := [_, _, _, _]) rfl) rfl) rfl (zG (vs := [_, _, _, _]) sz_59 rfl hS fun w hS => zE (zV (wret (vs := [_]) (.cell rfl (loadVar_struct st_59 sz_59 (vs := [_, _, _, _]) rfl (hS.cells rfl)) .nil) ?_))))))
    exact ⟨rfl, hS.keep⟩
  refine zK ?_
  refine zQ (zQ ?_)
  obtain ⟨q, hq⟩ : ∃ q, q = (ru4 r).2.2 := ⟨_, rfl⟩
  first
    | (have e4 : ru4 r = ((rsig (ru3 r)).1, ByteArray.empty, (rsig (ru3 r)).2) := by (unfold ru4; rw [if_pos (by omega)])
       have eq : (rsig (ru3 r)).2 = q := by rw [hq, e4]
       rw [e4]; simp only; rw [eq] at hS ⊢)
    | (have e4 : ru4 r = (0, (rtext (ru3 r) 32).1, (rtext (ru3 r) 32).2) := by (unfold ru4; rw [if_neg (by omega), if_pos (by omega)])
       have eq : (rtext (ru3 r) 32).2 = q := by rw [hq, e4]
       rw [e4]; simp only; rw [eq] at hS ⊢)
    | (have e4 : ru4 r = (0, ByteArray.empty, ru3 r) := by (unfold ru4; rw [if_neg (by omega), if_neg (by omega)])
       have eq : ru3 r = q := by rw [hq, e4]
       rw [e4]; simp only; rw [eq] at hS ⊢)
  clear hq
  refine zR (zM rfl (wl_call (.cons rfl .nil) (rerr_c (hS.pull [(p, rdrO q)])) rfl ?_))
  rintro _ w ⟨rfl, hS⟩
  refine wl (y_neq rfl rfl) rfl (zE (zIf rfl (fun hc36 => ?_) fun hc36 => ?_))
  · rw [if_pos (by omega)]
    refine zQ (zR (wl (y_build (is := []) (xs := []) (out := [_, _, _, _]) plc_59 z_59 .nil rfl) rfl (zG (vs := [_, _, _, _]) sz_59 rfl hS fun w hS => zE (zV (wret (vs := [_]) (.cell rfl (loadVar_struct st_59 sz_59 (vs := [_, _, _, _]) rfl (hS.cells rfl)) .nil) ?_)))))
    exact ⟨rfl, hS.keep⟩
  rw [if_neg (by omega)]
  refine zK (zQ (zR (wl (y_loadS st_59 sz_59 rfl (hS.cells (vs := [_, _, _, _]) rfl) rfl) rfl (zG (vs := [_, _, _, _]) sz_59 rfl hS fun w hS => zE (zV (wret (vs := [_]) (.cell rfl (loadVar_struct st_59 sz_59 (vs := [_, _, _, _]) rfl (hS.cells rfl)) .nil) ?_))))))
  exact ⟨rfl, hS.keep⟩
end
end Go.Proofs.YtndahppmjdbifaaGreatDoor.Val
set_option linter.unusedVariables false
set_option linter.unusedSimpArgs false
namespace Go.Proofs.YtndahppmjdbifaaGreatDoor.Rou
open Go Go.Proofs Eng Pre Pak Val
structure Rnd where
  o : Int
  n : Int
  ups : List Upd
deriving DecidableEq
def rvS (r : Rnd) (s : Value) : Value := .agg [.int .i64 r.o, .int .i64 r.n, s].toArray
def firstBad : List Upd → Nat
  | [] => 0
  | u :: l => if mayU u ≠ 0 then mayU u else firstBad l
@[irreducible] def mayR (r : Rnd) : Nat :=
  if ¬ (1 ≤ r.o ∧ r.o ≤ 64) then 1 else if ¬ (1 ≤ r.n ∧ r.n ≤ 1099511627776) then 1 else if ¬ (1 ≤ (r.ups.length : Int) ∧ (r.ups.length : Int) ≤ 8) then 1 else firstBad r.ups
@[irreducible] def rbytes (r : Rnd) : List UInt8 := pput r.o.toNat ++ pput r.n.toNat ++ pput r.ups.length ++ r.ups.flatMap ubytes
theorem firstBad_ok {l : List Upd} (h : firstBad l = 0) : ∀ u ∈ l, mayU u = 0 := by
  induction l with
  | nil => intro u h; cases h
  | cons u l ih =>
    intro x hx
    simp only [firstBad] at h
    split at h
    · rename_i hc; exact absurd h hc
    rename_i hc
    rcases List.mem_cons.1 hx with rfl | hx
    · simpa using hc
    exact ih h x hx
theorem mayR_ok {r : Rnd} (h : mayR r = 0) : 1 ≤ r.o ∧ r.o ≤ 64 ∧ 1 ≤ r.n ∧ r.n ≤ 1099511627776 ∧ 1 ≤ r.ups.length ∧ r.ups.length ≤ 8 ∧ ∀ u ∈ r.ups, mayU u = 0 := by
  unfold mayR at h
  split at h; · cases h
  split at h; · cases h
  split at h; · cases h
  rename_i h1 h2 h3
  exact ⟨by omega, by omega, by omega, by omega, by omega, by omega, firstBad_ok h⟩
theorem ups_length {l : List Upd} (h : ∀ u ∈ l, mayU u = 0) : (l.flatMap ubytes).length ≤ 72 * l.length := by
  induction l with
  | nil => simp
  | cons u l ih =>
    rw [List.flatMap_cons, List.length_append, List.length_cons]
    have h1 := ubytes_length (h u (by simp))
    have h2 := ih fun x hx => h x (by simp [hx])
    omega
theorem rbytes_length {r : Rnd} (h : mayR r = 0) : (rbytes r).length ≤ 600 := by
  obtain ⟨_, _, _, _, _, h8, hu⟩ := mayR_ok h
  unfold rbytes
  simp only [List.length_append]
  have a := pput_length r.o.toNat
  have b := pput_length r.n.toNat
  have c := pput_length r.ups.length
  have d := ups_length hu
  omega
section
variable {M : Mem} {w : World} {Ls : List Chunk}
theorem in_c (n lo hi : Int) (hS : St M w Ls) : CallsR Tryz.prog 158 [.int .i64 n, .int .i64 lo, .int .i64 hi].toArray w fun v w' => v = .bool (decide (lo ≤ n ∧ n ≤ hi)) ∧ St M w' Ls := by
  refine zC 15 Tryz.func158 rfl (zQ (zR (zA rfl (zE (zQ (zR (zM rfl (zM rfl (wl (y_geq rfl rfl) rfl (zM rfl (zWc (s := 10) rfl (fun hg10 => ?_) fun hg10 => ?_)))))))))))
  · refine zI rfl ?_
    refine zM rfl (zI rfl (zM rfl (zI rfl (wl (y_leq rfl rfl) rfl (wl (y_pickT rfl rfl) rfl (zA rfl (zE (zV (z1 rfl ?_)))))))))
    first
    | exact ⟨congrArg Value.bool (decide_eq_decide.2 ⟨fun h => ⟨by omega, h⟩, fun h => h.2⟩), hS⟩
    | exact ⟨congrArg Value.bool (decide_eq_false (fun h => by omega)).symm, hS⟩
  refine zO rfl ?_
  refine zO rfl (zO rfl (wl (y_pickF rfl rfl) rfl (zA rfl (zE (zV (z1 rfl ?_))))))
  first
  | exact ⟨congrArg Value.bool (decide_eq_decide.2 ⟨fun h => ⟨by omega, h⟩, fun h => h.2⟩), hS⟩
  | exact ⟨congrArg Value.bool (decide_eq_false (fun h => by omega)).symm, hS⟩
theorem rmay_c (r : Rnd) (s : Value) (hs : Rd M encU s r.ups) (hS : St M w Ls) : CallsR Tryz.prog 121 [rvS r s].toArray w fun v w' => v = .int .i64 (mayR r) ∧ St M w' Ls := by
  obtain ⟨sa, sc, rfl⟩ := (hs.holds hS).slice
  unfold mayR
  refine zC 36 Tryz.func121 rfl (zQ (zR (a_box rfl hS rfl fun b1 w hS => zA rfl (zE (zQ (zQ (zR (zF fl_48_0 rfl (wl (y_load pl_3 rfl (hS.cell rfl)) rfl (wl_call (.cons rfl (.cons rfl (.cons rfl .nil))) (in_c r.o 1 64 hS) rfl ?_))))))))))
  rintro _ w ⟨rfl, hS⟩
  refine wl (y_not rfl) rfl (zM rfl (zWc (s := 10) rfl (fun hg10 => ?_) fun hg10 => ?_))
  · rw [if_pos hg10]
    refine zO rfl (zO rfl (zO rfl (zO rfl (wl (y_pickT rfl rfl) rfl (zM rfl (zO rfl (zO rfl (zO rfl (zO rfl (zO rfl (wl (y_pickT rfl rfl) rfl (zE (wc_ifT rfl rfl (zQ (zR (zA rfl (zE (zV (z1 rfl ?_)))))))))))))))))))
    exact ⟨rfl, hS.keep⟩
  rw [if_neg (by omega)]
  refine zI rfl (zF fl_48_1 rfl (zI rfl (wl (y_load pl_3 rfl (hS.cell rfl)) rfl (zI rfl (wl_call (.cons rfl (.cons rfl (.cons rfl .nil))) (in_c r.n 1 1099511627776 hS) rfl ?_)))))
  rintro _ w ⟨rfl, hS⟩
  refine zI rfl (wl (y_not rfl) rfl (wl (y_pickF rfl rfl) rfl (zM rfl (zWc (s := 16) rfl (fun hg16 => ?_) fun hg16 => ?_))))
  · rw [if_pos hg16]
    refine zO rfl (zO rfl (zO rfl (zO rfl (zO rfl (wl (y_pickT rfl rfl) rfl (zE (wc_ifT rfl rfl (zQ (zR (zA rfl (zE (zV (z1 rfl ?_)))))))))))))
    exact ⟨rfl, hS.keep⟩
  rw [if_neg (by omega)]
  refine zI rfl (zF fl_48_2 rfl (zI rfl (wl (y_load pl_46 rfl (hS.cell rfl)) rfl (zI rfl (wl (y_len_sl Tryz.underlying46 rfl) rfl (zI rfl (wl_call (.cons rfl (.cons rfl (.cons rfl .nil))) (in_c r.ups.length 1 8 hS) rfl ?_)))))))
  rintro _ w ⟨rfl, hS⟩
  refine zI rfl (wl (y_not rfl) rfl (wl (y_pickF rfl rfl) rfl (zE (zIf rfl (fun hc22 => ?_) fun hc22 => ?_))))
  · rw [if_pos hc22]
    refine zQ (zR (zA rfl (zE (zV (z1 rfl ?_)))))
    exact ⟨rfl, hS.keep⟩
  rw [if_neg (by omega)]
  refine zK (zQ (zQ (zR (zF fl_48_2 rfl (wl (y_load pl_46 rfl (hS.cell rfl)) rfl (wl (y_len_sl Tryz.underlying46 rfl) rfl (zM rfl (zE (zB (wc_loop (α := Nat) (fun i => [(24, .slice sa r.ups.length sc), (25, .int .i64 r.ups.length), (26, .int .i64 i)]) (fun i w => i ≤ r.ups.length ∧ firstBad r.ups = firstBad (r.ups.drop i) ∧ St M w Ls) (fun i => r.ups.length - i) 0 (sub_cons rfl (sub_cons rfl (subR rfl))) ⟨by omega, rfl, hS.keep⟩ ?_))))))))))
  clear hS
  rintro i w ⟨hi, hfb, hS⟩
  refine zQ (zR (wl (y_lss rfl rfl) rfl (zE (zQ (zIf rfl (fun hc27 => ?_) fun hc27 => ?_)))))
  · refine zK ?_
    refine zQ (zB (zQ ?_))
    have hi' : i < r.ups.length := by omega
    obtain ⟨u, hu⟩ : ∃ u, r.ups[i]? = some u := ⟨_, List.getElem?_eq_getElem hi'⟩
    have hdr : r.ups.drop i = u :: r.ups.drop (i + 1) := by
      obtain ⟨_, he⟩ := List.getElem?_eq_some_iff.1 hu
      rw [← he, ← List.drop_eq_getElem_cons hi']
    obtain ⟨bb, off, c', hse, hce⟩ := (hs.holds hS).at hu
    simp only [Value.slice.injEq] at hse
    have hSk := hS
    obtain ⟨rfl, _, rfl⟩ := hse
    replace hS := hSk
    refine zR (wl (y_ixa_sl Tryz.underlying46 sz_59 rfl rfl (by omega) (by omega)) rfl (wl (y_loadS st_59 sz_59 rfl (vs := encU.f u) hce rfl) rfl (a_alloc z_59 hS rfl fun b4 w hS => zG (vs := [_, _, _, _]) sz_59 rfl hS fun w hS => zE (zQ (zR (wl (y_loadS st_59 sz_59 rfl (hS.cells (vs := [_, _, _, _]) rfl) rfl) rfl (wl_call (.cons rfl .nil) (may_c u hS) rfl ?_)))))))
    rintro _ w ⟨rfl, hS⟩
    refine zA rfl (zE (zQ (zR (zM rfl (wl (y_neq rfl rfl) rfl (zE (zIf rfl (fun hc33 => ?_) fun hc33 => ?_)))))))
    · rw [hfb, hdr]
      simp only [firstBad]
      rw [if_pos (by omega)]
      refine zQ (zR (zM rfl (zA rfl (zE (zV (z1 rfl ?_))))))
      exact ⟨rfl, hS.keep⟩
    rw [hdr] at hfb
    simp only [firstBad] at hfb
    rw [if_neg (by omega)] at hfb
    refine zK (zR (wl (y_add rfl rfl (w64 (by omega) (by omega))) rfl (zM rfl (zE ?_))))
    exact ⟨i + 1, by omega, sub_cons rfl (sub_cons rfl (subR rfl)), by omega, hfb, hS.keep⟩
  obtain rfl : i = r.ups.length := by omega
  rw [List.drop_length] at hfb
  rw [hfb]
  refine wc_exit (zQ (zR (zA rfl (zE (zV (z1 rfl ?_))))))
  exact ⟨rfl, hS.keep⟩
def rputV (r : Rnd) : Value := if mayR r = 0 then .tuple [.string (str (rbytes r)), .int .i64 0].toArray else .tuple [.string ⟨#[]⟩, .int .i64 (mayR r)].toArray
theorem rput_c (hG : Bits M) (r : Rnd) (s : Value) (hs : Rd M encU s r.ups) (hS : St M w Ls) : CallsR Tryz.prog 60 [rvS r s].toArray w fun v w' => v = rputV r ∧ St M w' Ls := by
  have hs0 := hs
  obtain ⟨sa, sc, rfl⟩ := (hs.holds hS).slice
  unfold rputV
  refine zC 36 Tryz.func60 rfl (zQ (zR (a_box rfl hS rfl fun b1 w hS => zA rfl (zA rfl (zE (zQ (zQ (zR (wl (y_loadS st_48 sz_48 rfl (hS.cells (vs := [_, _, _]) rfl) rfl) rfl (wl_call (.cons rfl .nil) (rmay_c r _ hs0 hS) rfl ?_))))))))))
  rintro _ w ⟨rfl, hS⟩
  refine zA rfl (zE (zQ (zR (zM rfl (wl (y_neq rfl rfl) rfl (zE (zIf rfl (fun hc11 => ?_) fun hc11 => ?_)))))))
  · rw [if_neg (by omega)]
    refine zQ (zR (zM rfl (zA rfl (zA rfl (zE (zV (z2 rfl ?_)))))))
    exact ⟨rfl, hS.keep⟩
  have hm : mayR r = 0 := by omega
  rw [if_pos hm]
  obtain ⟨m1, m2, m3, m4, m5, m6, m7⟩ := mayR_ok hm
  have hrl := rbytes_length hm
  obtain ⟨o, ho⟩ : ∃ o : Nat, r.o = o := ⟨r.o.toNat, by omega⟩
  obtain ⟨n, hn⟩ : ∃ n : Nat, r.n = n := ⟨r.n.toNat, by omega⟩
  have hrb : rbytes r = pput o ++ pput n ++ pput r.ups.length ++ r.ups.flatMap ubytes := by unfold rbytes; rw [ho, hn] <;> rfl
  rw [hrb] at hrl ⊢
  simp only [List.length_append] at hrl
  refine zK (zQ (zR (a_alloc z_177 hS rfl fun b5 w hS => zE ?_)))
  have hb : IsW b5 [] false [(b5, .cells #[.pointer none, .slice none 0 0, .bool false] 177)] := ⟨none, _, _, .inl rfl, .nil, rfl⟩
  replace hS : St M w ([(b5, .cells #[.pointer none, .slice none 0 0, .bool false] 177)] :: _) := hS
  refine zQ (zR (zF fl_48_0 rfl (wl ((y_load pl_3 rfl (hS.c (v := .int .i64 r.o))).val (congrArg (Value.int .i64) ho)) rfl (wl_call (.cons rfl (.cons rfl .nil)) (wnum_c hG o (by omega) hb (by simp) hS) rfl ?_))))
  rintro _ w ⟨H1, hb, hS⟩
  refine zE (zQ (zR (zF fl_48_1 rfl (wl ((y_load pl_3 rfl (hS.c (v := .int .i64 r.n))).val (congrArg (Value.int .i64) hn)) rfl (wl_call (.cons rfl (.cons rfl .nil)) (wnum_c hG n (by omega) hb (by simp only [List.length_append, List.length_nil]; omega) hS) rfl ?_)))))
  rintro _ w ⟨H2, hb, hS⟩
  refine zE (zQ (zR (zF fl_48_2 rfl (wl (y_load pl_46 rfl (hS.c (v := .slice sa r.ups.length sc))) rfl (wl (y_len_sl Tryz.underlying46 rfl) rfl (wl_call (.cons rfl (.cons rfl .nil)) (wnum_c hG r.ups.length (by omega) hb (by simp only [List.length_append, List.length_nil]; omega) hS) rfl ?_))))))
  rintro _ w ⟨H3, hb, hS⟩
  rw [List.nil_append] at hb
  refine zE (zQ (zQ (zR (zF fl_48_2 rfl (wl (y_load pl_46 rfl (hS.c (v := .slice sa r.ups.length sc))) rfl (wl (y_len_sl Tryz.underlying46 rfl) rfl (zM rfl (zE (zB (wc_loop (α := Nat) (fun i => [(5, .pointer (some ⟨b5, 0, none⟩)), (24, .slice sa r.ups.length sc), (25, .int .i64 r.ups.length), (26, .int .i64 i)]) (fun i w => i ≤ r.ups.length ∧ ∃ H, IsW b5 (pput o ++ pput n ++ pput r.ups.length ++ (r.ups.take i).flatMap ubytes) false H ∧ St M w (H :: Ls)) (fun i => r.ups.length - i) 0 (sub_cons rfl (sub_cons rfl (sub_cons rfl (subR rfl)))) ⟨by omega, _, by simpa using hb, hS.keep⟩ ?_))))))))))
  clear hS hb
  rintro i w ⟨hi, H, hb, hS⟩
  refine zQ (zR (wl (y_lss rfl rfl) rfl (zE (zQ (zIf rfl (fun hc27 => ?_) fun hc27 => ?_)))))
  · refine zK ?_
    refine zQ (zB (zQ ?_))
    have hi' : i < r.ups.length := by omega
    obtain ⟨u, hu⟩ : ∃ u, r.ups[i]? = some u := ⟨_, List.getElem?_eq_getElem hi'⟩
    have hut : (r.ups.take (i + 1)).flatMap ubytes = (r.ups.take i).flatMap ubytes ++ ubytes u := by rw [List.take_add_one, hu]; simp
    have hul := ups_length (l := r.ups.take i) fun x hx => m7 x (List.mem_of_mem_take hx)
    rw [List.length_take] at hul
    obtain ⟨bb, off, c', hse, hce⟩ := (hs.holds hS).at hu
    simp only [Value.slice.injEq] at hse
    have hSk := hS
    obtain ⟨rfl, _, rfl⟩ := hse
    replace hS := hSk
    refine zR (wl (y_ixa_sl Tryz.underlying46 sz_59 rfl rfl (by omega) (by omega)) rfl (wl (y_loadS st_59 sz_59 rfl (vs := encU.f u) hce rfl) rfl (a_alloc z_59 hS rfl fun b7 w hS => zG (vs := [_, _, _, _]) sz_59 rfl hS fun w hS => zE (zR (wl (y_loadS st_59 sz_59 rfl (hS.cells (vs := [_, _, _, _]) rfl) rfl) rfl (wl_call (.cons rfl (.cons rfl .nil)) (uwrite_c hG u (m7 u (List.mem_of_getElem? hu)) hb (by simp only [List.length_append]; omega) (hS.pull H)) rfl ?_))))))
    rintro _ w ⟨H', hb, hS⟩
    rw [List.append_assoc, ← hut] at hb
    refine zE (zR (wl (y_add rfl rfl (w64 (by omega) (by omega))) rfl (zM rfl (zE ?_))))
    exact ⟨i + 1, by omega, sub_cons rfl (sub_cons rfl (sub_cons rfl (subR rfl))), by omega, _, hb, hS.keep⟩
  obtain rfl : i = r.ups.length := by omega
  rw [List.take_length] at hb
  refine wc_exit (zQ (zR (wl_call (.cons rfl .nil) (wbytes_c hb (by simp only [List.length_append]; omega) hS) rfl ?_)))
  rintro _ w ⟨rfl, hS⟩
  refine zX rfl (zX rfl (zA rfl (zA rfl (zE (zV (z2 rfl ?_))))))
  exact ⟨rfl, hS.keep⟩
@[irreducible] def fits (l : List Upd) (mtu : Int) : Bool := decide (mayR ⟨64, 1099511627776, l⟩ = 0 ∧ (64 ≤ mtu ∧ mtu ≤ 1400) ∧ ((rbytes ⟨64, 1099511627776, l⟩).length : Int) ≤ mtu - 40)
theorem fits_c (hG : Bits M) (l : List Upd) (mtu : Int) (s : Value) (hm : -9223372036854775000 ≤ mtu ∧ mtu ≤ 9223372036854775807) (hs : Rd M encU s l) (hS : St M w Ls) : CallsR Tryz.prog 113 [s, .int .i64 mtu].toArray w fun v w' => v = .bool (fits l mtu) ∧ St M w' Ls := by
  have hs0 := hs
  obtain ⟨sa, sc, rfl⟩ := (hs.holds hS).slice
  have hsz : (str (rbytes ⟨64, 1099511627776, l⟩)).size = (rbytes ⟨64, 1099511627776, l⟩).length := by simp [str, ByteArray.size]
  unfold fits
  by_cases hm0 : mayR ⟨64, 1099511627776, l⟩ = 0
  · have hv : rputV ⟨64, 1099511627776, l⟩ = .tuple [.string (str (rbytes ⟨64, 1099511627776, l⟩)), .int .i64 0].toArray := by unfold rputV; rw [if_pos hm0]
    refine zC 26 Tryz.func113 rfl (zQ (zR (zA rfl (zE (zQ (zR (zM rfl (wl (y_build (is := [0, 1, 2]) (xs := [_, _, _]) (out := [_, _, _]) plc_48 z_48 (.cons rfl (.cons rfl (.cons rfl .nil))) rfl) rfl (wl_call (.cons rfl .nil) (rput_c hG ⟨64, 1099511627776, l⟩ _ hs0 hS) rfl ?_)))))))))
    rintro _ w ⟨rfl, hS⟩
    rw [hv]
    refine zM rfl (zX rfl (zX rfl (zA rfl (zA rfl (zE (zQ (zR (zM rfl (wl ((y_eql rfl rfl).val (u := .bool true) (congrArg Value.bool (rfl))) rfl (zM rfl (zI rfl (zM rfl (zI rfl (wl_call (.cons rfl (.cons rfl (.cons rfl .nil))) (in_c mtu 64 1400 hS) rfl ?_))))))))))))))
    rintro _ w ⟨rfl, hS⟩
    refine wl (y_pickT rfl rfl) rfl (zM rfl (zWc (s := 19) rfl (fun hg19 => ?_) fun hg19 => ?_))
    · refine zI rfl ?_
      refine zM rfl (zI rfl (wl (y_len_s Tryz.underlying9 rfl) rfl (zI rfl (zM rfl (zI rfl (wl (y_sub rfl rfl (w64 (by omega) (by omega))) rfl (zI rfl (wl (y_leq rfl rfl) rfl (wl (y_pickT rfl rfl) rfl (zA rfl (zE (zV (z1 rfl ?_)))))))))))))
      first
      | exact ⟨congrArg Value.bool (decide_eq_decide.2 ⟨fun h => ⟨hm0, by omega, by omega⟩, fun h => by omega⟩), hS⟩
      | exact ⟨congrArg Value.bool (decide_eq_false (fun h => by omega)).symm, hS⟩
    refine zO rfl ?_
    refine zO rfl (zO rfl (zO rfl (zO rfl (wl (y_pickF rfl rfl) rfl (zA rfl (zE (zV (z1 rfl ?_))))))))
    first
    | exact ⟨congrArg Value.bool (decide_eq_decide.2 ⟨fun h => ⟨hm0, by omega, by omega⟩, fun h => by omega⟩), hS⟩
    | exact ⟨congrArg Value.bool (decide_eq_false (fun h => by omega)).symm, hS⟩
  have hv : rputV ⟨64, 1099511627776, l⟩ = .tuple [.string ⟨#[]⟩, .int .i64 (mayR ⟨64, 1099511627776, l⟩)].toArray := by unfold rputV; rw [if_neg hm0]
  refine zC 26 Tryz.func113 rfl (zQ (zR (zA rfl (zE (zQ (zR (zM rfl (wl (y_build (is := [0, 1, 2]) (xs := [_, _, _]) (out := [_, _, _]) plc_48 z_48 (.cons rfl (.cons rfl (.cons rfl .nil))) rfl) rfl (wl_call (.cons rfl .nil) (rput_c hG ⟨64, 1099511627776, l⟩ _ hs0 hS) rfl ?_)))))))))
  rintro _ w ⟨rfl, hS⟩
  rw [hv]
  refine zM rfl (zX rfl (zX rfl (zA rfl (zA rfl (zE (zQ (zR (zM rfl (wl ((y_eql rfl rfl).val (u := .bool false) (congrArg Value.bool (decide_eq_false (by omega)))) rfl (zM rfl (zO rfl (zO rfl (wl (y_pickF rfl rfl) rfl (zM rfl (zO rfl (zO rfl (zO rfl (zO rfl (zO rfl (wl (y_pickF rfl rfl) rfl (zA rfl (zE (zV (z1 rfl ?_))))))))))))))))))))))))
  exact ⟨congrArg Value.bool (decide_eq_false (fun h => hm0 h.1)).symm, hS⟩
theorem clone_c (l : List Upd) (s : Value) (hl : l.length ≤ 137438953472) (hs : Rd M encU s l) (hS : St M w Ls) : CallsR Tryz.prog 160 [s].toArray w fun v w' => ∃ M', Mle M M' ∧ Rd M' encU v l ∧ St M' w' Ls := by
  obtain ⟨sa, sc, rfl⟩ := (hs.holds hS).slice
  refine zC 8 Tryz.func160 rfl (zQ (zR (zA rfl (zE (zQ (zQ (zR (zM rfl (wl (y_slnil Tryz.underlying46 rfl rfl) rfl (zE (zIf rfl (fun hc4 => ?_) fun hc4 => ?_)))))))))))
  · have hnil : l = [] := by
      obtain ⟨a', c', he, hq⟩ := hs.holds hS
      simp only [Value.slice.injEq] at he
      obtain ⟨rfl, _, _⟩ := he
      rcases hq with hq | ⟨b, off, hq, _⟩
      · exact hq
      rw [hq] at hc4; cases hc4
    subst hnil
    refine zQ (zR (zA rfl (zE (zV (z1 rfl ?_)))))
    first
    | exact ⟨M, Mle.refl _, Rd.nil, hS⟩
    | exact ⟨M', hM, hrd, hS.keep⟩
  refine zK ?_
  refine zQ (zR (a_bslice encU [] (vs := []) (ps := []) Tryz.underlying46 sz_59 z_59 rfl .nil rfl rfl rfl (by decide) hS rfl fun u Hu w hou hS => zM rfl (a_append Tryz.underlying46 Tryz.underlying46 sz_59 z_59 rfl by_59 (by decide) rfl rfl hou (hs.holds hS) hS (by simp; omega) rfl fun s1 H1 w ho1 hS => ?_)))
  obtain ⟨M', hM, hH, hS⟩ := hS.freeze
  have hrd := ho1.rd hH
  refine zA rfl (zE (zV (z1 rfl ?_)))
  first
  | exact ⟨M, Mle.refl _, Rd.nil, hS⟩
  | exact ⟨M', hM, hrd, hS.keep⟩
theorem rcopy_c (r : Rnd) (s : Value) (hl : r.ups.length ≤ 137438953472) (hs : Rd M encU s r.ups) (hS : St M w Ls) : CallsR Tryz.prog 120 [rvS r s].toArray w fun v w' => ∃ M' s', v = rvS r s' ∧ Mle M M' ∧ Rd M' encU s' r.ups ∧ St M' w' Ls := by
  have hs0 := hs
  obtain ⟨sa, sc, rfl⟩ := (hs.holds hS).slice
  refine zC 8 Tryz.func120 rfl (zQ (zR (a_box rfl hS rfl fun b1 w hS => a_alloc z_48 hS rfl fun b2 w hS => zE (zQ (zR (zF fl_48_2 rfl (wl (y_load pl_46 rfl (hS.c (v := .slice sa r.ups.length sc))) rfl (wl_call (.cons rfl .nil) (clone_c r.ups _ hl hs0 hS) rfl ?_))))))))
  rintro s' w ⟨M', hM, hs', hS⟩
  obtain ⟨sa', sc', rfl⟩ := (hs'.holds hS).slice
  refine zF fl_48_2 rfl (zS sz_46 rfl hS fun w hS => zE (zQ (zR (wl (y_loadS st_48 sz_48 rfl (hS.cells (vs := [_, _, _]) rfl) rfl) rfl (zG (vs := [_, _, _]) sz_48 rfl hS fun w hS => zE (zV (wret (vs := [_]) (.cell rfl (loadVar_struct st_48 sz_48 (vs := [_, _, _]) rfl (hS.cells rfl)) .nil) ?_)))))))
  exact ⟨M', _, rfl, hM, hs', hS.keep⟩
end
end Go.Proofs.YtndahppmjdbifaaGreatDoor.Rou
set_option linter.unusedVariables false
set_option linter.unusedSimpArgs false
namespace Go.Proofs.YtndahppmjdbifaaGreatDoor.Rou
open Go Go.Proofs Eng Pre Pak Val
@[irreducible] def rsome (r : Rdr) (lim : Nat) : Nat × Rdr := ((rnum r lim).1, if (rnum r lim).1 = 0 then rfail (rnum r lim).2 1 else (rnum r lim).2)
def rups (r : Rdr) : Nat → List Upd × Rdr
  | 0 => ([], r)
  | k + 1 => ((rups r k).1 ++ [ruU (rups r k).2], ruR (rups r k).2)
theorem rsome_ok {r : Rdr} (h : r.ok) (lim : Nat) : (rsome r lim).2.ok ∧ (rsome r lim).1 ≤ lim := by
  have h1 := rnum_ok h lim
  unfold rsome
  simp only
  split
  · exact ⟨(rfail_ok h1.1 1).1, h1.2.1⟩
  exact ⟨h1.1, h1.2.1⟩
theorem rups_ok {r : Rdr} (h : r.ok) : ∀ k, (rups r k).2.ok ∧ (rups r k).1.length = k
  | 0 => ⟨h, rfl⟩
  | k + 1 => by
    have := rups_ok h k
    simp only [rups]
    exact ⟨ruR_ok this.1, by simp [this.2]⟩
@[irreducible] def gr1 (b : ByteArray) : Nat × Rdr := rsome ⟨b, 0, 0⟩ 64
@[irreducible] def gr2 (b : ByteArray) : Nat × Rdr := rsome (gr1 b).2 1099511627776
@[irreducible] def gr3 (b : ByteArray) : Nat × Rdr := rsome (gr2 b).2 8
@[irreducible] def gr4 (b : ByteArray) : List Upd × Rdr := rups (gr3 b).2 (gr3 b).1
@[irreducible] def gre (b : ByteArray) : Nat := (rend (gr4 b).2).e
@[irreducible] def grr (b : ByteArray) : Rnd := if gre b = 0 then ⟨(gr1 b).1, (gr2 b).1, (gr4 b).1⟩ else ⟨0, 0, []⟩
theorem gr_ok (b : ByteArray) (hb : b.size ≤ 140737488351232) : (gr1 b).2.ok ∧ (gr2 b).2.ok ∧ (gr3 b).2.ok ∧ (gr3 b).1 ≤ 8 ∧ (gr4 b).2.ok := by
  have h0 : (⟨b, 0, 0⟩ : Rdr).ok := ⟨Nat.zero_le _, hb⟩
  have h1 : (gr1 b).2.ok := by unfold gr1; exact (rsome_ok h0 64).1
  have h2 : (gr2 b).2.ok := by unfold gr2; exact (rsome_ok h1 _).1
  have h3 : (gr3 b).2.ok ∧ (gr3 b).1 ≤ 8 := by unfold gr3; exact rsome_ok h2 8
  have h4 : (gr4 b).2.ok := by unfold gr4; exact (rups_ok h3.1 _).1
  exact ⟨h1, h2, h3.1, h3.2, h4⟩
section
variable {M : Mem} {w : World} {Ls : List Chunk}
theorem rsome_c (hG : Bits M) {p : Nat} {r : Rdr} (lim : Nat) (hlim : lim ≤ 1152921504606846976) (h : r.ok) (hS : St M w ([(p, rdrO r)] :: Ls)) :
    CallsR Tryz.prog 141 [.pointer (some ⟨p, 0, none⟩), .int .i64 lim].toArray w fun v w' => v = .int .i64 (rsome r lim).1 ∧ St M w' ([(p, rdrO (rsome r lim).2)] :: Ls) := by
  unfold rsome
  simp only
  refine zC 14 Tryz.func141 rfl (zQ (zR (zA rfl (zE (zQ (zR (zM rfl (zM rfl (wl_call (.cons rfl (.cons rfl .nil)) (rnum_c hG lim hlim h hS) rfl ?_)))))))))
  rintro _ w ⟨rfl, hS⟩
  refine zA rfl (zE (zQ (zQ (zR (zM rfl (wl (y_eql rfl rfl) rfl (zE (zIf rfl (fun hc10 => ?_) fun hc10 => ?_))))))))
  · rw [if_pos (by omega)]
    refine zR (zM rfl (wl_call (.cons rfl (.cons rfl .nil)) (rfail_c 1 hS) rfl ?_))
    intro _ w hS
    refine zE (zQ (zR (zM rfl (zA rfl (zE (zV (z1 rfl ?_)))))))
    exact ⟨rfl, hS⟩
  rw [if_neg (by omega)]
  refine zK (zQ (zR (zM rfl (zA rfl (zE (zV (z1 rfl ?_)))))))
  exact ⟨rfl, hS⟩
theorem rget_c (hG : Bits M) (b : ByteArray) (hb : b.size ≤ 140737488351232) (hS : St M w Ls) :
    CallsR Tryz.prog 81 [.string b].toArray w fun v w' => ∃ M' s', v = .tuple [rvS (grr b) s', .int .i64 (gre b)].toArray ∧ Mle M M' ∧ Rd M' encU s' (grr b).ups ∧ St M' w' Ls := by
  obtain ⟨h1, h2, h3, h8, h4⟩ := gr_ok b hb
  have h0 : (⟨b, 0, 0⟩ : Rdr).ok := ⟨Nat.zero_le _, hb⟩
  have e1 : rsome ⟨b, 0, 0⟩ 64 = gr1 b := by unfold gr1; rfl
  have e2 : rsome (gr1 b).2 1099511627776 = gr2 b := by rw [gr2]
  have e3 : rsome (gr2 b).2 8 = gr3 b := by rw [gr3]
  have e4 : rups (gr3 b).2 (gr3 b).1 = gr4 b := by rw [gr4]
  have ee : (rend (gr4 b).2).e = gre b := by rw [gre]
  refine zC 33 Tryz.func81 rfl (zQ (zR (a_alloc z_48 hS rfl fun b2 w hS => zA rfl (zE (zQ (zR (zM rfl (wl_call (.cons rfl .nil) (read_c b hS) rfl ?_))))))))
  rintro _ w ⟨p, rfl, hS⟩
  refine zA rfl (zE (zQ (zR (zM rfl (wl_call (.cons rfl (.cons rfl .nil)) (rsome_c hG 64 (by decide) h0 hS) rfl ?_)))))
  rintro _ w ⟨rfl, hS⟩
  rw [e1] at hS ⊢
  refine zM rfl (wl_call (.cons rfl (.cons rfl .nil)) (rsome_c hG 1099511627776 (by decide) h1 hS) rfl ?_)
  rintro _ w ⟨rfl, hS⟩
  rw [e2] at hS ⊢
  refine wl (y_build (is := [0, 1]) (xs := [_, _]) (out := [_, _, _]) plc_48 z_48 (.cons rfl (.cons rfl .nil)) rfl) rfl (a_alloc z_48 hS rfl fun b5 w hS => zG (vs := [_, _, _]) sz_48 rfl hS fun w hS => zE ?_)
  simp only [zL, cells_agg, setCells] at hS
  refine zQ (zQ (zR (zM rfl (wl_call (.cons rfl (.cons rfl .nil)) (rsome_c hG 8 (by decide) h2 (hS.pull [(p, rdrO (gr2 b).2)])) rfl ?_))))
  rintro _ w ⟨rfl, hS⟩
  rw [e3] at hS ⊢
  refine zM rfl (zE (zB (wc_loop (α := Nat × Value × Chunk) (fun ⟨i, s, H⟩ => [(2, .pointer (some ⟨b2, 0, none⟩)), (4, .pointer (some ⟨p, 0, none⟩)), (5, .pointer (some ⟨b5, 0, none⟩)), (15, .int .i64 (gr3 b).1), (16, .int .i64 i)]) (fun ⟨i, s, H⟩ w => i ≤ (gr3 b).1 ∧ Own 59 encU s (rups (gr3 b).2 i).1 H ∧ St M w (H :: [(p, rdrO (rups (gr3 b).2 i).2)] :: [(b5, .cells #[.int .i64 (gr1 b).1, .int .i64 (gr2 b).1, s] 48)] :: [(b2, .cells #[.int .i64 0, .int .i64 0, .slice none 0 0] 48)] :: Ls)) (fun ⟨i, _, _⟩ => (gr3 b).1 - i) (0, .slice none 0 0, []) (sub_cons rfl (sub_cons rfl (sub_cons rfl (sub_cons rfl (subR rfl))))) ⟨by omega, .nil, St.nil hS⟩ ?_)))
  clear hS
  rintro ⟨i, s, H⟩ w ⟨hi, ho, hS⟩
  obtain ⟨sa, sc, rfl⟩ := ho.slice
  obtain ⟨k4, k5⟩ := rups_ok h3 i
  refine zQ (zR (wl (y_lss rfl rfl) rfl (zE (zQ (zIf rfl (fun hc17 => ?_) fun hc17 => ?_)))))
  · refine zK ?_
    refine zQ (zB (zW hS (fun w => w.cell? ⟨b5, 2, none⟩ = some (.slice sa (rups (gr3 b).2 i).1.length sc)) [5, 7] wide_ rfl fun w hS => zPf 0 1 fl_48_2 rfl (zPm 2 5 rfl (zD 1 7 rfl (hS.cell rfl) (fun w hS => y_load pl_46 rfl hS) (zU 3 15 rfl (wl_call (.cons rfl .nil) (uread_c hG k4 (hS.pull [(p, rdrO (rups (gr3 b).2 i).2)])) rfl ?_))))))
    rintro _ w ⟨rfl, hS⟩
    refine zE ⟨fun _ _ => hS.c, zU 4 31 rfl (a_bslice encU [ruU (rups (gr3 b).2 i).2] Tryz.underlying46 sz_59 z_59 rfl (.cons rfl .nil) rfl rfl rfl (by decide) hS rfl fun u Hu w hou hS => zE ⟨fun _ _ => hS.c, zU 5 63 rfl (a_append Tryz.underlying46 Tryz.underlying46 sz_59 z_59 rfl by_59 (by decide) rfl rfl ho (hou.holds (hS.pull Hu)) hS (by simp; omega) rfl fun s1 H1 w ho1 hS => ?_)⟩)⟩
    obtain ⟨sa1, sc1, rfl⟩ := ho1.slice
    refine zE ⟨fun h => absurd (by decide) h, zPf 6 127 fl_48_2 rfl (zU 7 255 rfl (zS sz_46 rfl hS fun w hS => zE ⟨fun h => absurd (by decide) h, zH ?_⟩))⟩
    simp only [zL, cells_agg, setCells] at hS
    refine zR (wl (y_add rfl rfl (w64 (by omega) (by omega))) rfl (zM rfl (zE ?_)))
    exact ⟨(i + 1, _, H1), by simp only; omega, sub_cons rfl (sub_cons rfl (sub_cons rfl (sub_cons rfl (subR rfl)))), by omega, ho1, (by have h := hS.keep (T := H1 :: [(p, rdrO (ruR (rups (gr3 b).2 i).2))] :: [(b5, .cells #[.int .i64 (gr1 b).1, .int .i64 (gr2 b).1, .slice sa1 ((rups (gr3 b).2 i).1 ++ [ruU (rups (gr3 b).2 i).2]).length sc1] 48)] :: [(b2, .cells #[.int .i64 0, .int .i64 0, .slice none 0 0] 48)] :: Ls); exact h)⟩
  obtain rfl : i = (gr3 b).1 := by omega
  rw [e4] at hS ho
  refine wc_exit (zQ (zQ (zR (zM rfl (wl_call (.cons rfl .nil) (rend_c (hS.pull [(p, rdrO (gr4 b).2)])) rfl ?_)))))
  rintro _ w ⟨rfl, hS⟩
  rw [ee]
  obtain ⟨M', hM, hH, hS⟩ := (hS.pull H).freeze
  have hrd := ho.rd hH
  refine zA rfl (zE (zQ (zR (zM rfl (wl (y_neq rfl rfl) rfl (zE (zIf rfl (fun hc29 => ?_) fun hc29 => ?_)))))))
  · have hg : grr b = ⟨0, 0, []⟩ := by unfold grr; rw [if_neg (by omega)]
    rw [hg]
    refine zQ (zR (wl (y_build (is := []) (xs := []) (out := [_, _, _]) plc_48 z_48 .nil rfl) rfl (zM rfl (zG (vs := [_, _, _]) sz_48 rfl hS fun w hS => zA rfl (zE (zV (wret (vs := [_, _]) (.cell rfl (loadVar_struct st_48 sz_48 (vs := [_, _, _]) rfl (hS.cells rfl)) (.tmp rfl .nil)) ?_)))))))
    first
    | exact ⟨M', _, rfl, hM, hrd, hS.keep⟩
    | exact ⟨M', _, rfl, hM, Rd.nil, hS.keep⟩
  have hg : grr b = ⟨(gr1 b).1, (gr2 b).1, (gr4 b).1⟩ := by unfold grr; rw [if_pos (by omega)]
  have hz : gre b = 0 := by omega
  rw [hg, hz]
  refine zK (zQ (zR (wl (y_loadS st_48 sz_48 rfl (hS.cells (vs := [_, _, _]) rfl) rfl) rfl (zG (vs := [_, _, _]) sz_48 rfl hS fun w hS => zA rfl (zE (zV (wret (vs := [_, _]) (.cell rfl (loadVar_struct st_48 sz_48 (vs := [_, _, _]) rfl (hS.cells rfl)) (.tmp rfl .nil)) ?_)))))))
  first
  | exact ⟨M', _, rfl, hM, hrd, hS.keep⟩
  | exact ⟨M', _, rfl, hM, Rd.nil, hS.keep⟩
end
end Go.Proofs.YtndahppmjdbifaaGreatDoor.Rou
set_option linter.unusedVariables false
namespace Go.Proofs.YtndahppmjdbifaaGreatDoor.Crc
def cstep (x : BitVec 32) : BitVec 32 := if x &&& 1#32 = 1#32 then (x >>> 1) ^^^ 2197175160#32 else x >>> 1
def steps : Nat → BitVec 32 → BitVec 32
  | 0, x => x
  | k + 1, x => cstep (steps k x)
def ent (i : Nat) : BitVec 32 := steps 8 (BitVec.ofNat 32 i)
def cbyte (x : BitVec 32) (c : BitVec 8) : BitVec 32 := (x >>> 8) ^^^ ent (x.setWidth 8 ^^^ c).toNat
def crun (x : BitVec 32) (l : List UInt8) : BitVec 32 := l.foldl (fun x c => cbyte x c.toBitVec) x
def more (s : BitVec 32) (b : ByteArray) : BitVec 32 := ~~~ crun (~~~ s) b.data.toList
def sum (b : ByteArray) : BitVec 32 := more 0#32 b
theorem crun_append (x : BitVec 32) (l m : List UInt8) : crun x (l ++ m) = crun (crun x l) m := by simp [crun]
end Go.Proofs.YtndahppmjdbifaaGreatDoor.Crc
set_option linter.unusedVariables false
set_option linter.unusedSimpArgs false
namespace Go.Proofs.YtndahppmjdbifaaGreatDoor.Crc
open Go Go.Proofs Eng
def tabTo (k : Nat) : List Value := (List.range 256).map fun i => .int .u32 (if i < k then ((ent i).toNat : Int) else 0)
theorem tabTo_length (k : Nat) : (tabTo k).length = 256 := by simp [tabTo]
theorem tabTo_zero : tabTo 0 = List.replicate 256 (.int .u32 0) := by
  apply List.ext_getElem
  · rw [tabTo_length, List.length_replicate]
  intro i h1 h2
  simp only [tabTo, List.getElem_map, List.getElem_replicate, Nat.not_lt_zero, if_false]
theorem cstep_T (x : BitVec 32) (h : ((x &&& 1#32).toNat : Int) = 1) : cstep x = (x >>> 1) ^^^ 2197175160#32 := by
  have e : x &&& 1#32 = 1#32 := BitVec.eq_of_toNat_eq (by simp only [BitVec.toNat_ofNat]; omega)
  simp only [cstep, e, if_true]
theorem cstep_F (x : BitVec 32) (h : ¬ ((x &&& 1#32).toNat : Int) = 1) : cstep x = (x >>> 1) := by
  have e : ¬ x &&& 1#32 = 1#32 := fun e => h (by rw [e] <;> rfl)
  simp only [cstep, e, if_false]
theorem tabTo_set (k : Nat) (hk : k < 256) : (tabTo k).toArray.setIfInBounds k (.int .u32 ((ent k).toNat : Int)) = (tabTo (k + 1)).toArray := by
  apply Array.ext'
  apply List.ext_getElem?
  intro i
  simp only [List.setIfInBounds_toArray, List.getElem?_set, tabTo_length]
  by_cases h : k = i
  · subst h; simp [tabTo, hk, List.getElem?_map, List.getElem?_range hk]
  simp only [h, if_false, tabTo, List.getElem?_map]
  by_cases hi : i < 256
  · simp only [List.getElem?_range hi, Option.map_some, Option.some.injEq, Value.int.injEq, true_and]
    by_cases h1 : i < k
    · simp [h1, Nat.lt_succ_of_lt h1]
    have : ¬ i < k + 1 := by omega
    simp [h1, this]
  simp [List.getElem?_eq_none (by simp; omega : (List.range 256).length ≤ i)]
def tableV : Value := .agg (tabTo 256).toArray
theorem build_c {M : Mem} {w : World} {Ls : List Chunk} (hS : St M w Ls) :
    CallsR Tryz.prog 203 [].toArray w fun v w' => v = tableV ∧ St M w' Ls := by
  refine zC 24 Tryz.func203 rfl (zQ (zR (a_alloc z_260 hS rfl fun b0 w hS => zE (zQ (zQ (zR (zM rfl (zE (zB (wc_loop (α := Nat) (fun k => [(0, .pointer (some ⟨b0, 0, none⟩)), (3, .int .i64 k)]) (fun k w => k ≤ 256 ∧ St M w ([(b0, .cells (tabTo k).toArray 260)] :: Ls)) (fun k => 256 - k) 0 (sub_cons rfl (subR rfl)) ⟨by omega, by rw [tabTo_zero]; exact hS⟩ ?_))))))))))
  rintro k w ⟨hk, hS⟩
  refine zQ (zR (wl (y_lss rfl rfl) rfl (zE (zQ (zIf rfl (fun hc4 => ?_) fun hc4 => ?_)))))
  · refine zK ?_
    refine zQ (zB (zQ (zR (zM rfl (zA rfl (zE (zQ (zR (zM rfl (wl (y_conv Tryz.underlying3 Tryz.underlying228 rfl rfl) rfl (zA rfl (zE (zQ (zQ (zR (zM rfl (zE (zB (wc_loop (α := Nat) (fun j => [(0, .pointer (some ⟨b0, 0, none⟩)), (3, .int .i64 k), (1, .int .i64 k), (2, .int .u32 ((steps j (BitVec.ofNat 32 k)).toNat : Int)), (8, .int .i64 j)]) (fun j w => j ≤ 8 ∧ St M w ([(b0, .cells (tabTo k).toArray 260)] :: Ls)) (fun j => 8 - j) 0 (sub_cons rfl (sub_cons rfl (sub_cons rfl (sub_cons rfl (subR rfl))))) ⟨by omega, hS⟩ ?_)))))))))))))))))))
    rintro j w ⟨hj, hS⟩
    refine zQ (zR (wl (y_lss rfl rfl) rfl (zE (zQ (zIf rfl (fun hc9 => ?_) fun hc9 => ?_)))))
    · refine zK ?_
      refine zQ (zB (zQ (zR (zM rfl (wl (y_and rfl (bvc32 1) (bvand32 _ _)) rfl (wl (y_eql rfl rfl) rfl (zE (zIf rfl (fun hc12 => ?_) fun hc12 => ?_))))))))
      · have e : steps (j + 1) (BitVec.ofNat 32 k) = _ := cstep_T _ hc12
        refine zR (zM rfl (wl (y_shr rfl rfl (by decide) (bvshr32 _ 1)) rfl (wl (y_xor rfl (bvc32 2197175160) (bvxor32 _ _)) rfl (zA rfl (zE (zR (wl (y_add rfl rfl (w64 (by omega) (by omega))) rfl (zM rfl (zE ?_)))))))))
        exact ⟨j + 1, by omega, sub_cons rfl (sub_cons rfl (sub_cons rfl (sub_cons (by rw [e] <;> rfl) (subR rfl)))), by omega, hS⟩
      have e : steps (j + 1) (BitVec.ofNat 32 k) = _ := cstep_F _ hc12
      refine zR (zM rfl (wl (y_shr rfl rfl (by decide) (bvshr32 _ 1)) rfl (zA rfl (zE (zR (wl (y_add rfl rfl (w64 (by omega) (by omega))) rfl (zM rfl (zE ?_))))))))
      exact ⟨j + 1, by omega, sub_cons rfl (sub_cons rfl (sub_cons rfl (sub_cons (by rw [e] <;> rfl) (subR rfl)))), by omega, hS⟩
    refine wc_exit ?_
    refine zR (zM rfl (zM rfl (wl (y_ixa_ar Tryz.underlying260 sz_228 rfl rfl (by omega) (by omega)) rfl ?_)))
    obtain rfl : j = 8 := by omega
    refine a_store sz_228 rfl rfl rfl hS (by simp only [List.size_toArray, tabTo_length]; omega) fun w hS => ?_
    simp only [Nat.zero_add, Int.toNat_natCast, Nat.mul_one] at hS
    refine zE (zR (wl (y_add rfl rfl (w64 (by omega) (by omega))) rfl (zM rfl (zE ?_))))
    exact ⟨k + 1, by omega, sub_cons rfl (subR rfl), by omega, by rw [← tabTo_set k (by omega)]; exact hS⟩
  obtain rfl : k = 256 := by omega
  refine wc_exit (zQ (zR (wl (y_loadArr Tryz.underlying260 sz_260 rfl hS.all (tabTo_length 256)) rfl (a_storeS (vs := tabTo 256) sz_260 rfl rfl (by decide +kernel) (tabTo_length 256) hS (by simp [tabTo_length]) fun w hS => ?_))))
  rw [setCells_self] at hS
  refine zE (zV (wret (vs := [_]) (.cell rfl (loadVar_array Tryz.underlying260 sz_260 (tabTo_length 256) hS.all) .nil) ?_))
  exact ⟨rfl, hS.drop⟩
theorem table_c {M : Mem} {w : World} {Ls : List Chunk} (hS : St M w Ls) :
    CallsR Tryz.prog 199 [].toArray w fun v w' => v = tableV ∧ St M w' Ls := by
  refine zC 2 Tryz.func199 rfl (zQ (zR (a_alloc z_260 hS rfl fun b0 w hS => zE (zQ (zR (wl_call .nil (build_c hS) rfl ?_))))))
  rintro _ w ⟨rfl, hS⟩
  refine a_storeS (vs := tabTo 256) sz_260 rfl rfl (by decide +kernel) (tabTo_length 256) hS (by show _ ≤ (List.replicate 256 _).toArray.size; rw [List.size_toArray, List.length_replicate]; decide) fun w hS => ?_
  replace hS : St M w ([(b0, .cells (setCells (List.replicate 256 (.int .u32 0)).toArray 0 (tabTo 256)) 260)] :: Ls) := hS
  rw [setCells_whole _ _ (by rw [List.length_replicate, tabTo_length])] at hS
  refine zE (zV (wret (vs := [_]) (.cell rfl (loadVar_array Tryz.underlying260 sz_260 (tabTo_length 256) hS.all) .nil) ?_))
  exact ⟨rfl, hS.drop⟩
theorem tabTo_at (x : BitVec 8) : (tabTo 256)[(x.toNat : Int).toNat]? = some (.int .u32 ((ent x.toNat).toNat : Int)) := by
  have h := x.isLt
  simp [tabTo, List.getElem?_map, List.getElem?_range h]
  exact fun h' => absurd h' (by omega)
theorem bget (b : ByteArray) (k : Nat) (h : k < b.size) : b[(k : Int).toNat]? = some b[k] := by
  simp [h]
theorem take_succ (b : ByteArray) (k : Nat) (h : k < b.size) : b.data.toList.take (k + 1) = b.data.toList.take k ++ [b[k]] := by
  rw [List.take_succ_eq_append_getElem (by simpa using h)] <;> rfl
theorem more_c {M : Mem} {w : World} {Ls : List Chunk} (s : BitVec 32) (b : ByteArray) (hb : b.size ≤ 140737488351232) (hS : St M w Ls) :
    CallsR Tryz.prog 189 [.int .u32 (s.toNat : Int), .string b].toArray w fun v w' => v = .int .u32 ((more s b).toNat : Int) ∧ St M w' Ls := by
  refine zC 28 Tryz.func189 rfl (zQ (zR (zA rfl (zE (zQ (zR (zM rfl (wl (y_compl rfl (bvnot32 _)) rfl (zA rfl (zE (zQ (zQ (zR (zM rfl (wl (y_len_s Tryz.underlying9 rfl) rfl (zM rfl (zE (zB (wc_loop (α := Nat) (fun k => [(1, .string b), (10, .int .i64 b.size), (11, .int .i64 k), (5, .int .u32 ((crun (~~~ s) (b.data.toList.take k)).toNat : Int))]) (fun k w => k ≤ b.size ∧ St M w Ls) (fun k => b.size - k) 0 (sub_cons rfl (sub_cons rfl (sub_cons rfl (subR rfl)))) ⟨by omega, hS⟩ ?_)))))))))))))))))))
  rintro k w ⟨hk, hS⟩
  refine zQ (zR (wl (y_lss rfl rfl) rfl (zE (zQ (zIf rfl (fun hc12 => ?_) fun hc12 => ?_)))))
  · refine zK ?_
    refine zQ (zB (zQ (zR (zM rfl (zA rfl (zE ?_))))))
    have hk' : k < b.size := by omega
    have hidx := bget b k hk'
    have h8 := ((BitVec.setWidth 8 (crun (~~~ s) (b.data.toList.take k))) ^^^ b[k].toBitVec).isLt
    have hcr : crun (~~~ s) (b.data.toList.take (k + 1)) = _ := (congrArg (crun (~~~ s)) (take_succ b k hk')).trans (crun_append _ _ _)
    refine zW hS (fun _ => True) [] wide_ rfl fun w hS => zPm 0 1 rfl (zP 1 3 rfl (fun w => y_shr rfl rfl (by decide) (bvshr32 _ 8)) (zPm 3 11 rfl (zP 4 27 rfl (fun w => y_conv Tryz.underlying228 Tryz.underlying5 rfl (bvconv_u32_u8 _)) (zPm 5 59 rfl (zPm 6 123 rfl (zP 7 251 rfl (fun w => y_idx_s Tryz.underlying9 rfl rfl (by omega) hidx) (zP 8 507 rfl (fun w => y_xor rfl rfl (bvxor8 _ _)) (zU 2 511 rfl (wl_call .nil (table_c hS) rfl ?_)))))))))
    rintro _ w ⟨rfl, hS⟩
    refine zE ⟨fun _ _ => trivial, zP 9 1023 rfl (fun w => y_idx_ar Tryz.underlying260 pl_228 sz_228 rfl rfl (by omega) (by omega) (tabTo_at _)) (zP 10 2047 rfl (fun w => y_xor rfl rfl (bvxor32 _ _)) (zPa 11 4095 rfl (zH (zR (wl (y_add rfl rfl (w64 (by omega) (by omega))) rfl (zM rfl (zE ?_)))))))⟩
    exact ⟨k + 1, by omega, sub_cons rfl (sub_cons rfl (sub_cons rfl (sub_cons (by rw [hcr] <;> rfl) sub_nil))), by omega, hS⟩
  obtain rfl : k = b.size := by omega
  have hcr : b.data.toList.take b.size = b.data.toList := List.take_of_length_le (by simp)
  refine wc_exit (zQ (zR (zM rfl (wl (y_compl rfl (bvnot32 _)) rfl (zA rfl (zE (zV (z1 rfl ?_))))))))
  exact ⟨by rw [hcr] <;> rfl, hS⟩
theorem sum_c {M : Mem} {w : World} {Ls : List Chunk} (b : ByteArray) (hb : b.size ≤ 140737488351232) (hS : St M w Ls) :
    CallsR Tryz.prog 166 [.string b].toArray w fun v w' => v = .int .u32 ((sum b).toNat : Int) ∧ St M w' Ls := by
  refine zC 5 Tryz.func166 rfl (zQ (zR (zA rfl (zE (zQ (zR (zM rfl (wl_call (.cons rfl (.cons rfl .nil)) (more_c 0#32 b hb hS) rfl ?_))))))))
  rintro _ w ⟨rfl, hS⟩
  refine zA rfl (zE (zV (z1 rfl ?_)))
  exact ⟨rfl, hS⟩
def le4 (x : BitVec 32) : List UInt8 := [⟨x.setWidth 8⟩, ⟨(x >>> 8).setWidth 8⟩, ⟨(x >>> 16).setWidth 8⟩, ⟨(x >>> 24).setWidth 8⟩]
def seal_ (b : ByteArray) : ByteArray := ⟨(b.data.toList ++ le4 (sum b)).toArray⟩
theorem append_mk (b : ByteArray) (l : List UInt8) : b ++ (⟨l.toArray⟩ : ByteArray) = ⟨(b.data.toList ++ l).toArray⟩ := by
  apply bytes_eq; simp
theorem bytes_c {M : Mem} {w : World} {Ls : List Chunk} (x : BitVec 32) (hS : St M w Ls) :
    CallsR Tryz.prog 165 [.int .u32 (x.toNat : Int)].toArray w fun v w' => v = .string ⟨(le4 x).toArray⟩ ∧ St M w' Ls := by
  refine zC 16 Tryz.func165 rfl (zQ (zR (zA rfl (zE (zQ (zR (zM rfl (wl (y_conv Tryz.underlying228 Tryz.underlying5 rfl (bvconv_u32_u8 _)) rfl (zM rfl (wl (y_shr rfl rfl (by decide) (bvshr32 _ 8)) rfl (wl (y_conv Tryz.underlying228 Tryz.underlying5 rfl (bvconv_u32_u8 _)) rfl (zM rfl (wl (y_shr rfl rfl (by decide) (bvshr32 _ 16)) rfl (wl (y_conv Tryz.underlying228 Tryz.underlying5 rfl (bvconv_u32_u8 _)) rfl (zM rfl (wl (y_shr rfl rfl (by decide) (bvshr32 _ 24)) rfl (wl (y_conv Tryz.underlying228 Tryz.underlying5 rfl (bvconv_u32_u8 _)) rfl (a_bslice encB (le4 x) (vs := [_, _, _, _]) (ps := [(0, .tmp 4), (1, .tmp 7), (2, .tmp 10), (3, .tmp 13)]) Tryz.underlying173 sz_5 z_5 rfl (.cons rfl (.cons rfl (.cons rfl (.cons rfl .nil)))) rfl rfl rfl (by decide) hS rfl fun s H w ho hS => wl (y_b2sh Tryz.underlying173 Tryz.underlying9 Tryz.underlying5 rfl (ho.holds hS)) rfl (zA rfl (zE (zV (z1 rfl ?_))))))))))))))))))))))
  exact ⟨rfl, hS.drop⟩
theorem seal_c {M : Mem} {w : World} {Ls : List Chunk} (b : ByteArray) (hb : b.size ≤ 140737488351232) (hS : St M w Ls) :
    CallsR Tryz.prog 130 [.string b].toArray w fun v w' => v = .string (seal_ b) ∧ St M w' Ls := by
  refine zC 8 Tryz.func130 rfl (zQ (zR (zA rfl (zE (zQ (zR (zM rfl (zM rfl (wl_call (.cons rfl .nil) (sum_c b hb hS) rfl ?_)))))))))
  rintro _ w ⟨rfl, hS⟩
  refine wl_call (.cons rfl .nil) (bytes_c _ hS) rfl ?_
  rintro _ w ⟨rfl, hS⟩
  refine wl (y_sadd rfl rfl (by simp only [ByteArray.size, List.size_toArray, le4, List.length_cons, List.length_nil] at *; omega)) rfl (zA rfl (zE (zV (z1 rfl ?_))))
  exact ⟨by rw [append_mk] <;> rfl, hS⟩
def open_ (b : ByteArray) : Option ByteArray :=
  if b.size < 4 then none else if seal_ (b.extract 0 (b.size - 4)) = b then some (b.extract 0 (b.size - 4)) else none
def openV : Option ByteArray → Value
  | none => .tuple #[.string ByteArray.empty, .bool false]
  | some s => .tuple #[.string s, .bool true]
theorem open_c {M : Mem} {w : World} {Ls : List Chunk} (b : ByteArray) (hb : b.size ≤ 140737488351232) (hS : St M w Ls) :
    CallsR Tryz.prog 64 [.string b].toArray w fun v w' => v = openV (open_ b) ∧ St M w' Ls := by
  refine zC 21 Tryz.func64 rfl (zQ (zR (zA rfl (zA rfl (zE (zQ (zR (zM rfl (wl (y_len_s Tryz.underlying9 rfl) rfl (wl (y_sub rfl rfl (w64 (by omega) (by omega))) rfl (zA rfl (zE (zQ (zQ (zR (zM rfl (wl (y_lss rfl rfl) rfl (zM rfl (zWc (s := 10) rfl (fun hg10 => ?_) fun hg10 => ?_)))))))))))))))))))
  · refine zO rfl ?_
    refine zO rfl (zO rfl (zO rfl (zO rfl (zO rfl (wl (y_pickT rfl rfl) rfl (zE (wc_ifT rfl rfl (zQ (zR (zA rfl (zA rfl (zE (zV (z2 rfl (⟨?_, hS⟩)))))))))))))))
    unfold open_
    first
    | (rw [if_pos (by omega)] <;> rfl)
    | (rw [if_neg (by omega), if_neg hc17] <;> rfl)
    | (rw [if_neg (by omega), if_pos hc17] <;> rfl)
  have e4 : ((b.size : Int) - 4).toNat = b.size - 4 := by omega
  refine zI rfl (zM rfl (zI rfl (zM rfl (zI rfl (wl (y_sl_s Tryz.underlying9 rfl (lv := 0) rfl ⟨_, _, rfl, by omega, e4⟩ (by omega) (by omega) rfl) rfl (zI rfl (wl_call (.cons rfl .nil) (seal_c _ (by rw [ByteArray.size_extract]; omega) hS) rfl ?_)))))))
  rintro _ w ⟨rfl, hS⟩
  refine zI rfl (zM rfl (zI rfl (wl (y_sneq rfl rfl) rfl (wl (y_pickF rfl rfl) rfl (zE (zIf rfl (fun hc17 => ?_) fun hc17 => ?_))))))
  · refine zQ ?_
    refine zR (zA rfl (zA rfl (zE (zV (z2 rfl (⟨?_, hS⟩))))))
    unfold open_
    first
    | (rw [if_pos (by omega)] <;> rfl)
    | (rw [if_neg (by omega), if_neg hc17] <;> rfl)
    | (rw [if_neg (by omega), if_pos hc17] <;> rfl)
  refine zK ?_
  refine zQ (zR (zM rfl (zM rfl (wl (y_sl_s Tryz.underlying9 rfl (lv := 0) rfl ⟨_, _, rfl, by omega, e4⟩ (by omega) (by omega) rfl) rfl (zA rfl (zA rfl (zE (zV (z2 rfl (⟨?_, hS⟩))))))))))
  unfold open_
  first
  | (rw [if_pos (by omega)] <;> rfl)
  | (rw [if_neg (by omega), if_neg hc17] <;> rfl)
  | (rw [if_neg (by omega), if_pos hc17] <;> rfl)
end Go.Proofs.YtndahppmjdbifaaGreatDoor.Crc
set_option linter.unusedVariables false
set_option linter.unusedSimpArgs false
namespace Go.Proofs.YtndahppmjdbifaaGreatDoor.Crc
open Go Go.Proofs Eng
def rstep (x bit : BitVec 32) : BitVec 32 := if x % 2#32 = bit then x / 2#32 else (x / 2#32) ^^^ 2197175160#32
def rbits : Nat → BitVec 32 → BitVec 32 → BitVec 32
  | 0, x, _ => x
  | k + 1, x, c => rstep (rbits k x c) ((c >>> k) % 2#32)
def rrun (x : BitVec 32) (l : List UInt8) : BitVec 32 := l.foldl (fun x c => rbits 8 x (c.toBitVec.setWidth 32)) x
theorem rrun_append (x : BitVec 32) (l m : List UInt8) : rrun x (l ++ m) = rrun (rrun x l) m := by simp [rrun]
theorem shr_succ (c : BitVec 32) (k : Nat) : (c >>> k) / 2#32 = c >>> (k + 1) := by
  apply BitVec.eq_of_toNat_eq
  simp [BitVec.toNat_udiv, BitVec.toNat_ushiftRight, Nat.shiftRight_eq_div_pow, Nat.div_div_eq_div_mul, Nat.pow_succ]
theorem rstep_c {M : Mem} {w : World} {Ls : List Chunk} (x bit : BitVec 32) (hS : St M w Ls) :
    CallsR Tryz.prog 200 [.int .u32 (x.toNat : Int), .int .u32 (bit.toNat : Int)].toArray w fun v w' => v = .int .u32 ((rstep x bit).toNat : Int) ∧ St M w' Ls := by
  refine zC 16 Tryz.func200 rfl (zQ (zR (zA rfl (zE (zQ (zR (zM rfl (wl (y_rem rfl rfl (by decide) (bvrem32 _ 2)) rfl (zA rfl (zE (zQ (zR (zM rfl (wl (y_quo rfl rfl (by decide) (bvquo32 _ 2)) rfl (zA rfl (zE (zQ (zQ (zR (zM rfl (zM rfl (wl (y_neq rfl rfl) rfl ?_))))))))))))))))))))))
  simp only [bv_eq]
  refine zE (zIf rfl (fun hc12 => ?_) fun hc12 => ?_)
  · refine zR ?_
    refine zM rfl (wl (y_xor rfl (bvc32 2197175160) (bvxor32 _ _)) rfl (zA rfl (zE (zQ (zR (zM rfl (zA rfl (zE (zV (z1 rfl (⟨?_, hS⟩)))))))))))
    unfold rstep
    first | (rw [if_neg (by simpa using hc12)] <;> rfl) | (rw [if_pos (by simpa using hc12)] <;> rfl)
  refine zK ?_
  refine zQ (zR (zM rfl (zA rfl (zE (zV (z1 rfl (⟨?_, hS⟩)))))))
  unfold rstep
  first | (rw [if_neg (by simpa using hc12)] <;> rfl) | (rw [if_pos (by simpa using hc12)] <;> rfl)
theorem rrun_c {M : Mem} {w : World} {Ls : List Chunk} (x : BitVec 32) (b : ByteArray) (hb : b.size ≤ 140737488351232) (hS : St M w Ls) :
    CallsR Tryz.prog 191 [.int .u32 (x.toNat : Int), .string b].toArray w fun v w' => v = .int .u32 ((rrun x b.data.toList).toNat : Int) ∧ St M w' Ls := by
  refine zC 29 Tryz.func191 rfl (zQ (zR (zA rfl (zE (zQ (zQ (zR (zA rfl (zE (zB (wc_loop (α := Nat) (fun k => [(1, .string b), (5, .int .i64 k), (0, .int .u32 ((rrun x (b.data.toList.take k)).toNat : Int))]) (fun k w => k ≤ b.size ∧ St M w Ls) (fun k => b.size - k) 0 (sub_cons rfl (sub_cons rfl (subR rfl))) ⟨by omega, hS⟩ ?_)))))))))))
  rintro k w ⟨hk, hS⟩
  refine zQ (zQ (zR (zM rfl (zM rfl (wl (y_len_s Tryz.underlying9 rfl) rfl (wl (y_lss rfl rfl) rfl (zE (zIf rfl (fun hc11 => ?_) fun hc11 => ?_))))))))
  · have hk' : k < b.size := by omega
    have hidx := bget b k hk'
    have hcr : rrun x (b.data.toList.take (k + 1)) = _ := (congrArg (rrun x) (take_succ b k hk')).trans (rrun_append _ _ _)
    refine zK (zQ (zB (zQ (zR (zM rfl (zM rfl (wl (y_idx_s Tryz.underlying9 rfl rfl (by omega) hidx) rfl (wl (y_conv Tryz.underlying5 Tryz.underlying228 rfl (bvconv_u8_u32 _)) rfl (zA rfl (zE (zQ (zR (zA rfl (zE (zB (wc_loop (α := Nat) (fun j => [(1, .string b), (5, .int .i64 k), (0, .int .u32 ((rbits j (rrun x (b.data.toList.take k)) (b[k].toBitVec.setWidth 32)).toNat : Int)), (6, .int .u32 (((b[k].toBitVec.setWidth 32) >>> j).toNat : Int)), (7, .int .i64 j)]) (fun j w => j ≤ 8 ∧ St M w Ls) (fun j => 8 - j) 0 (sub_cons rfl (sub_cons rfl (sub_cons rfl (sub_cons rfl (subR rfl))))) ⟨by omega, hS⟩ ?_))))))))))))))))
    rintro j w ⟨hj, hS⟩
    refine zQ (zQ (zR (zM rfl (wl (y_lss rfl rfl) rfl (zE (zIf rfl (fun hc19 => ?_) fun hc19 => ?_))))))
    · refine zK ?_
      refine zQ (zB (zQ (zR (zM rfl (zM rfl (wl (y_rem rfl rfl (by decide) (bvrem32 _ 2)) rfl (wl_call (.cons rfl (.cons rfl .nil)) (rstep_c _ _ hS) rfl ?_)))))))
      rintro _ w ⟨rfl, hS⟩
      refine zA rfl (zE (zR (zM rfl (wl (y_quo rfl rfl (by decide) (bvquo32 _ 2)) rfl (zA rfl (zE (zR (zM rfl (wl (y_add rfl rfl (w64 (by omega) (by omega))) rfl (zA rfl (zE ?_)))))))))))
      exact ⟨j + 1, by omega, sub_cons rfl (sub_cons rfl (sub_cons rfl (sub_cons (by rw [← shr_succ] <;> rfl) (subR rfl)))), by omega, hS⟩
    obtain rfl : j = 8 := by omega
    refine wc_exit (zR (zM rfl (wl (y_add rfl rfl (w64 (by omega) (by omega))) rfl (zA rfl (zE ?_)))))
    exact ⟨k + 1, by omega, sub_cons rfl (sub_cons rfl (sub_cons (by rw [hcr] <;> rfl) sub_nil)), by omega, hS⟩
  obtain rfl : k = b.size := by omega
  have hcr : b.data.toList.take b.size = b.data.toList := List.take_of_length_le (by simp)
  refine wc_exit (zQ (zR (zM rfl (zA rfl (zE (zV (z1 rfl ?_)))))))
  exact ⟨by rw [hcr] <;> rfl, hS⟩
def rsum (b : ByteArray) : BitVec 32 := 4294967295#32 - rrun 4294967295#32 b.data.toList
theorem rsum_c {M : Mem} {w : World} {Ls : List Chunk} (b : ByteArray) (hb : b.size ≤ 140737488351232) (hS : St M w Ls) :
    CallsR Tryz.prog 170 [.string b].toArray w fun v w' => v = .int .u32 ((rsum b).toNat : Int) ∧ St M w' Ls := by
  refine zC 6 Tryz.func170 rfl (zQ (zR (zA rfl (zE (zQ (zR (zM rfl (wl_call (.cons rfl (.cons rfl .nil)) (rrun_c 4294967295#32 b hb hS) rfl ?_))))))))
  rintro _ w ⟨rfl, hS⟩
  refine wl (y_sub (bvc32 4294967295) rfl (bvsub32 _ _)) rfl (zA rfl (zE (zV (z1 rfl ?_))))
  exact ⟨rfl, hS⟩
def rle : Nat → BitVec 32 → List UInt8
  | 0, _ => []
  | k + 1, x => rle k x ++ [⟨((x >>> (8 * k)) % 256#32).setWidth 8⟩]
def rseal (b : ByteArray) : ByteArray := ⟨(b.data.toList ++ rle 4 (rsum b)).toArray⟩
theorem shr_256 (c : BitVec 32) (k : Nat) : (c >>> (8 * k)) / 256#32 = c >>> (8 * (k + 1)) := by
  apply BitVec.eq_of_toNat_eq
  simp [BitVec.toNat_udiv, BitVec.toNat_ushiftRight, Nat.shiftRight_eq_div_pow, Nat.div_div_eq_div_mul, Nat.mul_add, Nat.pow_add]
theorem rle_length (k : Nat) (x : BitVec 32) : (rle k x).length = k := by induction k <;> simp_all [rle]
theorem rseal_c {M : Mem} {w : World} {Ls : List Chunk} (b : ByteArray) (hb : b.size ≤ 140737488351232) (hS : St M w Ls) :
    CallsR Tryz.prog 135 [.string b].toArray w fun v w' => v = .string (rseal b) ∧ St M w' Ls := by
  refine zC 25 Tryz.func135 rfl (zQ (zR (zA rfl (zE (zQ (zR (zM rfl (wl_call (.cons rfl .nil) (rsum_c b hb hS) rfl ?_))))))))
  rintro _ w ⟨rfl, hS⟩
  refine zA rfl (zE (zQ (zR (a_bslice encB [] (vs := []) (ps := []) Tryz.underlying173 sz_5 z_5 rfl .nil rfl rfl rfl (by decide) hS rfl fun s H w ho hS => zA rfl (zE (zQ (zQ (zR (zA rfl (zE (zB (wc_loop (α := Nat × Value × Chunk) (fun ⟨j, s, H⟩ => [(0, .string b), (5, .int .i64 j), (3, .int .u32 ((rsum b >>> (8 * j)).toNat : Int)), (4, s)]) (fun ⟨j, s, H⟩ w => j ≤ 4 ∧ Own 5 encB s (rle j (rsum b)) H ∧ St M w (H :: Ls)) (fun ⟨j, _, _⟩ => 4 - j) (0, s, H) (sub_cons rfl (sub_cons rfl (sub_cons (by rw [Nat.mul_zero, BitVec.ushiftRight_zero] <;> rfl) (subR rfl)))) ⟨by omega, ho, hS⟩ ?_))))))))))))
  rintro ⟨j, s, H⟩ w ⟨hj, ho, hS⟩
  have hlen := rle_length j (rsum b)
  refine zQ (zQ (zR (zM rfl (wl (y_lss rfl rfl) rfl (zE (zIf rfl (fun hc10 => ?_) fun hc10 => ?_))))))
  · refine zK ?_
    refine zQ (zB (zQ (zR (zM rfl (zM rfl (wl (y_rem rfl rfl (by decide) (bvrem32 _ 256)) rfl (wl (y_conv Tryz.underlying228 Tryz.underlying5 rfl (bvconv_u32_u8 _)) rfl (a_bslice encB [⟨((rsum b >>> (8 * j)) % 256#32).setWidth 8⟩] (vs := [_]) (ps := [(0, .tmp 16)]) Tryz.underlying173 sz_5 z_5 rfl (.cons rfl .nil) rfl rfl rfl (by decide) hS rfl fun s1 H1 w ho1 hS => a_append (A := encB) (H := H) Tryz.underlying173 Tryz.underlying173 sz_5 z_5 rfl by_5 (by decide) rfl rfl ho (ho1.holds hS) hS (by rw [hlen]; simp; omega) rfl fun s2 H2 w ho2 hS => ?_))))))))
    replace hS := (hS.pull H1).drop
    refine zA rfl (zE (zR (zM rfl (wl (y_quo rfl rfl (by decide) (bvquo32 _ 256)) rfl (zA rfl (zE (zR (zM rfl (wl (y_add rfl rfl (w64 (by omega) (by omega))) rfl (zA rfl (zE ?_)))))))))))
    exact ⟨(j + 1, s2, H2), by simp only; omega, sub_cons rfl (sub_cons rfl (sub_cons (by rw [← shr_256] <;> rfl) (subR rfl))), by omega, ho2, hS⟩
  obtain rfl : j = 4 := by omega
  refine wc_exit (zQ (zR (zM rfl (zM rfl (wl (y_b2sh Tryz.underlying173 Tryz.underlying9 Tryz.underlying5 rfl (ho.holds hS)) rfl (wl (y_sadd rfl rfl (by simp only [ByteArray.size, List.size_toArray, hlen] at *; omega)) rfl (zA rfl (zE (zV (z1 rfl ?_))))))))))
  exact ⟨by rw [append_mk] <;> rfl, hS.drop⟩
def ropen (b : ByteArray) : Option ByteArray :=
  if b.size < 4 then none else if rseal (b.extract 0 (b.size - 4)) = b then some (b.extract 0 (b.size - 4)) else none
theorem ropen_c {M : Mem} {w : World} {Ls : List Chunk} (b : ByteArray) (hb : b.size ≤ 140737488351232) (hS : St M w Ls) :
    CallsR Tryz.prog 72 [.string b].toArray w fun v w' => v = openV (ropen b) ∧ St M w' Ls := by
  refine zC 18 Tryz.func72 rfl (zQ (zR (zA rfl (zA rfl (zE (zQ (zQ (zR (zM rfl (wl (y_len_s Tryz.underlying9 rfl) rfl (wl (y_lss rfl rfl) rfl (zE (zIf rfl (fun hc7 => ?_) fun hc7 => ?_)))))))))))))
  · refine zQ ?_
    refine zR (zA rfl (zA rfl (zE (zV (z2 rfl (⟨?_, hS⟩))))))
    unfold ropen
    first
    | (rw [if_pos (by omega)] <;> rfl)
    | (rw [if_neg (by omega), if_neg hc16] <;> rfl)
    | (rw [if_neg (by omega), if_pos hc16] <;> rfl)
  have e4 : ((b.size : Int) - 4).toNat = b.size - 4 := by omega
  refine zK (zQ (zR (zM rfl (zM rfl (wl (y_len_s Tryz.underlying9 rfl) rfl (wl (y_sub rfl rfl (w64 (by omega) (by omega))) rfl (wl (y_sl_s Tryz.underlying9 rfl (lv := 0) rfl ⟨_, _, rfl, by omega, e4⟩ (by omega) (by omega) rfl) rfl (zA rfl (zE (zQ (zQ (zR (zM rfl (wl_call (.cons rfl .nil) (rseal_c _ (by rw [ByteArray.size_extract]; omega) hS) rfl ?_))))))))))))))
  rintro _ w ⟨rfl, hS⟩
  refine zM rfl (wl (y_sneq rfl rfl) rfl (zE (zIf rfl (fun hc16 => ?_) fun hc16 => ?_)))
  · refine zQ ?_
    refine zR (zA rfl (zA rfl (zE (zV (z2 rfl (⟨?_, hS⟩))))))
    unfold ropen
    first
    | (rw [if_pos (by omega)] <;> rfl)
    | (rw [if_neg (by omega), if_neg hc16] <;> rfl)
    | (rw [if_neg (by omega), if_pos hc16] <;> rfl)
  refine zK ?_
  refine zQ (zR (zM rfl (zA rfl (zA rfl (zE (zV (z2 rfl (⟨?_, hS⟩))))))))
  unfold ropen
  first
  | (rw [if_pos (by omega)] <;> rfl)
  | (rw [if_neg (by omega), if_neg hc16] <;> rfl)
  | (rw [if_neg (by omega), if_pos hc16] <;> rfl)
end Go.Proofs.YtndahppmjdbifaaGreatDoor.Crc
set_option linter.unusedVariables false
set_option linter.unusedSimpArgs false
namespace Go.Proofs.YtndahppmjdbifaaGreatDoor.Crc
open Go Eng
theorem cstep_eq (x : BitVec 32) : cstep x = (x >>> 1) ^^^ (if x.getLsbD 0 then 2197175160#32 else 0#32) := by
  have h : (x &&& 1#32 = 1#32) ↔ x.getLsbD 0 = true := by
    constructor
    · intro h
      have := congrArg (·.getLsbD 0) h
      simpa using this
    intro h
    apply BitVec.eq_of_getLsbD_eq
    intro i hi
    rcases Nat.eq_zero_or_pos i with rfl | hp
    · simp [h]
    simp [BitVec.getLsbD_one]
    intro _; omega
  unfold cstep
  by_cases hx : x.getLsbD 0 = true
  · rw [if_pos (h.2 hx), if_pos hx]
  rw [if_neg (fun e => hx (h.1 e)), if_neg hx, BitVec.xor_zero]
theorem cstep_xor (x y : BitVec 32) : cstep (x ^^^ y) = cstep x ^^^ cstep y := by
  rw [cstep_eq, cstep_eq, cstep_eq, BitVec.ushiftRight_xor_distrib, BitVec.getLsbD_xor]
  apply BitVec.eq_of_getLsbD_eq
  intro i hi
  cases x.getLsbD 0 <;> cases y.getLsbD 0 <;> simp only [Bool.xor_false, Bool.xor_true, Bool.not_true, Bool.not_false, if_true, if_false, Bool.false_eq_true, BitVec.getLsbD_xor] <;>
    cases (x >>> 1).getLsbD i <;> cases (y >>> 1).getLsbD i <;> cases (2197175160#32).getLsbD i <;> simp
theorem steps_xor : ∀ (k : Nat) (x y : BitVec 32), steps k (x ^^^ y) = steps k x ^^^ steps k y
  | 0, x, y => rfl
  | k + 1, x, y => by simp only [steps, steps_xor k, cstep_xor]
theorem steps_low : ∀ (k : Nat) (x : BitVec 32), (∀ i, i < k → x.getLsbD i = false) → steps k x = x >>> k
  | 0, x, h => by simp [steps]
  | k + 1, x, h => by
    simp only [steps]
    rw [steps_low k x fun i hi => h i (by omega), cstep_eq]
    have : (x >>> k).getLsbD 0 = false := by rw [BitVec.getLsbD_ushiftRight]; exact h k (by omega)
    rw [this, ← BitVec.shiftRight_add]; simp
theorem steps_zero : ∀ k, steps k 0#32 = 0#32
  | 0 => rfl
  | k + 1 => by simp only [steps, steps_zero k]; decide
theorem rstep_eq (x bit : BitVec 32) (h : bit = 0#32 ∨ bit = 1#32) : rstep x bit = cstep (x ^^^ bit) := by
  have hm : (x % 2#32).getLsbD 0 = x.getLsbD 0 := by
    simp [BitVec.getLsbD, BitVec.toNat_umod, Nat.testBit_zero]
  have hm2 : ∀ b : BitVec 32, (b = 0#32 ∨ b = 1#32) → ((x % 2#32 = b) ↔ x.getLsbD 0 = b.getLsbD 0) := by
    intro b hb
    constructor
    · intro e; rw [← hm, e]
    intro e
    apply BitVec.eq_of_toNat_eq
    simp only [BitVec.getLsbD, Nat.testBit_zero] at e
    rw [BitVec.toNat_umod]
    rcases hb with rfl | rfl <;> simp at e ⊢ <;> omega
  have hd : x / 2#32 = x >>> 1 := by
    apply BitVec.eq_of_toNat_eq
    simp [BitVec.toNat_udiv, BitVec.toNat_ushiftRight, Nat.shiftRight_eq_div_pow]
  have hb1 : bit >>> 1 = 0#32 := by rcases h with rfl | rfl <;> rfl
  rw [cstep_eq, BitVec.ushiftRight_xor_distrib, hb1, BitVec.xor_zero, BitVec.getLsbD_xor]
  unfold rstep
  rw [hd]
  by_cases hx : x % 2#32 = bit
  · rw [if_pos hx]
    have := (hm2 bit h).1 hx
    rw [this]; simp
  rw [if_neg hx]
  have : ¬ x.getLsbD 0 = bit.getLsbD 0 := fun e => hx ((hm2 bit h).2 e)
  have : (x.getLsbD 0 ^^ bit.getLsbD 0) = true := by
    cases h1 : x.getLsbD 0 <;> cases h2 : bit.getLsbD 0 <;> simp_all
  rw [this] <;> rfl
theorem bit_low (c : BitVec 32) (k : Nat) : (c >>> k) % 2#32 = if c.getLsbD k then 1#32 else 0#32 := by
  apply BitVec.eq_of_toNat_eq
  rw [BitVec.toNat_umod, BitVec.toNat_ushiftRight]
  simp only [BitVec.getLsbD, Nat.testBit, Nat.one_and_eq_mod_two]
  have : (c.toNat >>> k) % 2 < 2 := Nat.mod_lt _ (by omega)
  rcases Nat.lt_or_ge 0 ((c.toNat >>> k) % 2) with h | h
  · have : (c.toNat >>> k) % 2 = 1 := by omega
    simp [this]
  have : (c.toNat >>> k) % 2 = 0 := by omega
  simp [this]
def low (k : Nat) (c : BitVec 32) : BitVec 32 := (c <<< (32 - k)) >>> (32 - k)
theorem low_get (k : Nat) (c : BitVec 32) (i : Nat) : (low k c).getLsbD i = (decide (i < k) && c.getLsbD i) := by
  unfold low
  rw [BitVec.getLsbD_ushiftRight, BitVec.getLsbD_shiftLeft, show 32 - k + i - (32 - k) = i by omega]
  by_cases h : i < 32
  · by_cases hk : i < k
    · simp [hk]; omega
    simp [hk]; omega
  rw [BitVec.getLsbD_of_ge c _ (by omega)]; simp
theorem rbits_eq (x c : BitVec 32) : ∀ k, k ≤ 32 → rbits k x c = steps k (x ^^^ low k c)
  | 0, _ => by
    have : low 0 c = 0#32 := by apply BitVec.eq_of_getLsbD_eq; intro i _; simp [low_get]
    simp [rbits, steps, this]
  | k + 1, hk => by
    simp only [rbits]
    rw [rbits_eq x c k (by omega), bit_low, rstep_eq _ _ (by split <;> simp)]
    have h1 : steps k (if c.getLsbD k then 1#32 <<< k else 0#32) = if c.getLsbD k then 1#32 else 0#32 := by
      split
      · rw [steps_low k _ (by intro i hi; simp [BitVec.getLsbD_shiftLeft, hi])]
        apply BitVec.eq_of_getLsbD_eq
        intro i hi
        simp only [BitVec.getLsbD_ushiftRight, BitVec.getLsbD_shiftLeft, BitVec.getLsbD_one]
        by_cases h0 : i = 0
        · subst h0; simp; omega
        simp [h0]
      exact steps_zero k
    rw [← h1, ← steps_xor]
    show steps (k + 1) _ = _
    congr 1
    rw [BitVec.xor_assoc]
    congr 1
    apply BitVec.eq_of_getLsbD_eq
    intro i hi
    rw [BitVec.getLsbD_xor, low_get, low_get]
    by_cases h2 : i = k
    · subst h2
      cases hc : c.getLsbD i <;> simp [BitVec.getLsbD_shiftLeft, hi]
    have h3 : (if c.getLsbD k then 1#32 <<< k else 0#32).getLsbD i = false := by
      split
      · simp [BitVec.getLsbD_shiftLeft, BitVec.getLsbD_one]
        intro _ _ _; omega
      simp
    rw [h3, Bool.xor_false]
    congr 1
    simp; omega
theorem cbyte_eq (x : BitVec 32) (c : BitVec 8) : cbyte x c = steps 8 (x ^^^ c.setWidth 32) := by
  have hlo : (BitVec.ofNat 32 (x.setWidth 8 ^^^ c).toNat) = (x.setWidth 8 ^^^ c).setWidth 32 := BitVec.ofNat_toNat _ _
  have hsplit : x ^^^ c.setWidth 32 = ((x >>> 8) <<< 8) ^^^ (x.setWidth 8 ^^^ c).setWidth 32 := by
    apply BitVec.eq_of_getLsbD_eq
    intro i hi
    simp only [BitVec.getLsbD_xor, BitVec.getLsbD_setWidth, BitVec.getLsbD_shiftLeft, BitVec.getLsbD_ushiftRight, hi, decide_true, Bool.true_and]
    by_cases h8 : i < 8
    · simp [h8]
    have h1 : c.getLsbD i = false := BitVec.getLsbD_of_ge _ _ (by omega)
    simp [h8, h1, show 8 + (i - 8) = i by omega]
  rw [hsplit, steps_xor, steps_low 8 _ (by intro i hi; simp [BitVec.getLsbD_shiftLeft, hi])]
  unfold cbyte ent
  rw [hlo]
  congr 1
  apply BitVec.eq_of_getLsbD_eq
  intro i hi
  simp only [BitVec.getLsbD_shiftLeft, BitVec.getLsbD_ushiftRight]
  by_cases h : 8 + i < 32
  · simp [h]
  have : x.getLsbD (8 + i) = false := BitVec.getLsbD_of_ge _ _ (by omega)
  simp [h, this]
theorem low_of {m : Nat} (c : BitVec m) (k : Nat) (h : m ≤ k) (hk : k ≤ 32) : low k (c.setWidth 32) = c.setWidth 32 := by
  apply BitVec.eq_of_getLsbD_eq
  intro i hi
  rw [low_get, BitVec.getLsbD_setWidth]
  by_cases hik : i < k
  · simp [hik]
  have : c.getLsbD i = false := BitVec.getLsbD_of_ge _ _ (by omega)
  simp [this]
theorem rrun_eq (x : BitVec 32) (l : List UInt8) : rrun x l = crun x l := by
  unfold rrun crun
  congr 1
  funext x c
  rw [rbits_eq _ _ 8 (by omega), low_of _ 8 (Nat.le_refl _) (by omega), cbyte_eq]
theorem rsum_eq (b : ByteArray) : rsum b = sum b := by
  unfold rsum sum more
  rw [rrun_eq]
  have h : ∀ x : BitVec 32, 4294967295#32 - x = ~~~ x := by
    intro x
    have := BitVec.allOnes_sub_eq_not x
    rw [← this] <;> rfl
  rw [h]
  rfl
theorem rle_eq (x : BitVec 32) : rle 4 x = le4 x := by
  have h : ∀ k, ((x >>> (8 * k)) % 256#32).setWidth 8 = (x >>> (8 * k)).setWidth 8 := by
    intro k
    apply BitVec.eq_of_toNat_eq
    simp [BitVec.toNat_umod, BitVec.toNat_setWidth]
  simp only [rle, h]
  simp only [List.nil_append, List.cons_append, le4, Nat.mul_zero, BitVec.ushiftRight_zero, Nat.mul_one, show 8 * 2 = 16 from rfl, show 8 * 3 = 24 from rfl]
theorem rseal_eq (b : ByteArray) : rseal b = seal_ b := by unfold rseal seal_; rw [rsum_eq, rle_eq]
theorem ropen_eq (b : ByteArray) : ropen b = open_ b := by unfold ropen open_; simp only [rseal_eq]
end Go.Proofs.YtndahppmjdbifaaGreatDoor.Crc
set_option linter.unusedVariables false
set_option linter.unusedSimpArgs false
namespace Go.Proofs.YtndahppmjdbifaaGreatDoor.Fra
open Go Go.Proofs Eng Pre Pak Val Rou Crc
structure Frm where
  ep : Int
  seq : Int
  ack : Int
  data : ByteArray
deriving DecidableEq
def frm0 : Frm := ⟨0, 0, 0, ByteArray.empty⟩
def encF : Enc Frm := ⟨4, fun f => [.int .i64 f.ep, .int .i64 f.seq, .int .i64 f.ack, .string f.data], fun _ => rfl, by simp [oneC]⟩
def fv (f : Frm) : Value := .agg [.int .i64 f.ep, .int .i64 f.seq, .int .i64 f.ack, .string f.data].toArray
@[irreducible] def fplain (f : Frm) : List UInt8 := pput f.ep.toNat ++ pput f.seq.toNat ++ pput f.ack.toNat ++ ptext f.data
@[irreducible] def fbytes (f : Frm) : ByteArray := seal_ (str (fplain f))
@[irreducible] def fputE (f : Frm) (mtu : Int) : Nat :=
  if ¬ (64 ≤ mtu ∧ mtu ≤ 1400) then 1 else if ¬ (1 ≤ f.ep ∧ f.ep ≤ 1099511627776) then 1 else if ¬ (0 ≤ f.seq ∧ f.seq ≤ 1125899906842624) then 1 else if ¬ (0 ≤ f.ack ∧ f.ack ≤ 1125899906842624) then 1 else
  if f.seq = 0 then (if ¬ f.data = ⟨#[]⟩ then 13 else if ((fbytes f).size : Int) > mtu then 3 else 0) else if ((fbytes f).size : Int) > mtu then 3 else 0
@[irreducible] def fput (f : Frm) (mtu : Int) : ByteArray := if fputE f mtu = 0 then fbytes f else ⟨#[]⟩
@[irreducible] def fg1 (s : ByteArray) : Nat × Rdr := rnum ⟨s, 0, 0⟩ 1099511627776
@[irreducible] def fg1' (s : ByteArray) : Rdr := if (fg1 s).1 = 0 then rfail (fg1 s).2 1 else (fg1 s).2
@[irreducible] def fg2 (s : ByteArray) : Nat × Rdr := rnum (fg1' s) 1125899906842624
@[irreducible] def fg3 (s : ByteArray) : Nat × Rdr := rnum (fg2 s).2 1125899906842624
@[irreducible] def fg4 (s : ByteArray) : ByteArray × Rdr := rtext (fg3 s).2 1400
@[irreducible] def fg5 (s : ByteArray) : Rdr := if ¬ (fg4 s).1 = ⟨#[]⟩ then (if (fg2 s).1 = 0 then rfail (fg4 s).2 13 else (fg4 s).2) else (fg4 s).2
@[irreducible] def fge (s : ByteArray) : Nat := (rend (fg5 s)).e
@[irreducible] def fgf (s : ByteArray) : Frm := if fge s = 0 then ⟨(fg1 s).1, (fg2 s).1, (fg3 s).1, (fg4 s).1⟩ else frm0
@[irreducible] def fgetE (b : ByteArray) : Nat := match open_ b with | none => 6 | some s => fge s
@[irreducible] def fget (b : ByteArray) : Frm := match open_ b with | none => frm0 | some s => fgf s
theorem fg_ok (s : ByteArray) (hs : s.size ≤ 140737488351232) : (fg1 s).2.ok ∧ (fg1' s).ok ∧ (fg2 s).2.ok ∧ (fg3 s).2.ok ∧ (fg4 s).2.ok ∧ (fg5 s).ok := by
  have h0 : (⟨s, 0, 0⟩ : Rdr).ok := ⟨Nat.zero_le _, hs⟩
  have h1 : (fg1 s).2.ok := by unfold fg1; exact (rnum_ok h0 _).1
  have h1' : (fg1' s).ok := by
    unfold fg1'; split
    · exact (rfail_ok h1 1).1
    exact h1
  have h2 : (fg2 s).2.ok := by unfold fg2; exact (rnum_ok h1' _).1
  have h3 : (fg3 s).2.ok := by unfold fg3; exact (rnum_ok h2 _).1
  have h4 : (fg4 s).2.ok := by unfold fg4; exact (rtext_ok h3 _).1
  refine ⟨h1, h1', h2, h3, h4, ?_⟩
  unfold fg5; split
  · split
    · exact (rfail_ok h4 13).1
    exact h4
  exact h4
theorem fplain_length (f : Frm) : (fplain f).length ≤ 32 + f.data.size := by
  unfold fplain
  simp only [List.length_append]
  have a := pput_length f.ep.toNat
  have b := pput_length f.seq.toNat
  have c := pput_length f.ack.toNat
  have d := ptext_length f.data
  omega
section
variable {M : Mem} {w : World} {Ls : List Chunk}
theorem fin_c (n lo hi : Int) (hS : St M w Ls) : CallsR Tryz.prog 128 [.int .i64 n, .int .i64 lo, .int .i64 hi].toArray w fun v w' => v = .bool (decide (lo ≤ n ∧ n ≤ hi)) ∧ St M w' Ls := by
  refine zC 15 Tryz.func128 rfl (zQ (zR (zA rfl (zE (zQ (zR (zM rfl (zM rfl (wl (y_geq rfl rfl) rfl (zM rfl (zWc (s := 10) rfl (fun hg10 => ?_) fun hg10 => ?_)))))))))))
  · refine zI rfl ?_
    refine zM rfl (zI rfl (zM rfl (zI rfl (wl (y_leq rfl rfl) rfl (wl (y_pickT rfl rfl) rfl (zA rfl (zE (zV (z1 rfl ?_)))))))))
    first
    | exact ⟨congrArg Value.bool (decide_eq_decide.2 ⟨fun h => ⟨by omega, h⟩, fun h => h.2⟩), hS⟩
    | exact ⟨congrArg Value.bool (decide_eq_false (fun h => by omega)).symm, hS⟩
  refine zO rfl ?_
  refine zO rfl (zO rfl (wl (y_pickF rfl rfl) rfl (zA rfl (zE (zV (z1 rfl ?_))))))
  first
  | exact ⟨congrArg Value.bool (decide_eq_decide.2 ⟨fun h => ⟨by omega, h⟩, fun h => h.2⟩), hS⟩
  | exact ⟨congrArg Value.bool (decide_eq_false (fun h => by omega)).symm, hS⟩
theorem fseal_c (hG : Bits M) (f : Frm) (h1 : 0 ≤ f.ep ∧ f.ep < 4611686018427387904) (h2 : 0 ≤ f.seq ∧ f.seq < 4611686018427387904) (h3 : 0 ≤ f.ack ∧ f.ack < 4611686018427387904) (hd : f.data.size ≤ 34359738368) (hS : St M w Ls) :
    CallsR Tryz.prog 129 [fv f].toArray w fun v w' => v = .string (fbytes f) ∧ St M w' Ls := by
  obtain ⟨a, ha⟩ : ∃ a : Nat, f.ep = a := ⟨f.ep.toNat, by omega⟩
  obtain ⟨b, hb⟩ : ∃ a : Nat, f.seq = a := ⟨f.seq.toNat, by omega⟩
  obtain ⟨c, hc⟩ : ∃ a : Nat, f.ack = a := ⟨f.ack.toNat, by omega⟩
  have hfl := fplain_length f
  have hfp : fplain f = pput a ++ pput b ++ pput c ++ ptext f.data := by unfold fplain; rw [ha, hb, hc] <;> rfl
  have la := pput_length a
  have lb := pput_length b
  have lc := pput_length c
  have hss : (str (fplain f)).size = (fplain f).length := by simp [str, ByteArray.size]
  refine zC 24 Tryz.func129 rfl (zQ (zR (a_box rfl hS rfl fun b1 w hS => zA rfl (zE (zQ (zR (a_alloc z_177 hS rfl fun b3 w hS => zE ?_)))))))
  have hb : IsW b3 [] false [(b3, .cells #[.pointer none, .slice none 0 0, .bool false] 177)] := ⟨none, _, _, .inl rfl, .nil, rfl⟩
  replace hS : St M w ([(b3, .cells #[.pointer none, .slice none 0 0, .bool false] 177)] :: _) := hS
  refine zQ (zR (zF fl_42_0 rfl (wl ((y_load pl_3 rfl (hS.c (v := .int .i64 f.ep))).val (congrArg (Value.int .i64) ha)) rfl (wl_call (.cons rfl (.cons rfl .nil)) (wnum_c hG a (by omega) hb (by simp) hS) rfl ?_))))
  rintro _ w ⟨H1, hb, hS⟩
  refine zE (zQ (zR (zF fl_42_1 rfl (wl ((y_load pl_3 rfl (hS.c (v := .int .i64 f.seq))).val (congrArg (Value.int .i64) (by assumption))) rfl (wl_call (.cons rfl (.cons rfl .nil)) (wnum_c hG b (by omega) hb (by simp only [List.length_append, List.length_nil]; omega) hS) rfl ?_)))))
  rintro _ w ⟨H2, hb, hS⟩
  refine zE (zQ (zR (zF fl_42_2 rfl (wl ((y_load pl_3 rfl (hS.c (v := .int .i64 f.ack))).val (congrArg (Value.int .i64) hc)) rfl (wl_call (.cons rfl (.cons rfl .nil)) (wnum_c hG c (by omega) hb (by simp only [List.length_append, List.length_nil]; omega) hS) rfl ?_)))))
  rintro _ w ⟨H3, hb, hS⟩
  refine zE (zQ (zR (zF fl_42_3 rfl (wl (y_load pl_9 rfl (hS.c (v := .string f.data))) rfl (wl_call (.cons rfl (.cons rfl .nil)) (wtext_c hG f.data (by omega) hb (by simp only [List.length_append, List.length_nil]; omega) hS) rfl ?_)))))
  rintro _ w ⟨H4, hb, hS⟩
  rw [List.nil_append, ← hfp] at hb
  refine zE (zQ (zR (wl_call (.cons rfl .nil) (wbytes_c hb (by omega) hS) rfl ?_)))
  rintro _ w ⟨rfl, hS⟩
  refine zM rfl (zX rfl (zX rfl (zA rfl (zA rfl (zE (zQ (zR (zM rfl (wl_call (.cons rfl .nil) (seal_c (str (fplain f)) (by rw [hss]; omega) hS) rfl ?_)))))))))
  rintro _ w ⟨rfl, hS⟩
  refine zA rfl (zE (zV (z1 rfl ?_)))
  exact ⟨by unfold fbytes; rfl, hS.keep⟩
theorem fput_c (hG : Bits M) (f : Frm) (mtu : Int) (hd : f.data.size ≤ 34359738368) (hS : St M w Ls) :
    CallsR Tryz.prog 63 [fv f, .int .i64 mtu].toArray w fun v w' => v = .tuple [.string (fput f mtu), .int .i64 (fputE f mtu)].toArray ∧ St M w' Ls := by
  refine zC 45 Tryz.func63 rfl (zQ (zR (a_box rfl hS rfl fun b2 w hS => zA rfl (zA rfl (zE (zQ (zB (zQ (zR (zM rfl (wl_call (.cons rfl (.cons rfl (.cons rfl .nil))) (fin_c mtu 64 1400 hS) rfl ?_)))))))))))
  rintro _ w ⟨rfl, hS⟩
  refine wl (y_not rfl) rfl (zM rfl (zWc (s := 11) rfl (fun hg11 => ?_) fun hg11 => ?_))
  · refine zO rfl ?_
    refine zO rfl (zO rfl (zO rfl (wl (y_pickT rfl rfl) rfl (zM rfl (zO rfl (zO rfl (zO rfl (zO rfl (wl (y_pickT rfl rfl) rfl (zM rfl (zO rfl (zO rfl (zO rfl (zO rfl (wl (y_pickT rfl rfl) rfl (zA rfl (zE (wc_ifT rfl rfl (zQ (zR (zA rfl (zA rfl (zE (zV (z2 rfl ?_)))))))))))))))))))))))))
    first
    | (have he : fputE f mtu = 1 := by (unfold fputE; simp [*])
       have hp : fput f mtu = ⟨#[]⟩ := by (unfold fput; rw [if_neg (by omega)])
       rw [he, hp]; exact ⟨rfl, hS.keep⟩)
    | (have he : fputE f mtu = 13 := by (unfold fputE; simp [*])
       have hp : fput f mtu = ⟨#[]⟩ := by (unfold fput; rw [if_neg (by omega)])
       rw [he, hp]; exact ⟨rfl, hS.keep⟩)
    | (have he : fputE f mtu = 3 := by (unfold fputE; simp [*])
       have hp : fput f mtu = ⟨#[]⟩ := by (unfold fput; rw [if_neg (by omega)])
       rw [he, hp]; exact ⟨rfl, hS.keep⟩)
    | (have he : fputE f mtu = 0 := by (unfold fputE; simp [*])
       have hp : fput f mtu = fbytes f := by (unfold fput; rw [if_pos he])
       rw [he, hp]; exact ⟨rfl, hS.keep⟩)
  refine zI rfl ?_
  refine zF fl_42_0 rfl (zI rfl (wl (y_load pl_3 rfl (hS.c (v := .int .i64 f.ep))) rfl (zI rfl (wl_call (.cons rfl (.cons rfl (.cons rfl .nil))) (fin_c f.ep 1 1099511627776 hS) rfl ?_))))
  rintro _ w ⟨rfl, hS⟩
  refine zI rfl (wl (y_not rfl) rfl (wl (y_pickF rfl rfl) rfl (zM rfl (zWc (s := 17) rfl (fun hg17 => ?_) fun hg17 => ?_))))
  · refine zO rfl ?_
    refine zO rfl (zO rfl (zO rfl (wl (y_pickT rfl rfl) rfl (zM rfl (zO rfl (zO rfl (zO rfl (zO rfl (wl (y_pickT rfl rfl) rfl (zA rfl (zE (wc_ifT rfl rfl (zQ (zR (zA rfl (zA rfl (zE (zV (z2 rfl ?_)))))))))))))))))))
    first
    | (have he : fputE f mtu = 1 := by (unfold fputE; simp [*])
       have hp : fput f mtu = ⟨#[]⟩ := by (unfold fput; rw [if_neg (by omega)])
       rw [he, hp]; exact ⟨rfl, hS.keep⟩)
    | (have he : fputE f mtu = 13 := by (unfold fputE; simp [*])
       have hp : fput f mtu = ⟨#[]⟩ := by (unfold fput; rw [if_neg (by omega)])
       rw [he, hp]; exact ⟨rfl, hS.keep⟩)
    | (have he : fputE f mtu = 3 := by (unfold fputE; simp [*])
       have hp : fput f mtu = ⟨#[]⟩ := by (unfold fput; rw [if_neg (by omega)])
       rw [he, hp]; exact ⟨rfl, hS.keep⟩)
    | (have he : fputE f mtu = 0 := by (unfold fputE; simp [*])
       have hp : fput f mtu = fbytes f := by (unfold fput; rw [if_pos he])
       rw [he, hp]; exact ⟨rfl, hS.keep⟩)
  refine zI rfl ?_
  refine zF fl_42_1 rfl (zI rfl (wl (y_load pl_3 rfl (hS.c (v := .int .i64 f.seq))) rfl (zI rfl (wl_call (.cons rfl (.cons rfl (.cons rfl .nil))) (fin_c f.seq 0 1125899906842624 hS) rfl ?_))))
  rintro _ w ⟨rfl, hS⟩
  refine zI rfl (wl (y_not rfl) rfl (wl (y_pickF rfl rfl) rfl (zM rfl (zWc (s := 23) rfl (fun hg23 => ?_) fun hg23 => ?_))))
  · refine zO rfl ?_
    refine zO rfl (zO rfl (zO rfl (wl (y_pickT rfl rfl) rfl (zA rfl (zE (wc_ifT rfl rfl (zQ (zR (zA rfl (zA rfl (zE (zV (z2 rfl ?_)))))))))))))
    first
    | (have he : fputE f mtu = 1 := by (unfold fputE; simp [*])
       have hp : fput f mtu = ⟨#[]⟩ := by (unfold fput; rw [if_neg (by omega)])
       rw [he, hp]; exact ⟨rfl, hS.keep⟩)
    | (have he : fputE f mtu = 13 := by (unfold fputE; simp [*])
       have hp : fput f mtu = ⟨#[]⟩ := by (unfold fput; rw [if_neg (by omega)])
       rw [he, hp]; exact ⟨rfl, hS.keep⟩)
    | (have he : fputE f mtu = 3 := by (unfold fputE; simp [*])
       have hp : fput f mtu = ⟨#[]⟩ := by (unfold fput; rw [if_neg (by omega)])
       rw [he, hp]; exact ⟨rfl, hS.keep⟩)
    | (have he : fputE f mtu = 0 := by (unfold fputE; simp [*])
       have hp : fput f mtu = fbytes f := by (unfold fput; rw [if_pos he])
       rw [he, hp]; exact ⟨rfl, hS.keep⟩)
  refine zI rfl ?_
  refine zF fl_42_2 rfl (zI rfl (wl (y_load pl_3 rfl (hS.c (v := .int .i64 f.ack))) rfl (zI rfl (wl_call (.cons rfl (.cons rfl (.cons rfl .nil))) (fin_c f.ack 0 1125899906842624 hS) rfl ?_))))
  rintro _ w ⟨rfl, hS⟩
  refine zI rfl (wl (y_not rfl) rfl (wl (y_pickF rfl rfl) rfl (zA rfl (zE (zIf rfl (fun hc7 => ?_) fun hc7 => ?_)))))
  · refine zQ ?_
    refine zR (zA rfl (zA rfl (zE (zV (z2 rfl ?_)))))
    first
    | (have he : fputE f mtu = 1 := by (unfold fputE; simp [*])
       have hp : fput f mtu = ⟨#[]⟩ := by (unfold fput; rw [if_neg (by omega)])
       rw [he, hp]; exact ⟨rfl, hS.keep⟩)
    | (have he : fputE f mtu = 13 := by (unfold fputE; simp [*])
       have hp : fput f mtu = ⟨#[]⟩ := by (unfold fput; rw [if_neg (by omega)])
       rw [he, hp]; exact ⟨rfl, hS.keep⟩)
    | (have he : fputE f mtu = 3 := by (unfold fputE; simp [*])
       have hp : fput f mtu = ⟨#[]⟩ := by (unfold fput; rw [if_neg (by omega)])
       rw [he, hp]; exact ⟨rfl, hS.keep⟩)
    | (have he : fputE f mtu = 0 := by (unfold fputE; simp [*])
       have hp : fput f mtu = fbytes f := by (unfold fput; rw [if_pos he])
       rw [he, hp]; exact ⟨rfl, hS.keep⟩)
  refine zQ ?_
  refine zR (zF fl_42_1 rfl (wl (y_load pl_3 rfl (hS.c (v := .int .i64 f.seq))) rfl (wl (y_eql rfl rfl) rfl (zM rfl (zWc (s := 33) rfl (fun hg33 => ?_) fun hg33 => ?_)))))
  · refine zI rfl ?_
    refine zF fl_42_3 rfl (zI rfl (wl (y_load pl_9 rfl (hS.c (v := .string f.data))) rfl (zI rfl (wl (y_sneq rfl rfl) rfl (wl (y_pickT rfl rfl) rfl (zA rfl (zE (zIf rfl (fun hc29 => ?_) fun hc29 => ?_))))))))
    · refine zQ ?_
      refine zR (zA rfl (zA rfl (zE (zV (z2 rfl ?_)))))
      first
      | (have he : fputE f mtu = 1 := by (unfold fputE; simp [*])
         have hp : fput f mtu = ⟨#[]⟩ := by (unfold fput; rw [if_neg (by omega)])
         rw [he, hp]; exact ⟨rfl, hS.keep⟩)
      | (have he : fputE f mtu = 13 := by (unfold fputE; simp [*])
         have hp : fput f mtu = ⟨#[]⟩ := by (unfold fput; rw [if_neg (by omega)])
         rw [he, hp]; exact ⟨rfl, hS.keep⟩)
      | (have he : fputE f mtu = 3 := by (unfold fputE; simp [*])
         have hp : fput f mtu = ⟨#[]⟩ := by (unfold fput; rw [if_neg (by omega)])
         rw [he, hp]; exact ⟨rfl, hS.keep⟩)
      | (have he : fputE f mtu = 0 := by (unfold fputE; simp [*])
         have hp : fput f mtu = fbytes f := by (unfold fput; rw [if_pos he])
         rw [he, hp]; exact ⟨rfl, hS.keep⟩)
    refine zK ?_
    refine zQ (zR (wl (y_loadS st_42 sz_42 rfl (hS.cells (vs := [_, _, _, _]) rfl) rfl) rfl (wl_call (.cons rfl .nil) (fseal_c hG f (by omega) (by omega) (by omega) hd hS) rfl ?_)))
    rintro _ w ⟨rfl, hS⟩
    refine zA rfl (zE (zQ (zQ (zR (zM rfl (wl (y_len_s Tryz.underlying9 rfl) rfl (zM rfl (wl (y_gtr rfl rfl) rfl (zE (zIf rfl (fun hc43 => ?_) fun hc43 => ?_))))))))))
    · refine zQ ?_
      refine zR (zA rfl (zA rfl (zE (zV (z2 rfl ?_)))))
      first
      | (have he : fputE f mtu = 1 := by (unfold fputE; simp [*])
         have hp : fput f mtu = ⟨#[]⟩ := by (unfold fput; rw [if_neg (by omega)])
         rw [he, hp]; exact ⟨rfl, hS.keep⟩)
      | (have he : fputE f mtu = 13 := by (unfold fputE; simp [*])
         have hp : fput f mtu = ⟨#[]⟩ := by (unfold fput; rw [if_neg (by omega)])
         rw [he, hp]; exact ⟨rfl, hS.keep⟩)
      | (have he : fputE f mtu = 3 := by (unfold fputE; simp [*])
         have hp : fput f mtu = ⟨#[]⟩ := by (unfold fput; rw [if_neg (by omega)])
         rw [he, hp]; exact ⟨rfl, hS.keep⟩)
      | (have he : fputE f mtu = 0 := by (unfold fputE; simp [*])
         have hp : fput f mtu = fbytes f := by (unfold fput; rw [if_pos he])
         rw [he, hp]; exact ⟨rfl, hS.keep⟩)
    refine zK ?_
    refine zQ (zR (zM rfl (zA rfl (zA rfl (zE (zV (z2 rfl ?_)))))))
    first
    | (have he : fputE f mtu = 1 := by (unfold fputE; simp [*])
       have hp : fput f mtu = ⟨#[]⟩ := by (unfold fput; rw [if_neg (by omega)])
       rw [he, hp]; exact ⟨rfl, hS.keep⟩)
    | (have he : fputE f mtu = 13 := by (unfold fputE; simp [*])
       have hp : fput f mtu = ⟨#[]⟩ := by (unfold fput; rw [if_neg (by omega)])
       rw [he, hp]; exact ⟨rfl, hS.keep⟩)
    | (have he : fputE f mtu = 3 := by (unfold fputE; simp [*])
       have hp : fput f mtu = ⟨#[]⟩ := by (unfold fput; rw [if_neg (by omega)])
       rw [he, hp]; exact ⟨rfl, hS.keep⟩)
    | (have he : fputE f mtu = 0 := by (unfold fputE; simp [*])
       have hp : fput f mtu = fbytes f := by (unfold fput; rw [if_pos he])
       rw [he, hp]; exact ⟨rfl, hS.keep⟩)
  refine zO rfl ?_
  refine zO rfl (zO rfl (wl (y_pickF rfl rfl) rfl (zA rfl (zE (wc_ifF rfl rfl (zK (zQ (zR (wl (y_loadS st_42 sz_42 rfl (hS.cells (vs := [_, _, _, _]) rfl) rfl) rfl (wl_call (.cons rfl .nil) (fseal_c hG f (by omega) (by omega) (by omega) hd hS) rfl ?_))))))))))
  rintro _ w ⟨rfl, hS⟩
  refine zA rfl (zE (zQ (zQ (zR (zM rfl (wl (y_len_s Tryz.underlying9 rfl) rfl (zM rfl (wl (y_gtr rfl rfl) rfl (zE (zIf rfl (fun hc43 => ?_) fun hc43 => ?_))))))))))
  · refine zQ ?_
    refine zR (zA rfl (zA rfl (zE (zV (z2 rfl ?_)))))
    first
    | (have he : fputE f mtu = 1 := by (unfold fputE; simp [*])
       have hp : fput f mtu = ⟨#[]⟩ := by (unfold fput; rw [if_neg (by omega)])
       rw [he, hp]; exact ⟨rfl, hS.keep⟩)
    | (have he : fputE f mtu = 13 := by (unfold fputE; simp [*])
       have hp : fput f mtu = ⟨#[]⟩ := by (unfold fput; rw [if_neg (by omega)])
       rw [he, hp]; exact ⟨rfl, hS.keep⟩)
    | (have he : fputE f mtu = 3 := by (unfold fputE; simp [*])
       have hp : fput f mtu = ⟨#[]⟩ := by (unfold fput; rw [if_neg (by omega)])
       rw [he, hp]; exact ⟨rfl, hS.keep⟩)
    | (have he : fputE f mtu = 0 := by (unfold fputE; simp [*])
       have hp : fput f mtu = fbytes f := by (unfold fput; rw [if_pos he])
       rw [he, hp]; exact ⟨rfl, hS.keep⟩)
  refine zK ?_
  refine zQ (zR (zM rfl (zA rfl (zA rfl (zE (zV (z2 rfl ?_)))))))
  first
  | (have he : fputE f mtu = 1 := by (unfold fputE; simp [*])
     have hp : fput f mtu = ⟨#[]⟩ := by (unfold fput; rw [if_neg (by omega)])
     rw [he, hp]; exact ⟨rfl, hS.keep⟩)
  | (have he : fputE f mtu = 13 := by (unfold fputE; simp [*])
     have hp : fput f mtu = ⟨#[]⟩ := by (unfold fput; rw [if_neg (by omega)])
     rw [he, hp]; exact ⟨rfl, hS.keep⟩)
  | (have he : fputE f mtu = 3 := by (unfold fputE; simp [*])
     have hp : fput f mtu = ⟨#[]⟩ := by (unfold fput; rw [if_neg (by omega)])
     rw [he, hp]; exact ⟨rfl, hS.keep⟩)
  | (have he : fputE f mtu = 0 := by (unfold fputE; simp [*])
     have hp : fput f mtu = fbytes f := by (unfold fput; rw [if_pos he])
     rw [he, hp]; exact ⟨rfl, hS.keep⟩)
def opS : Option ByteArray → ByteArray
  | none => ByteArray.empty
  | some s => s
theorem openV_eq' (o : Option ByteArray) : openV o = .tuple [.string (opS o), .bool o.isSome].toArray := by cases o <;> rfl
theorem open_size {b s : ByteArray} (h : open_ b = some s) : s.size ≤ b.size := by
  unfold open_ at h
  split at h
  · cases h
  split at h
  · simp only [Option.some.injEq] at h; rw [← h, ByteArray.size_extract]; omega
  cases h
theorem fget_c (hG : Bits M) (b : ByteArray) (hb : b.size ≤ 140737488351232) (hS : St M w Ls) :
    CallsR Tryz.prog 18 [.string b].toArray w fun v w' => v = .tuple [fv (fget b), .int .i64 (fgetE b)].toArray ∧ St M w' Ls := by
  unfold fget fgetE
  refine zC 53 Tryz.func18 rfl (zQ (zR (a_alloc z_42 hS rfl fun b2 w hS => zA rfl (zE (zQ (zR (zM rfl (wl_call (.cons rfl .nil) (open_c b hb hS) rfl ?_))))))))
  rintro _ w ⟨rfl, hS⟩
  rw [openV_eq']
  obtain ⟨o, ho⟩ : ∃ o, open_ b = o := ⟨_, rfl⟩
  rw [ho]
  refine zM rfl (zX rfl (zX rfl (zA rfl (zA rfl (zE (zQ (zQ (zR (zM rfl (wl (y_not rfl) rfl (zE (zIf rfl (fun hc15 => ?_) fun hc15 => ?_))))))))))))
  · have hn : o = none := by cases o with
      | none => rfl
      | some s => cases hc15
    subst hn
    simp only
    refine zQ (zR (wl (y_build (is := []) (xs := []) (out := [_, _, _, _]) plc_42 z_42 .nil rfl) rfl (zG (vs := [_, _, _, _]) sz_42 rfl hS fun w hS => zA rfl (zE (zV (wret (vs := [_, _]) (.cell rfl (loadVar_struct st_42 sz_42 (vs := [_, _, _, _]) rfl (hS.cells rfl)) (.tmp rfl .nil)) ?_))))))
    exact ⟨rfl, hS.keep⟩
  obtain ⟨s, rfl⟩ : ∃ s, o = some s := by cases o with
    | none => cases hc15
    | some s => exact ⟨s, rfl⟩
  have hss := open_size ho
  simp only
  obtain ⟨g1, g1', g2, g3, g4, g5⟩ := fg_ok s (by omega)
  have h0 : (⟨s, 0, 0⟩ : Rdr).ok := ⟨Nat.zero_le _, by simp only; omega⟩
  have e1 : rnum ⟨s, 0, 0⟩ 1099511627776 = fg1 s := by rw [fg1]
  have e2 : rnum (fg1' s) 1125899906842624 = fg2 s := by rw [fg2]
  have e3 : rnum (fg2 s).2 1125899906842624 = fg3 s := by rw [fg3]
  have e4 : rtext (fg3 s).2 1400 = fg4 s := by rw [fg4]
  have ee : (rend (fg5 s)).e = fge s := by rw [fge]
  refine zK (zQ (zR (zM rfl (wl_call (.cons rfl .nil) (read_c s hS) rfl ?_))))
  rintro _ w ⟨p, rfl, hS⟩
  refine zA rfl (zE (zQ (zR (zM rfl (wl_call (.cons rfl (.cons rfl .nil)) (rnum_c hG 1099511627776 (by decide) h0 hS) rfl ?_)))))
  rintro _ w ⟨rfl, hS⟩
  rw [e1] at hS ⊢
  refine wl (y_build (is := [0]) (xs := [_]) (out := [_, _, _, _]) plc_42 z_42 (.cons rfl .nil) rfl) rfl (a_alloc z_42 hS rfl fun b7 w hS => zG (vs := [_, _, _, _]) sz_42 rfl hS fun w hS => zE ?_)
  simp only [zL, cells_agg, setCells] at hS
  refine zQ (zQ (zR (zF fl_42_0 rfl (wl (y_load pl_3 rfl (hS.cell rfl)) rfl (wl (y_eql rfl rfl) rfl (zE (zIf rfl (fun hc24 => ?_) fun hc24 => ?_)))))))
  · have e1' : rfail (fg1 s).2 1 = fg1' s := by unfold fg1'; rw [if_pos (by omega)]
    refine zR (zM rfl (wl_call (.cons rfl (.cons rfl .nil)) (rfail_c 1 (hS.pull [(p, rdrO (fg1 s).2)])) rfl ?_))
    intro _ w hS
    rw [e1'] at hS
    refine zE (zQ (zR (zM rfl (wl_call (.cons rfl (.cons rfl .nil)) (rnum_c hG 1125899906842624 (by decide) g1' (hS.pull [(p, rdrO (fg1' s))])) rfl ?_))))
    rintro _ w ⟨rfl, hS⟩
    rw [e2] at hS ⊢
    refine zM rfl (wl_call (.cons rfl (.cons rfl .nil)) (rnum_c hG 1125899906842624 (by decide) g2 (hS.pull [(p, rdrO (fg2 s).2)])) rfl ?_)
    rintro _ w ⟨rfl, hS⟩
    rw [e3] at hS ⊢
    refine zF fl_42_1 rfl (zS sz_3 rfl hS fun w hS => zF fl_42_2 rfl (zS sz_3 rfl hS fun w hS => zE ?_))
    simp only [zL, cells_agg, setCells] at hS
    refine zQ (zQ (zR (zM rfl (wl_call (.cons rfl (.cons rfl .nil)) (rtext_c hG 1400 (by decide) g3 (hS.pull [(p, rdrO (fg3 s).2)])) rfl ?_))))
    rintro _ w ⟨rfl, hS⟩
    rw [e4] at hS ⊢
    refine zF fl_42_3 rfl (zS sz_9 rfl hS fun w hS => zE ?_)
    simp only [zL, cells_agg, setCells] at hS
    refine zQ (zR (zF fl_42_3 rfl (wl (y_load pl_9 rfl (hS.cell rfl)) rfl (wl (y_sneq rfl rfl) rfl (zM rfl (zWc (s := 39) rfl (fun hg39 => ?_) fun hg39 => ?_))))))
    · refine zI rfl ?_
      refine zF fl_42_1 rfl (zI rfl (wl (y_load pl_3 rfl (hS.cell rfl)) rfl (zI rfl (wl (y_eql rfl rfl) rfl (wl (y_pickT rfl rfl) rfl (zE (zIf rfl (fun hc43 => ?_) fun hc43 => ?_)))))))
      · have e5 : rfail (fg4 s).2 13 = fg5 s := by unfold fg5; rw [if_pos hg39, if_pos (by omega)]
        refine zR (zM rfl (wl_call (.cons rfl (.cons rfl .nil)) (rfail_c 13 (hS.pull [(p, rdrO (fg4 s).2)])) rfl ?_))
        intro _ w hS
        rw [e5] at hS
        refine zE (zQ (zQ (zR (zM rfl (wl_call (.cons rfl .nil) (rend_c (hS.pull [(p, rdrO (fg5 s))])) rfl ?_)))))
        rintro _ w ⟨rfl, hS⟩
        rw [ee]
        refine zA rfl (zE (zQ (zR (zM rfl (wl (y_neq rfl rfl) rfl (zE (zIf rfl (fun hc49 => ?_) fun hc49 => ?_)))))))
        · have hg : fgf s = frm0 := by unfold fgf; rw [if_neg (by omega)]
          rw [hg]
          refine zQ (zR (wl (y_build (is := []) (xs := []) (out := [_, _, _, _]) plc_42 z_42 .nil rfl) rfl (zM rfl (zG (vs := [_, _, _, _]) sz_42 rfl hS fun w hS => zA rfl (zE (zV (wret (vs := [_, _]) (.cell rfl (loadVar_struct st_42 sz_42 (vs := [_, _, _, _]) rfl (hS.cells rfl)) (.tmp rfl .nil)) ?_)))))))
          exact ⟨rfl, hS.keep⟩
        have hg : fgf s = ⟨(fg1 s).1, (fg2 s).1, (fg3 s).1, (fg4 s).1⟩ := by unfold fgf; rw [if_pos (by omega)]
        have hz : fge s = 0 := by omega
        rw [hg, hz]
        refine zK (zQ (zR (wl (y_loadS st_42 sz_42 rfl (hS.cells (vs := [_, _, _, _]) rfl) rfl) rfl (zG (vs := [_, _, _, _]) sz_42 rfl hS fun w hS => zA rfl (zE (zV (wret (vs := [_, _]) (.cell rfl (loadVar_struct st_42 sz_42 (vs := [_, _, _, _]) rfl (hS.cells rfl)) (.tmp rfl .nil)) ?_)))))))
        exact ⟨rfl, hS.keep⟩
      have e5 : (fg4 s).2 = fg5 s := by unfold fg5; rw [if_pos hg39, if_neg (by omega)]
      rw [e5] at hS
      refine zK (zQ (zQ (zR (zM rfl (wl_call (.cons rfl .nil) (rend_c (hS.pull [(p, rdrO (fg5 s))])) rfl ?_)))))
      rintro _ w ⟨rfl, hS⟩
      rw [ee]
      refine zA rfl (zE (zQ (zR (zM rfl (wl (y_neq rfl rfl) rfl (zE (zIf rfl (fun hc49 => ?_) fun hc49 => ?_)))))))
      · have hg : fgf s = frm0 := by unfold fgf; rw [if_neg (by omega)]
        rw [hg]
        refine zQ (zR (wl (y_build (is := []) (xs := []) (out := [_, _, _, _]) plc_42 z_42 .nil rfl) rfl (zM rfl (zG (vs := [_, _, _, _]) sz_42 rfl hS fun w hS => zA rfl (zE (zV (wret (vs := [_, _]) (.cell rfl (loadVar_struct st_42 sz_42 (vs := [_, _, _, _]) rfl (hS.cells rfl)) (.tmp rfl .nil)) ?_)))))))
        exact ⟨rfl, hS.keep⟩
      have hg : fgf s = ⟨(fg1 s).1, (fg2 s).1, (fg3 s).1, (fg4 s).1⟩ := by unfold fgf; rw [if_pos (by omega)]
      have hz : fge s = 0 := by omega
      rw [hg, hz]
      refine zK (zQ (zR (wl (y_loadS st_42 sz_42 rfl (hS.cells (vs := [_, _, _, _]) rfl) rfl) rfl (zG (vs := [_, _, _, _]) sz_42 rfl hS fun w hS => zA rfl (zE (zV (wret (vs := [_, _]) (.cell rfl (loadVar_struct st_42 sz_42 (vs := [_, _, _, _]) rfl (hS.cells rfl)) (.tmp rfl .nil)) ?_)))))))
      exact ⟨rfl, hS.keep⟩
    have e5 : (fg4 s).2 = fg5 s := by unfold fg5; rw [if_neg (by simpa using hg39)]
    rw [e5] at hS
    refine zO rfl (zO rfl (zO rfl (wl (y_pickF rfl rfl) rfl (zE (wc_ifF rfl rfl (zK (zQ (zQ (zR (zM rfl (wl_call (.cons rfl .nil) (rend_c (hS.pull [(p, rdrO (fg5 s))])) rfl ?_)))))))))))
    rintro _ w ⟨rfl, hS⟩
    rw [ee]
    refine zA rfl (zE (zQ (zR (zM rfl (wl (y_neq rfl rfl) rfl (zE (zIf rfl (fun hc49 => ?_) fun hc49 => ?_)))))))
    · have hg : fgf s = frm0 := by unfold fgf; rw [if_neg (by omega)]
      rw [hg]
      refine zQ (zR (wl (y_build (is := []) (xs := []) (out := [_, _, _, _]) plc_42 z_42 .nil rfl) rfl (zM rfl (zG (vs := [_, _, _, _]) sz_42 rfl hS fun w hS => zA rfl (zE (zV (wret (vs := [_, _]) (.cell rfl (loadVar_struct st_42 sz_42 (vs := [_, _, _, _]) rfl (hS.cells rfl)) (.tmp rfl .nil)) ?_)))))))
      exact ⟨rfl, hS.keep⟩
    have hg : fgf s = ⟨(fg1 s).1, (fg2 s).1, (fg3 s).1, (fg4 s).1⟩ := by unfold fgf; rw [if_pos (by omega)]
    have hz : fge s = 0 := by omega
    rw [hg, hz]
    refine zK (zQ (zR (wl (y_loadS st_42 sz_42 rfl (hS.cells (vs := [_, _, _, _]) rfl) rfl) rfl (zG (vs := [_, _, _, _]) sz_42 rfl hS fun w hS => zA rfl (zE (zV (wret (vs := [_, _]) (.cell rfl (loadVar_struct st_42 sz_42 (vs := [_, _, _, _]) rfl (hS.cells rfl)) (.tmp rfl .nil)) ?_)))))))
    exact ⟨rfl, hS.keep⟩
  have e1' : (fg1 s).2 = fg1' s := by unfold fg1'; rw [if_neg (by omega)]
  rw [e1'] at hS
  refine zK (zQ (zR (zM rfl (wl_call (.cons rfl (.cons rfl .nil)) (rnum_c hG 1125899906842624 (by decide) g1' (hS.pull [(p, rdrO (fg1' s))])) rfl ?_))))
  rintro _ w ⟨rfl, hS⟩
  rw [e2] at hS ⊢
  refine zM rfl (wl_call (.cons rfl (.cons rfl .nil)) (rnum_c hG 1125899906842624 (by decide) g2 (hS.pull [(p, rdrO (fg2 s).2)])) rfl ?_)
  rintro _ w ⟨rfl, hS⟩
  rw [e3] at hS ⊢
  refine zF fl_42_1 rfl (zS sz_3 rfl hS fun w hS => zF fl_42_2 rfl (zS sz_3 rfl hS fun w hS => zE ?_))
  simp only [zL, cells_agg, setCells] at hS
  refine zQ (zQ (zR (zM rfl (wl_call (.cons rfl (.cons rfl .nil)) (rtext_c hG 1400 (by decide) g3 (hS.pull [(p, rdrO (fg3 s).2)])) rfl ?_))))
  rintro _ w ⟨rfl, hS⟩
  rw [e4] at hS ⊢
  refine zF fl_42_3 rfl (zS sz_9 rfl hS fun w hS => zE ?_)
  simp only [zL, cells_agg, setCells] at hS
  refine zQ (zR (zF fl_42_3 rfl (wl (y_load pl_9 rfl (hS.cell rfl)) rfl (wl (y_sneq rfl rfl) rfl (zM rfl (zWc (s := 39) rfl (fun hg39 => ?_) fun hg39 => ?_))))))
  · refine zI rfl ?_
    refine zF fl_42_1 rfl (zI rfl (wl (y_load pl_3 rfl (hS.cell rfl)) rfl (zI rfl (wl (y_eql rfl rfl) rfl (wl (y_pickT rfl rfl) rfl (zE (zIf rfl (fun hc43 => ?_) fun hc43 => ?_)))))))
    · have e5 : rfail (fg4 s).2 13 = fg5 s := by unfold fg5; rw [if_pos hg39, if_pos (by omega)]
      refine zR (zM rfl (wl_call (.cons rfl (.cons rfl .nil)) (rfail_c 13 (hS.pull [(p, rdrO (fg4 s).2)])) rfl ?_))
      intro _ w hS
      rw [e5] at hS
      refine zE (zQ (zQ (zR (zM rfl (wl_call (.cons rfl .nil) (rend_c (hS.pull [(p, rdrO (fg5 s))])) rfl ?_)))))
      rintro _ w ⟨rfl, hS⟩
      rw [ee]
      refine zA rfl (zE (zQ (zR (zM rfl (wl (y_neq rfl rfl) rfl (zE (zIf rfl (fun hc49 => ?_) fun hc49 => ?_)))))))
      · have hg : fgf s = frm0 := by unfold fgf; rw [if_neg (by omega)]
        rw [hg]
        refine zQ (zR (wl (y_build (is := []) (xs := []) (out := [_, _, _, _]) plc_42 z_42 .nil rfl) rfl (zM rfl (zG (vs := [_, _, _, _]) sz_42 rfl hS fun w hS => zA rfl (zE (zV (wret (vs := [_, _]) (.cell rfl (loadVar_struct st_42 sz_42 (vs := [_, _, _, _]) rfl (hS.cells rfl)) (.tmp rfl .nil)) ?_)))))))
        exact ⟨rfl, hS.keep⟩
      have hg : fgf s = ⟨(fg1 s).1, (fg2 s).1, (fg3 s).1, (fg4 s).1⟩ := by unfold fgf; rw [if_pos (by omega)]
      have hz : fge s = 0 := by omega
      rw [hg, hz]
      refine zK (zQ (zR (wl (y_loadS st_42 sz_42 rfl (hS.cells (vs := [_, _, _, _]) rfl) rfl) rfl (zG (vs := [_, _, _, _]) sz_42 rfl hS fun w hS => zA rfl (zE (zV (wret (vs := [_, _]) (.cell rfl (loadVar_struct st_42 sz_42 (vs := [_, _, _, _]) rfl (hS.cells rfl)) (.tmp rfl .nil)) ?_)))))))
      exact ⟨rfl, hS.keep⟩
    have e5 : (fg4 s).2 = fg5 s := by unfold fg5; rw [if_pos hg39, if_neg (by omega)]
    rw [e5] at hS
    refine zK (zQ (zQ (zR (zM rfl (wl_call (.cons rfl .nil) (rend_c (hS.pull [(p, rdrO (fg5 s))])) rfl ?_)))))
    rintro _ w ⟨rfl, hS⟩
    rw [ee]
    refine zA rfl (zE (zQ (zR (zM rfl (wl (y_neq rfl rfl) rfl (zE (zIf rfl (fun hc49 => ?_) fun hc49 => ?_)))))))
    · have hg : fgf s = frm0 := by unfold fgf; rw [if_neg (by omega)]
      rw [hg]
      refine zQ (zR (wl (y_build (is := []) (xs := []) (out := [_, _, _, _]) plc_42 z_42 .nil rfl) rfl (zM rfl (zG (vs := [_, _, _, _]) sz_42 rfl hS fun w hS => zA rfl (zE (zV (wret (vs := [_, _]) (.cell rfl (loadVar_struct st_42 sz_42 (vs := [_, _, _, _]) rfl (hS.cells rfl)) (.tmp rfl .nil)) ?_)))))))
      exact ⟨rfl, hS.keep⟩
    have hg : fgf s = ⟨(fg1 s).1, (fg2 s).1, (fg3 s).1, (fg4 s).1⟩ := by unfold fgf; rw [if_pos (by omega)]
    have hz : fge s = 0 := by omega
    rw [hg, hz]
    refine zK (zQ (zR (wl (y_loadS st_42 sz_42 rfl (hS.cells (vs := [_, _, _, _]) rfl) rfl) rfl (zG (vs := [_, _, _, _]) sz_42 rfl hS fun w hS => zA rfl (zE (zV (wret (vs := [_, _]) (.cell rfl (loadVar_struct st_42 sz_42 (vs := [_, _, _, _]) rfl (hS.cells rfl)) (.tmp rfl .nil)) ?_)))))))
    exact ⟨rfl, hS.keep⟩
  have e5 : (fg4 s).2 = fg5 s := by unfold fg5; rw [if_neg (by simpa using hg39)]
  rw [e5] at hS
  refine zO rfl (zO rfl (zO rfl (wl (y_pickF rfl rfl) rfl (zE (wc_ifF rfl rfl (zK (zQ (zQ (zR (zM rfl (wl_call (.cons rfl .nil) (rend_c (hS.pull [(p, rdrO (fg5 s))])) rfl ?_)))))))))))
  rintro _ w ⟨rfl, hS⟩
  rw [ee]
  refine zA rfl (zE (zQ (zR (zM rfl (wl (y_neq rfl rfl) rfl (zE (zIf rfl (fun hc49 => ?_) fun hc49 => ?_)))))))
  · have hg : fgf s = frm0 := by unfold fgf; rw [if_neg (by omega)]
    rw [hg]
    refine zQ (zR (wl (y_build (is := []) (xs := []) (out := [_, _, _, _]) plc_42 z_42 .nil rfl) rfl (zM rfl (zG (vs := [_, _, _, _]) sz_42 rfl hS fun w hS => zA rfl (zE (zV (wret (vs := [_, _]) (.cell rfl (loadVar_struct st_42 sz_42 (vs := [_, _, _, _]) rfl (hS.cells rfl)) (.tmp rfl .nil)) ?_)))))))
    exact ⟨rfl, hS.keep⟩
  have hg : fgf s = ⟨(fg1 s).1, (fg2 s).1, (fg3 s).1, (fg4 s).1⟩ := by unfold fgf; rw [if_pos (by omega)]
  have hz : fge s = 0 := by omega
  rw [hg, hz]
  refine zK (zQ (zR (wl (y_loadS st_42 sz_42 rfl (hS.cells (vs := [_, _, _, _]) rfl) rfl) rfl (zG (vs := [_, _, _, _]) sz_42 rfl hS fun w hS => zA rfl (zE (zV (wret (vs := [_, _]) (.cell rfl (loadVar_struct st_42 sz_42 (vs := [_, _, _, _]) rfl (hS.cells rfl)) (.tmp rfl .nil)) ?_)))))))
  exact ⟨rfl, hS.keep⟩
end
end Go.Proofs.YtndahppmjdbifaaGreatDoor.Fra
set_option linter.unusedVariables false
set_option linter.unusedSimpArgs false
namespace Go.Proofs.YtndahppmjdbifaaGreatDoor.Snd
open Go Go.Proofs Eng
structure Snd where
  win : Nat
  last : Nat
  all : List ByteArray
  acked : Nat
def Snd.ok (m : Snd) : Prop := 1 ≤ m.win ∧ m.win ≤ 16 ∧ m.last ≤ 1125899906842624 ∧ m.acked ≤ m.all.length ∧ m.all.length ≤ m.last ∧ m.all.length - m.acked ≤ m.win
def pcs (a : Nat) : List ByteArray → List (Nat × ByteArray)
  | [] => []
  | d :: l => (a + 1, d) :: pcs (a + 1) l
def Snd.pieces (m : Snd) : List (Nat × ByteArray) := pcs m.acked (m.all.drop m.acked)
def encPc : Enc (Nat × ByteArray) := ⟨2, fun p => [.int .i64 p.1, .string p.2], fun _ => rfl, by simp [oneC]⟩
def IsS (p : Nat) (m : Snd) (H : Chunk) : Prop := ∃ s Hs, Own 185 encPc s m.pieces Hs ∧ H = (p, .cells #[.int .i64 m.win, .int .i64 m.last, .int .i64 m.all.length, s] 221) :: Hs
def Snd.new (win last : Int) : Snd := ⟨(min (max win 1) 16).toNat, (min (max last 0) 1125899906842624).toNat, [], 0⟩
def Snd.offerE (m : Snd) : Nat := if m.all.length - m.acked = m.win then 7 else if m.all.length = m.last then 8 else 0
def Snd.offer (m : Snd) (d : ByteArray) : Snd := if m.offerE = 0 then ⟨m.win, m.last, m.all ++ [d], m.acked⟩ else m
def Snd.ack (m : Snd) (n : Int) : Snd := if n > m.all.length ∨ n ≤ m.acked then m else ⟨m.win, m.last, m.all, n.toNat⟩
theorem pcs_length (a : Nat) (l : List ByteArray) : (pcs a l).length = l.length := by
  induction l generalizing a with
  | nil => rfl
  | cons d l ih => simp [pcs, ih]
theorem pieces_length (m : Snd) : m.pieces.length = m.all.length - m.acked := by unfold Snd.pieces; rw [pcs_length, List.length_drop]
theorem pcs_append (a : Nat) (l k : List ByteArray) : pcs a (l ++ k) = pcs a l ++ pcs (a + l.length) k := by
  induction l generalizing a with
  | nil => rfl
  | cons d l ih => simp only [List.cons_append, pcs, ih, List.length_cons]; congr 3; omega
theorem pcs_at (a : Nat) (l : List ByteArray) (i : Nat) (d : ByteArray) (h : l[i]? = some d) : (pcs a l)[i]? = some (a + i + 1, d) := by
  induction l generalizing a i with
  | nil => simp at h
  | cons e l ih =>
    cases i with
    | zero => simp at h; subst h; rfl
    | succ i => simp only [pcs, List.getElem?_cons_succ] at h ⊢; rw [ih (a + 1) i h]; congr 2; omega
theorem pcs_drop (a : Nat) (l : List ByteArray) (k : Nat) : (pcs a l).drop k = pcs (a + k) (l.drop k) := by
  induction k generalizing a l with
  | zero => rfl
  | succ k ih =>
    cases l with
    | nil => rfl
    | cons d l => simp only [pcs, List.drop_succ_cons]; rw [ih]; congr 1; omega
theorem Snd.new_ok (win last : Int) : (Snd.new win last).ok := by
  unfold Snd.new Snd.ok
  simp only [List.length_nil]
  refine ⟨by omega, by omega, by omega, by omega, by omega, by omega⟩
theorem Snd.offer_ok {m : Snd} (h : m.ok) (d : ByteArray) : (m.offer d).ok := by
  obtain ⟨h1, h2, h3, h4, h5, h6⟩ := h
  unfold Snd.offer
  split
  · rename_i he
    unfold Snd.offerE at he
    split at he; · cases he
    split at he; · cases he
    unfold Snd.ok
    simp only [List.length_append, List.length_singleton]
    exact ⟨h1, h2, h3, by omega, by omega, by omega⟩
  exact ⟨h1, h2, h3, h4, h5, h6⟩
theorem Snd.ack_ok {m : Snd} (h : m.ok) (n : Int) : (m.ack n).ok := by
  obtain ⟨h1, h2, h3, h4, h5, h6⟩ := h
  unfold Snd.ack
  split
  · exact ⟨h1, h2, h3, h4, h5, h6⟩
  unfold Snd.ok; simp only; exact ⟨h1, h2, h3, by omega, h5, by omega⟩
theorem cutFrom {α : Type} {A : Enc α} {e : TypeId} {a : Option Addr} {m c k : Nat} {xs : List α} {H : Chunk} (h : Own e A (.slice a m c) xs H) (hk : k ≤ xs.length) : Own e A (cutV a k m c A.k) (xs.drop k) H := by
  obtain ⟨hm, hc⟩ := h.cap
  rcases h.addr with rfl | ⟨b, o, rfl⟩
  · have hx : xs = [] := by
      rcases h with ⟨_, h2, _⟩ | ⟨b, off, cap, pre, sp, fz, h1, _⟩
      · exact h2
      cases h1
    subst hx
    obtain rfl : k = 0 := by simpa using hk
    rcases h with ⟨h1, _, rfl⟩ | ⟨b, off, cap, pre, sp, fz, h1, _⟩
    · simp only [Value.slice.injEq] at h1
      obtain ⟨_, rfl, rfl⟩ := h1
      exact .nil
    cases h1
  by_cases hck : c = k
  · subst hck
    have hx : xs.drop c = [] := List.drop_eq_nil_of_le hc
    have e1 : cutV (some ⟨b, o, none⟩) c m c A.k = .slice (some ⟨b, o, none⟩) 0 0 := by
      unfold cutV
      rw [if_pos rfl, Nat.sub_self]
      congr 1; omega
    rw [hx, e1]
    exact h.none
  rw [cutV_lt (by omega), hm]
  exact h.drop hk
section
variable {M : Mem} {w : World} {Ls : List Chunk}
theorem snew_c (win last : Int) (hS : St M w Ls) : CallsR Tryz.prog 172 [.int .i64 win, .int .i64 last].toArray w fun v w' => ∃ p H, v = .pointer (some ⟨p, 0, none⟩) ∧ IsS p (Snd.new win last) H ∧ St M w' (H :: Ls) := by
  refine zC 13 Tryz.func172 rfl (zQ (zR (zA rfl (zE (zQ (zR (zM rfl (wl (y_max rfl rfl) rfl (wl ((y_min rfl rfl).val (u := .int .i64 ((min (max win 1) 16).toNat : Nat)) (congrArg (Value.int .i64) (by omega))) rfl (zM rfl (wl (y_max rfl rfl) rfl (wl ((y_min rfl rfl).val (u := .int .i64 ((min (max last 0) 1125899906842624).toNat : Nat)) (congrArg (Value.int .i64) (by omega))) rfl (wl (y_build (is := [0, 1]) (xs := [_, _]) (out := [_, _, _, _]) plc_221 z_221 (.cons rfl (.cons rfl .nil)) rfl) rfl (a_box rfl hS rfl fun b12 w hS => zA rfl (zE (zV (z1 rfl ?_)))))))))))))))))
  exact ⟨_, _, rfl, ⟨.slice none 0 0, [], .nil, rfl⟩, hS⟩
theorem sunacked_c {p : Nat} {m : Snd} {H : Chunk} (hb : IsS p m H) (hS : St M w (H :: Ls)) : CallsR Tryz.prog 119 [.pointer (some ⟨p, 0, none⟩)].toArray w fun v w' => v = .int .i64 (m.all.length - m.acked : Nat) ∧ St M w' (H :: Ls) := by
  obtain ⟨s, Hs, ho, rfl⟩ := hb
  have hpl := pieces_length m
  obtain ⟨sa, sc, rfl⟩ := ho.slice
  rw [← hpl]
  refine zC 8 Tryz.func119 rfl (zQ (zR (zA rfl (zE (zQ (zR (zM rfl (zN rfl (zF fl_221_3 rfl (wl (y_load pl_182 rfl (hS.cell rfl)) rfl (wl (y_len_sl Tryz.underlying182 rfl) rfl (zA rfl (zE (zV (z1 rfl ?_)))))))))))))))
  exact ⟨rfl, hS⟩
theorem soffer_c {p : Nat} {m : Snd} {H : Chunk} (d : ByteArray) (hm : m.ok) (hb : IsS p m H) (hS : St M w (H :: Ls)) :
    CallsR Tryz.prog 125 [.pointer (some ⟨p, 0, none⟩), .string d].toArray w fun v w' => ∃ k H', v = .tuple [.int .i64 k, .int .i64 m.offerE].toArray ∧ IsS p (m.offer d) H' ∧ St M w' (H' :: Ls) := by
  have hb0 := hb
  obtain ⟨s, Hs, ho, rfl⟩ := hb
  have hpl := pieces_length m
  obtain ⟨h1, h2, h3, h4, h5, h6⟩ := hm
  obtain ⟨sa, sc, rfl⟩ := ho.slice
  obtain ⟨_, hcap⟩ := ho.cap
  have hoa := ho.addr
  refine zC 62 Tryz.func125 rfl (zQ (zR (zA rfl (zA rfl (zE (zQ (zB (zQ (zW hS (fun w => w.cell? ⟨p, 3, none⟩ = some (.slice sa m.pieces.length sc) ∧ w.cell? ⟨p, 0, none⟩ = some (.int .i64 m.win)) [] wide_ rfl fun w hS => zPm 0 1 rfl (zPn 1 3 rfl (zPf 2 7 fl_221_3 rfl (zPm 5 39 rfl (zPn 6 103 rfl (zPf 7 231 fl_221_0 rfl (zD 3 239 rfl ⟨hS.c, hS.c⟩ (fun w hS => y_load pl_182 rfl hS.1) (zP 4 255 rfl (fun w => y_len_sl Tryz.underlying182 rfl) (zD 8 511 rfl ⟨hS.c, hS.c⟩ (fun w hS => y_load pl_3 rfl hS.2) (zP 9 1023 rfl (fun w => y_eql rfl rfl) (zPa 10 2047 rfl (zH (zIf rfl (fun hc7 => ?_) fun hc7 => ?_)))))))))))))))))))))
  · have he : m.offerE = 7 := by unfold Snd.offerE; rw [if_pos (by omega)]
    have hq : m.offer d = m := by unfold Snd.offer; rw [if_neg (by omega)]
    rw [he, hq]
    refine zQ (zR (zA rfl (zA rfl (zE (zV (z2 rfl ?_))))))
    first
    | exact ⟨0, _, rfl, hb0, hS⟩
    | exact ⟨((m.all.length : Int) + 1), _, rfl, ⟨_, _, by rw [hpc]; exact ho1, rfl⟩, (by have hl : (((m.all ++ [d]).length : Nat) : Int) = (m.all.length : Int) + 1 := by simp
                                                                                          rw [hl]; exact hS.keep)⟩
  refine zQ ?_
  refine zW hS (fun w => w.cell? ⟨p, 2, none⟩ = some (.int .i64 m.all.length) ∧ w.cell? ⟨p, 1, none⟩ = some (.int .i64 m.last)) [] wide_ rfl fun w hS => zPm 0 1 rfl (zPn 1 3 rfl (zPf 2 7 fl_221_2 rfl (zPm 4 23 rfl (zPn 5 55 rfl (zPf 6 119 fl_221_1 rfl (zD 3 127 rfl ⟨hS.c, hS.c⟩ (fun w hS => y_load pl_3 rfl hS.1) (zD 7 255 rfl ⟨hS.c, hS.c⟩ (fun w hS => y_load pl_3 rfl hS.2) (zP 8 511 rfl (fun w => y_eql rfl rfl) (zPa 9 1023 rfl (zH (zIf rfl (fun hc18 => ?_) fun hc18 => ?_)))))))))))
  · have he : m.offerE = 8 := by unfold Snd.offerE; rw [if_neg (by omega), if_pos (by omega)]
    have hq : m.offer d = m := by unfold Snd.offer; rw [if_neg (by omega)]
    rw [he, hq]
    refine zQ (zR (zA rfl (zA rfl (zE (zV (z2 rfl ?_))))))
    first
    | exact ⟨0, _, rfl, hb0, hS⟩
    | exact ⟨((m.all.length : Int) + 1), _, rfl, ⟨_, _, by rw [hpc]; exact ho1, rfl⟩, (by have hl : (((m.all ++ [d]).length : Nat) : Int) = (m.all.length : Int) + 1 := by simp
                                                                                          rw [hl]; exact hS.keep)⟩
  have he : m.offerE = 0 := by unfold Snd.offerE; rw [if_neg (by omega), if_neg (by omega)]
  have hq : m.offer d = ⟨m.win, m.last, m.all ++ [d], m.acked⟩ := by unfold Snd.offer; rw [if_pos he]
  rw [he, hq]
  have hpc : (⟨m.win, m.last, m.all ++ [d], m.acked⟩ : Snd).pieces = m.pieces ++ [(m.all.length + 1, d)] := by
    unfold Snd.pieces
    simp only
    rw [List.drop_append_of_le_length h4, pcs_append]
    congr 1
    simp only [pcs, List.length_drop]
    congr 2; omega
  refine zK (zQ (zR (zM rfl (zN rfl (zF fl_221_2 rfl (wl (y_load pl_3 rfl (hS.cell rfl)) rfl (wl (y_add rfl rfl (w64 (by omega) (by omega))) rfl (zN rfl (zF fl_221_2 rfl (zS sz_3 rfl hS fun w hS => zE ?_))))))))))
  simp only [zL, cells_agg, setCells] at hS
  refine zQ (zR (zM rfl (zN rfl (zF fl_221_3 rfl (wl (y_load pl_182 rfl (hS.cell rfl)) rfl (wl (y_len_sl Tryz.underlying182 rfl) rfl (zA rfl (zE (zQ (zW hS (fun w => w.cell? ⟨p, 3, none⟩ = some (.slice sa m.pieces.length sc) ∧ w.cell? ⟨p, 2, none⟩ = some (.int .i64 ((m.all.length : Int) + 1))) [15, 18] wide_ rfl fun w hS => zPm 0 1 rfl (zPm 1 3 rfl (zPn 2 7 rfl (zPf 3 15 fl_221_3 rfl (zPm 5 47 rfl (zPm 6 111 rfl (zPm 8 367 rfl (zPn 9 879 rfl (zPf 10 1903 fl_221_2 rfl (zPm 12 5999 rfl (zD 4 6015 rfl ⟨hS.c, hS.c⟩ (fun w hS => y_load pl_182 rfl hS.1) (zP 7 6143 rfl (fun w => y_slCap Tryz.underlying182 sz_185 hoa rfl rfl rfl (by omega) (by omega) (by omega) (by omega) hcap) (zD 11 8191 rfl ⟨hS.c, hS.c⟩ (fun w hS => y_load pl_3 rfl hS.2) (zP 13 16383 rfl (fun w => y_build (is := [0, 1]) (xs := [_, _]) (out := [_, _]) plc_185 z_185 (.cons rfl (.cons rfl .nil)) rfl) (zU 14 32767 rfl (a_bslice encPc [(m.all.length + 1, d)] Tryz.underlying182 sz_185 z_185 rfl (.cons rfl .nil) rfl rfl rfl (by decide) hS rfl fun u Hu w hou hS => zE ⟨fun _ _ => ⟨hS.c, hS.c⟩, zU 15 65535 rfl (a_append Tryz.underlying182 Tryz.underlying182 sz_185 z_185 rfl by_185 (by decide) rfl rfl ho.cut (hou.holds hS) hS (by simp; omega) rfl fun s1 H1 w ho1 hS => ?_)⟩)))))))))))))))))))))))))
  obtain ⟨sa1, sc1, rfl⟩ := ho1.slice
  refine zE ⟨fun h => absurd (by decide) h, zPn 16 131071 rfl (zPf 17 262143 fl_221_3 rfl (zU 18 524287 rfl (zS sz_182 rfl hS fun w hS => zE ⟨fun h => absurd (by decide) h, zH ?_⟩)))⟩
  simp only [zL, cells_agg, setCells] at hS
  refine zQ (zR (zM rfl (zN rfl (zF fl_221_2 rfl (wl (y_load pl_3 rfl (hS.cell rfl)) rfl (zA rfl (zA rfl (zE (zV (z2 rfl ?_))))))))))
  first
  | exact ⟨0, _, rfl, hb0, hS⟩
  | exact ⟨((m.all.length : Int) + 1), _, rfl, ⟨_, _, by rw [hpc]; exact ho1, rfl⟩, (by have hl : (((m.all ++ [d]).length : Nat) : Int) = (m.all.length : Int) + 1 := by simp
                                                                                        rw [hl]; exact hS.keep)⟩
theorem spieces_c {p : Nat} {m : Snd} {H : Chunk} (hm : m.ok) (hb : IsS p m H) (hS : St M w (H :: Ls)) :
    CallsR Tryz.prog 127 [.pointer (some ⟨p, 0, none⟩)].toArray w fun v w' => ∃ H', Own 185 encPc v m.pieces H' ∧ St M w' (H' :: H :: Ls) := by
  obtain ⟨s, Hs, ho, rfl⟩ := hb
  have hpl := pieces_length m
  obtain ⟨h1, h2, h3, h4, h5, h6⟩ := hm
  obtain ⟨sa, sc, rfl⟩ := ho.slice
  refine zC 9 Tryz.func127 rfl (zQ (zR (zA rfl (zE (zQ (zR (a_bslice encPc [] (vs := []) (ps := []) Tryz.underlying182 sz_185 z_185 rfl .nil rfl rfl rfl (by decide) hS rfl fun u Hu w hou hS => zM rfl (zN rfl (zF fl_221_3 rfl (wl (y_load pl_182 rfl (hS.cell rfl)) rfl (a_append Tryz.underlying182 Tryz.underlying182 sz_185 z_185 rfl by_185 (by decide) rfl rfl hou (ho.holds (hS.pull Hs)) hS (by simp; omega) rfl fun s1 H1 w ho1 hS => zA rfl (zE (zV (z1 rfl ?_))))))))))))))
  exact ⟨_, ho1, hS.keep⟩
theorem sack_c {p : Nat} {m : Snd} {H : Chunk} (n : Int) (hm : m.ok) (hb : IsS p m H) (hS : St M w (H :: Ls)) :
    CallsR Tryz.prog 138 [.pointer (some ⟨p, 0, none⟩), .int .i64 n].toArray w fun v w' => ∃ k H', v = .int .i64 k ∧ IsS p (m.ack n) H' ∧ St M w' (H' :: Ls) := by
  have hb0 := hb
  obtain ⟨s, Hs, ho, rfl⟩ := hb
  have hpl := pieces_length m
  obtain ⟨h1, h2, h3, h4, h5, h6⟩ := hm
  obtain ⟨sa, sc, rfl⟩ := ho.slice
  obtain ⟨_, hcap⟩ := ho.cap
  have hoa := ho.addr
  refine zC 49 Tryz.func138 rfl (zQ (zR (zA rfl (zE (zQ (zQ (zR (zM rfl (zM rfl (zN rfl (zF fl_221_2 rfl (wl (y_load pl_3 rfl (hS.cell rfl)) rfl (wl (y_gtr rfl rfl) rfl (zE (zIf rfl (fun hc11 => ?_) fun hc11 => ?_)))))))))))))))
  · have hq : m.ack n = m := by unfold Snd.ack; rw [if_pos (by omega)]
    rw [hq]
    refine zQ (zR (zA rfl (zE (zV (z1 rfl ?_)))))
    first
    | exact ⟨0, _, rfl, hb0, hS⟩
    | exact ⟨(g : Int), _, rfl, ⟨_, _, by rw [hpd]; exact ho2, rfl⟩, (by have h := hS.keep (T := ((p, .cells #[.int .i64 m.win, .int .i64 m.last, .int .i64 m.all.length, .slice sa2 (m.pieces.drop g).length sc2] 221) :: H1) :: Ls); exact h)⟩
  refine zK ?_
  refine zQ (zR (zA rfl (zE (zQ (zB (wc_loop (α := Nat) (fun g => [(0, .pointer (some ⟨p, 0, none⟩)), (1, .int .i64 n), (5, .int .i64 g)]) (fun g w => g ≤ m.pieces.length ∧ (0 < g → (m.acked : Int) + g ≤ n) ∧ St M w (((p, .cells #[.int .i64 m.win, .int .i64 m.last, .int .i64 m.all.length, .slice sa m.pieces.length sc] 221) :: Hs) :: Ls)) (fun g => m.pieces.length - g) 0 (sub_cons rfl (sub_cons rfl (subR rfl))) ⟨by omega, by omega, hS⟩ ?_))))))
  clear hS
  rintro g w ⟨hg, hgn, hS⟩
  refine zQ (zQ (zR (zM rfl (zM rfl (zN rfl (zF fl_221_3 rfl (wl (y_load pl_182 rfl (hS.cell rfl)) rfl (wl (y_len_sl Tryz.underlying182 rfl) rfl (wl (y_lss rfl rfl) rfl (zM rfl (zWc (s := 19) rfl (fun hg19 => ?_) fun hg19 => ?_)))))))))))
  · have hg' : g < m.pieces.length := by omega
    obtain ⟨d, hd⟩ : ∃ d, (m.all.drop m.acked)[g]? = some d := ⟨_, List.getElem?_eq_getElem (by rw [List.length_drop]; omega)⟩
    have hpg : m.pieces[g]? = some (m.acked + g + 1, d) := pcs_at _ _ _ _ hd
    obtain ⟨bb, off, c', hse, hce⟩ := (ho.holds (hS.pull Hs)).at hpg
    simp only [Value.slice.injEq] at hse
    have hSk := hS
    obtain ⟨rfl, _, rfl⟩ := hse
    replace hS := hSk
    refine zI rfl (zM rfl (zI rfl (zN rfl (zI rfl (zF fl_221_3 rfl (zI rfl (wl (y_load pl_182 rfl (hS.cell rfl)) rfl (zI rfl (zM rfl (zI rfl (wl (y_ixa_sl Tryz.underlying182 sz_185 rfl rfl (by omega) (by omega)) rfl (zI rfl (zF fl_185_0 rfl (zI rfl (wl (y_load pl_3 rfl (CellsAt.one (CellsAt.sub (us := [.int .i64 ((m.acked + g + 1 : Nat) : Int)]) hce rfl))) rfl (zI rfl (zM rfl (zI rfl (wl (y_leq rfl rfl) rfl (wl (y_pickT rfl rfl) rfl (zE (zIf rfl (fun hc30 => ?_) fun hc30 => ?_))))))))))))))))))))))
    · refine zK ?_
      refine zB (zR (zM rfl (wl (y_add rfl rfl (w64 (by omega) (by omega))) rfl (zA rfl (zE ?_)))))
      exact ⟨g + 1, by omega, sub_cons rfl (sub_cons rfl (subR rfl)), by omega, by omega, hS⟩
    refine wc_exit ?_
    refine zQ ?_
    have hq : m.ack n = ⟨m.win, m.last, m.all, m.acked + g⟩ := by
      unfold Snd.ack
      by_cases h0 : n ≤ m.acked
      · rw [if_pos (by omega)]
        obtain rfl : g = 0 := by omega
        rfl
      rw [if_neg (by omega)]
      congr 1
      omega
    rw [hq]
    have hpd : (⟨m.win, m.last, m.all, m.acked + g⟩ : Snd).pieces = m.pieces.drop g := by
      unfold Snd.pieces
      simp only
      rw [pcs_drop, List.drop_drop]
    refine zR (zM rfl (zN rfl (zF fl_221_3 rfl (wl (y_load pl_182 rfl (hS.cell rfl)) rfl (zM rfl (wl (y_slTo' (hv := g) Tryz.underlying182 sz_185 ho.addr rfl rfl (by omega) (by omega) (by omega)) rfl (a_clear_head (r := g) (x0 := ((0 : Nat), ByteArray.empty)) Tryz.underlying182 z_185 rfl rfl ho (by omega) hS fun H1 w ho1 hS => ?_)))))))
    have ho2 := cutFrom (k := g) ho1 (by simp)
    have hdr : (List.replicate g ((0 : Nat), ByteArray.empty) ++ m.pieces.drop g).drop g = m.pieces.drop g := by rw [List.drop_append_of_le_length (by simp)]; simp
    rw [hdr] at ho2
    generalize hcv : cutV _ _ _ _ _ = s2 at ho2
    obtain ⟨sa2, sc2, rfl⟩ := ho2.slice
    refine zE (zQ (zR (zM rfl (zM rfl (zN rfl (zF fl_221_3 rfl (wl (y_load pl_182 rfl (hS.cell rfl)) rfl (zM rfl (wl ((y_slFrom (lv := g) Tryz.underlying182 sz_185 rfl rfl (by omega) (by omega) (by omega)).val hcv) rfl (zN rfl (zF fl_221_3 rfl (zS sz_182 rfl hS fun w hS => zE ?_))))))))))))
    simp only [zL, cells_agg, setCells] at hS
    refine zQ (zR (zM rfl (zA rfl (zE (zV (z1 rfl ?_))))))
    first
    | exact ⟨0, _, rfl, hb0, hS⟩
    | exact ⟨(g : Int), _, rfl, ⟨_, _, by rw [hpd]; exact ho2, rfl⟩, (by have h := hS.keep (T := ((p, .cells #[.int .i64 m.win, .int .i64 m.last, .int .i64 m.all.length, .slice sa2 (m.pieces.drop g).length sc2] 221) :: H1) :: Ls); exact h)⟩
  refine zO rfl ?_
  refine zO rfl (zO rfl (zO rfl (zO rfl (zO rfl (zO rfl (zO rfl (zO rfl (zO rfl (wl (y_pickF rfl rfl) rfl (zE (wc_ifF rfl rfl (wc_exit (zQ ?_)))))))))))))
  have hq : m.ack n = ⟨m.win, m.last, m.all, m.acked + g⟩ := by
    unfold Snd.ack
    by_cases h0 : n ≤ m.acked
    · rw [if_pos (by omega)]
      obtain rfl : g = 0 := by omega
      rfl
    rw [if_neg (by omega)]
    congr 1
    omega
  rw [hq]
  have hpd : (⟨m.win, m.last, m.all, m.acked + g⟩ : Snd).pieces = m.pieces.drop g := by
    unfold Snd.pieces
    simp only
    rw [pcs_drop, List.drop_drop]
  refine zR (zM rfl (zN rfl (zF fl_221_3 rfl (wl (y_load pl_182 rfl (hS.cell rfl)) rfl (zM rfl (wl (y_slTo' (hv := g) Tryz.underlying182 sz_185 ho.addr rfl rfl (by omega) (by omega) (by omega)) rfl (a_clear_head (r := g) (x0 := ((0 : Nat), ByteArray.empty)) Tryz.underlying182 z_185 rfl rfl ho (by omega) hS fun H1 w ho1 hS => ?_)))))))
  have ho2 := cutFrom (k := g) ho1 (by simp)
  have hdr : (List.replicate g ((0 : Nat), ByteArray.empty) ++ m.pieces.drop g).drop g = m.pieces.drop g := by rw [List.drop_append_of_le_length (by simp)]; simp
  rw [hdr] at ho2
  generalize hcv : cutV _ _ _ _ _ = s2 at ho2
  obtain ⟨sa2, sc2, rfl⟩ := ho2.slice
  refine zE (zQ (zR (zM rfl (zM rfl (zN rfl (zF fl_221_3 rfl (wl (y_load pl_182 rfl (hS.cell rfl)) rfl (zM rfl (wl ((y_slFrom (lv := g) Tryz.underlying182 sz_185 rfl rfl (by omega) (by omega) (by omega)).val hcv) rfl (zN rfl (zF fl_221_3 rfl (zS sz_182 rfl hS fun w hS => zE ?_))))))))))))
  simp only [zL, cells_agg, setCells] at hS
  refine zQ (zR (zM rfl (zA rfl (zE (zV (z1 rfl ?_))))))
  first
  | exact ⟨0, _, rfl, hb0, hS⟩
  | exact ⟨(g : Int), _, rfl, ⟨_, _, by rw [hpd]; exact ho2, rfl⟩, (by have h := hS.keep (T := ((p, .cells #[.int .i64 m.win, .int .i64 m.last, .int .i64 m.all.length, .slice sa2 (m.pieces.drop g).length sc2] 221) :: H1) :: Ls); exact h)⟩
end
end Go.Proofs.YtndahppmjdbifaaGreatDoor.Snd
set_option linter.unusedVariables false
set_option linter.unusedSimpArgs false
namespace Go.Proofs.YtndahppmjdbifaaGreatDoor.Snd
open Go Go.Proofs Eng
structure Rcv where
  room : Nat
  all : List ByteArray
  popped : Nat
def Rcv.wait (m : Rcv) : Nat := m.all.length - m.popped
def Rcv.ok (m : Rcv) : Prop := 1 ≤ m.room ∧ m.room ≤ 16 ∧ m.popped ≤ m.all.length ∧ m.wait ≤ m.room ∧ m.all.length ≤ 1125899906842624
def Rcv.new (room : Int) : Rcv := ⟨(min (max room 1) 16).toNat, [], 0⟩
def Rcv.hears (m : Rcv) (seq : Int) : Bool := decide (¬ m.wait = m.room ∧ seq = (m.all.length : Int) + 1)
def Rcv.hear (m : Rcv) (seq : Int) (d : ByteArray) : Rcv := if m.hears seq then ⟨m.room, m.all ++ [d], m.popped⟩ else m
def Rcv.popV (m : Rcv) : Value := match m.all[m.popped]? with
  | some d => .tuple [.string d, .bool true].toArray
  | none => .tuple [.string ⟨#[]⟩, .bool false].toArray
def Rcv.pop (m : Rcv) : Rcv := if m.popped < m.all.length then ⟨m.room, m.all, m.popped + 1⟩ else m
theorem Rcv.new_ok (room : Int) : (Rcv.new room).ok := by unfold Rcv.new Rcv.ok Rcv.wait; simp only [List.length_nil]; omega
theorem Rcv.hear_ok {m : Rcv} (h : m.ok) (seq : Int) (hs : seq ≤ 1125899906842624) (d : ByteArray) : (m.hear seq d).ok := by
  unfold Rcv.hear
  split
  · rename_i hh
    unfold Rcv.hears at hh
    have hh := of_decide_eq_true hh
    unfold Rcv.ok Rcv.wait at *
    simp only [List.length_append, List.length_singleton]
    omega
  exact h
def rc (a b : Int) (ring : List ByteArray) (f n : Int) : List Value := .int .i64 a :: .int .i64 b :: (ring.map Value.string ++ [.int .i64 f, .int .i64 n])
section
variable {a b f n : Int} {ring : List ByteArray}
theorem rc0 : (rc a b ring f n).toArray[0]? = some (.int .i64 a) := rfl
theorem rc1 : (rc a b ring f n).toArray[1]? = some (.int .i64 b) := rfl
theorem rc18 (h : ring.length = 16) : (rc a b ring f n).toArray[18]? = some (.int .i64 f) := by simp [rc, List.getElem?_append, h]
theorem rc19 (h : ring.length = 16) : (rc a b ring f n).toArray[19]? = some (.int .i64 n) := by simp [rc, List.getElem?_append, h]
theorem rcr (h : ring.length = 16) (k : Nat) (hk : k < 16) (d : ByteArray) (hd : ring[k]? = some d) : (rc a b ring f n).toArray[2 + k]? = some (.string d) := by
  simp only [rc, List.getElem?_toArray]
  rw [show 2 + k = k + 1 + 1 by omega, List.getElem?_cons_succ, List.getElem?_cons_succ, List.getElem?_append_left (by rw [List.length_map, h]; exact hk), List.getElem?_map, hd]
  rfl
theorem rc_size (h : ring.length = 16) : (rc a b ring f n).toArray.size = 20 := by simp [rc, h]
theorem rs1 {b' : Int} : (rc a b ring f n).toArray.setIfInBounds 1 (.int .i64 b') = (rc a b' ring f n).toArray := by simp [rc]
theorem rs18 (h : ring.length = 16) {f' : Int} : (rc a b ring f n).toArray.setIfInBounds 18 (.int .i64 f') = (rc a b ring f' n).toArray := by
  simp only [rc, List.setIfInBounds_toArray, List.set_cons_succ]
  rw [List.set_append_right _ _ (by simp [h])]
  simp [h]
theorem rs19 (h : ring.length = 16) {n' : Int} : (rc a b ring f n).toArray.setIfInBounds 19 (.int .i64 n') = (rc a b ring f n').toArray := by
  simp only [rc, List.setIfInBounds_toArray, List.set_cons_succ]
  rw [List.set_append_right _ _ (by simp [h])]
  simp [h]
theorem rsr (h : ring.length = 16) (k : Nat) (hk : k < 16) {d : ByteArray} : (rc a b ring f n).toArray.setIfInBounds (2 + k) (.string d) = (rc a b (ring.set k d) f n).toArray := by
  simp only [rc, List.setIfInBounds_toArray]
  rw [show 2 + k = k + 1 + 1 by omega, List.set_cons_succ, List.set_cons_succ, List.set_append_left _ _ (by simp [h, hk]), List.map_set]
end
def IsRc (p : Nat) (m : Rcv) (H : Chunk) : Prop := ∃ (fr : Nat) (ring : List ByteArray), fr < 16 ∧ ring.length = 16 ∧ (∀ i, i < m.wait → ring[(fr + i) % 16]? = m.all[m.popped + i]?) ∧ H = [(p, .cells (rc m.room m.all.length ring fr m.wait).toArray 219)]
section
variable {M : Mem} {w : World} {Ls : List Chunk}
theorem cnew_c (room : Int) (hS : St M w Ls) : CallsR Tryz.prog 173 [.int .i64 room].toArray w fun v w' => ∃ p H, v = .pointer (some ⟨p, 0, none⟩) ∧ IsRc p (Rcv.new room) H ∧ St M w' (H :: Ls) := by
  refine zC 8 Tryz.func173 rfl (zQ (zR (zA rfl (zE (zQ (zR (zM rfl (wl (y_max rfl rfl) rfl (wl ((y_min rfl rfl).val (u := .int .i64 ((min (max room 1) 16).toNat : Nat)) (congrArg (Value.int .i64) (by omega))) rfl (wl (y_build (is := [0]) (xs := [_]) (out := [_, _, _, _, _, _, _, _, _, _, _, _, _, _, _, _, _, _, _, _]) plc_219 z_219 (.cons rfl .nil) rfl) rfl (a_box rfl hS rfl fun b7 w hS => zA rfl (zE (zV (z1 rfl ?_))))))))))))))
  exact ⟨_, _, rfl, ⟨0, List.replicate 16 ByteArray.empty, by omega, rfl, (fun i h => absurd h (by unfold Rcv.new Rcv.wait; simp)), rfl⟩, hS⟩
theorem cack_c {p : Nat} {m : Rcv} {H : Chunk} (hb : IsRc p m H) (hS : St M w (H :: Ls)) : CallsR Tryz.prog 126 [.pointer (some ⟨p, 0, none⟩)].toArray w fun v w' => v = .int .i64 m.all.length ∧ St M w' (H :: Ls) := by
  obtain ⟨fr, ring, h1, h2, h3, rfl⟩ := hb
  refine zC 7 Tryz.func126 rfl (zQ (zR (zA rfl (zE (zQ (zR (zM rfl (zN rfl (zF fl_219_1 rfl (wl (y_load pl_3 rfl (hS.cell rc1)) rfl (zA rfl (zE (zV (z1 rfl ?_))))))))))))))
  exact ⟨rfl, hS⟩
theorem cwait_c {p : Nat} {m : Rcv} {H : Chunk} (hb : IsRc p m H) (hS : St M w (H :: Ls)) : CallsR Tryz.prog 118 [.pointer (some ⟨p, 0, none⟩)].toArray w fun v w' => v = .int .i64 m.wait ∧ St M w' (H :: Ls) := by
  obtain ⟨fr, ring, h1, h2, h3, rfl⟩ := hb
  refine zC 7 Tryz.func118 rfl (zQ (zR (zA rfl (zE (zQ (zR (zM rfl (zN rfl (zF fl_219_4 rfl (wl (y_load pl_3 rfl (hS.cell (rc19 h2))) rfl (zA rfl (zE (zV (z1 rfl ?_))))))))))))))
  exact ⟨rfl, hS⟩
theorem cplace_c {p : Nat} {a b n : Int} {ring : List ByteArray} {fr : Nat} (i : Nat) (h1 : fr < 16) (h2 : ring.length = 16) (hi : i ≤ 16) (hS : St M w ([(p, .cells (rc a b ring fr n).toArray 219)] :: Ls)) :
    CallsR Tryz.prog 174 [.pointer (some ⟨p, 0, none⟩), .int .i64 i].toArray w fun v w' => v = .int .i64 ((fr + i) % 16 : Nat) ∧ St M w' ([(p, .cells (rc a b ring fr n).toArray 219)] :: Ls) := by
  refine zC 12 Tryz.func174 rfl (zQ (zR (zA rfl (zE (zQ (zR (zM rfl (zN rfl (zF fl_219_3 rfl (wl (y_load pl_3 rfl (hS.cell (rc18 h2))) rfl (zM rfl (wl (y_add rfl rfl (w64 (by omega) (by omega))) rfl (wl (y_rem rfl rfl (by decide) (show ((fr : Int) + (i : Int)).tmod 16 = (((fr + i) % 16 : Nat) : Int) from rfl)) rfl (zA rfl (zE (zV (z1 rfl ?_)))))))))))))))))
  exact ⟨rfl, hS⟩
theorem hear_ring {m : Rcv} {ring : List ByteArray} {fr : Nat} {d : ByteArray} (h2 : ring.length = 16) (hp : m.popped ≤ m.all.length) (hw : m.wait < 16)
    (h3 : ∀ i, i < m.wait → ring[(fr + i) % 16]? = m.all[m.popped + i]?) : ∀ i, i < (⟨m.room, m.all ++ [d], m.popped⟩ : Rcv).wait → (ring.set ((fr + m.wait) % 16) d)[(fr + i) % 16]? = (m.all ++ [d])[m.popped + i]? := by
  intro i hi
  have hwv : (⟨m.room, m.all ++ [d], m.popped⟩ : Rcv).wait = m.wait + 1 := by unfold Rcv.wait; simp only [List.length_append, List.length_singleton]; omega
  rw [hwv] at hi
  by_cases h : i = m.wait
  · subst h
    rw [List.getElem?_set_self (by rw [h2]; omega), List.getElem?_append_right (by unfold Rcv.wait; omega), show m.popped + m.wait - m.all.length = 0 by unfold Rcv.wait; omega]
    rfl
  rw [List.getElem?_set_ne (by omega), h3 i (by omega), List.getElem?_append_left (by unfold Rcv.wait at *; omega)]
theorem chear_c {p : Nat} {m : Rcv} {H : Chunk} (seq : Int) (d : ByteArray) (hm : m.ok) (hb : IsRc p m H) (hS : St M w (H :: Ls)) :
    CallsR Tryz.prog 139 [.pointer (some ⟨p, 0, none⟩), .int .i64 seq, .string d].toArray w fun v w' => ∃ H', v = .bool (m.hears seq) ∧ IsRc p (m.hear seq d) H' ∧ St M w' (H' :: Ls) := by
  have hb0 := hb
  obtain ⟨fr, ring, h1, h2, h3, rfl⟩ := hb
  obtain ⟨k1, k2, k3, k4, k5⟩ := hm
  by_cases hfull : m.wait = m.room
  · have hh : m.hears seq = false := by unfold Rcv.hears; exact decide_eq_false (fun h => h.1 hfull)
    have hq : m.hear seq d = m := by unfold Rcv.hear; rw [hh] <;> rfl
    rw [hh, hq]
    refine zC 50 Tryz.func139 rfl (zQ (zR (zA rfl (zE (zQ (zQ (zW hS (fun w => w.cell? ⟨p, 19, none⟩ = some (.int .i64 m.wait) ∧ w.cell? ⟨p, 0, none⟩ = some (.int .i64 m.room)) [] wide_ rfl fun w hS => zPm 0 1 rfl (zPn 1 3 rfl (zPf 2 7 fl_219_4 rfl (zPm 4 23 rfl (zPn 5 55 rfl (zPf 6 119 fl_219_0 rfl (zD 3 127 rfl ⟨hS.cell (rc19 h2), hS.cell rc0⟩ (fun w hS => y_load pl_3 rfl hS.1) (zD 7 255 rfl ⟨hS.cell (rc19 h2), hS.cell rc0⟩ (fun w hS => y_load pl_3 rfl hS.2) (zP 8 511 rfl (fun w => (y_eql rfl rfl).val (u := .bool true) (congrArg Value.bool (decide_eq_true (by omega)))) (zPm 9 1023 rfl (zDO 10 2047 rfl (zDO 11 4095 rfl (zDO 12 8191 rfl (zDO 13 16383 rfl (zDO 14 32767 rfl (zDO 15 65535 rfl (zDO 16 131071 rfl (zP 17 262143 rfl (fun w => y_pickT rfl rfl) (zH (wc_ifT rfl (rfl) (zQ (zR (zA rfl (zE (zV (z1 rfl ?_))))))))))))))))))))))))))))))))
    exact ⟨_, rfl, hb0, hS⟩
  refine zC 50 Tryz.func139 rfl ?_
  refine zQ (zR (zA rfl (zE (zQ (zQ (zW hS (fun w => w.cell? ⟨p, 19, none⟩ = some (.int .i64 m.wait) ∧ w.cell? ⟨p, 0, none⟩ = some (.int .i64 m.room) ∧ w.cell? ⟨p, 1, none⟩ = some (.int .i64 m.all.length)) [] wide_ rfl fun w hS => zPm 0 1 rfl (zPn 1 3 rfl (zPf 2 7 fl_219_4 rfl (zPm 4 23 rfl (zPn 5 55 rfl (zPf 6 119 fl_219_0 rfl (zD 3 127 rfl ⟨hS.cell (rc19 h2), hS.cell rc0, hS.cell rc1⟩ (fun w hS => y_load pl_3 rfl hS.1) (zD 7 255 rfl ⟨hS.cell (rc19 h2), hS.cell rc0, hS.cell rc1⟩ (fun w hS => y_load pl_3 rfl hS.2.1) (zP 8 511 rfl (fun w => (y_eql rfl rfl).val (u := .bool false) (congrArg Value.bool (decide_eq_false (by omega)))) (zPm 9 1023 rfl (zPG 10 2047 rfl (fun w => y_move rfl) (zPG 11 4095 rfl (fun w => y_move rfl) (zPG 12 8191 rfl (fun w => y_nil rfl) (zPG 13 16383 rfl (fun w => y_fld fl_219_1 rfl) (zDG 14 32767 rfl ⟨hS.cell (rc19 h2), hS.cell rc0, hS.cell rc1⟩ (fun w hS => y_load pl_3 rfl hS.2.2) (zPG 15 65535 rfl (fun w => y_add rfl rfl (w64 (by omega) (by omega))) (zPG 16 131071 rfl (fun w => y_neq rfl rfl) (zP 17 262143 rfl (fun w => y_pickF rfl rfl) (zH (zIf rfl (fun hc24 => ?_) fun hc24 => ?_)))))))))))))))))))))))))
  · have hh : m.hears seq = false := by unfold Rcv.hears; exact decide_eq_false (fun h => by omega)
    have hq : m.hear seq d = m := by unfold Rcv.hear; rw [hh] <;> rfl
    rw [hh, hq]
    refine zQ (zR (zA rfl (zE (zV (z1 rfl ?_)))))
    first
    | exact ⟨_, rfl, hb0, hS⟩
    | (refine ⟨_, rfl, ⟨fr, ring.set ((fr + m.wait) % 16) d, h1, h2', ?_, rfl⟩, ?_⟩
       · exact hear_ring h2 k3 (by omega) h3
       have e1 : (((⟨m.room, m.all ++ [d], m.popped⟩ : Rcv).all.length : Nat) : Int) = (m.all.length : Int) + 1 := by simp
       have e2 : (((⟨m.room, m.all ++ [d], m.popped⟩ : Rcv).wait : Nat) : Int) = (m.wait : Int) + 1 := by (unfold Rcv.wait; simp only [List.length_append, List.length_singleton]; omega)
       rw [e1, e2]; exact hS)
  have hh : m.hears seq = true := by unfold Rcv.hears; exact decide_eq_true ⟨hfull, by omega⟩
  have hq : m.hear seq d = ⟨m.room, m.all ++ [d], m.popped⟩ := by unfold Rcv.hear; rw [hh] <;> rfl
  rw [hh, hq]
  have hmod : (fr + m.wait) % 16 < 16 := Nat.mod_lt _ (by decide)
  have h2' : (ring.set ((fr + m.wait) % 16) d).length = 16 := by rw [List.length_set, h2]
  refine zK (zQ (zW hS (fun w => w.cell? ⟨p, 19, none⟩ = some (.int .i64 m.wait)) [6, 11] wide_ rfl fun w hS => zPm 0 1 rfl (zPm 1 3 rfl (zPm 2 7 rfl (zPn 3 15 rfl (zPf 4 31 fl_219_4 rfl (zPm 7 159 rfl (zPn 8 415 rfl (zPf 9 927 fl_219_2 rfl (zD 5 959 rfl (hS.cell (rc19 h2)) (fun w hS => y_load pl_3 rfl hS) (zU 6 1023 rfl (wl_call (.cons rfl (.cons rfl .nil)) (cplace_c m.wait h1 h2 (by omega) hS) rfl ?_))))))))))))
  rintro _ w ⟨rfl, hS⟩
  refine zE ⟨fun h => absurd (by decide) h, zP 10 2047 rfl (fun w => (y_ixa_ar Tryz.underlying217 sz_9 rfl rfl (by omega) (by omega)).val (u := .pointer (some ⟨p, 2 + (fr + m.wait) % 16, none⟩)) (congrArg (fun k => Value.pointer (some ⟨p, k, none⟩)) (by omega))) (zU 11 4095 rfl (a_store (j := 2 + (fr + m.wait) % 16) sz_9 rfl rfl rfl hS (by rw [rc_size h2]; omega) fun w hS => ?_))⟩
  rw [rsr h2 _ hmod] at hS
  refine zE ⟨fun h => absurd (by decide) h, zH (zQ (zR (zM rfl (zN rfl (zF fl_219_1 rfl (wl (y_load pl_3 rfl (hS.cell rc1)) rfl (wl (y_add rfl rfl (w64 (by omega) (by omega))) rfl (zN rfl (zF fl_219_1 rfl (a_store sz_3 rfl rfl rfl hS (by rw [rc_size h2']; omega) fun w hS => ?_))))))))))⟩
  rw [rs1] at hS
  refine zE (zQ (zR (zM rfl (zN rfl (zF fl_219_4 rfl (wl (y_load pl_3 rfl (hS.cell (rc19 h2'))) rfl (wl (y_add rfl rfl (w64 (by omega) (by omega))) rfl (zN rfl (zF fl_219_4 rfl (a_store sz_3 rfl rfl rfl hS (by rw [rc_size h2']; omega) fun w hS => ?_))))))))))
  rw [rs19 h2'] at hS
  refine zE (zQ (zR (zA rfl (zE (zV (z1 rfl ?_))))))
  first
  | exact ⟨_, rfl, hb0, hS⟩
  | (refine ⟨_, rfl, ⟨fr, ring.set ((fr + m.wait) % 16) d, h1, h2', ?_, rfl⟩, ?_⟩
     · exact hear_ring h2 k3 (by omega) h3
     have e1 : (((⟨m.room, m.all ++ [d], m.popped⟩ : Rcv).all.length : Nat) : Int) = (m.all.length : Int) + 1 := by simp
     have e2 : (((⟨m.room, m.all ++ [d], m.popped⟩ : Rcv).wait : Nat) : Int) = (m.wait : Int) + 1 := by (unfold Rcv.wait; simp only [List.length_append, List.length_singleton]; omega)
     rw [e1, e2]; exact hS)
theorem pop_ring {m : Rcv} {ring : List ByteArray} {fr : Nat} {d : ByteArray} (h2 : ring.length = 16) (h1 : fr < 16) (hp : m.popped < m.all.length) (hw : m.wait ≤ 16)
    (h3 : ∀ i, i < m.wait → ring[(fr + i) % 16]? = m.all[m.popped + i]?) : ∀ i, i < (⟨m.room, m.all, m.popped + 1⟩ : Rcv).wait → (ring.set fr d)[((fr + 1) % 16 + i) % 16]? = m.all[m.popped + 1 + i]? := by
  intro i hi
  have hwv : (⟨m.room, m.all, m.popped + 1⟩ : Rcv).wait + 1 = m.wait := by unfold Rcv.wait; simp only; omega
  have h := h3 (i + 1) (by omega)
  rw [List.getElem?_set_ne (by omega)]
  rw [show ((fr + 1) % 16 + i) % 16 = (fr + (i + 1)) % 16 by omega, show m.popped + 1 + i = m.popped + (i + 1) by omega]
  exact h
theorem cpop_c {p : Nat} {m : Rcv} {H : Chunk} (hm : m.ok) (hb : IsRc p m H) (hS : St M w (H :: Ls)) :
    CallsR Tryz.prog 140 [.pointer (some ⟨p, 0, none⟩)].toArray w fun v w' => ∃ H', v = m.popV ∧ IsRc p m.pop H' ∧ St M w' (H' :: Ls) := by
  have hb0 := hb
  obtain ⟨fr, ring, h1, h2, h3, rfl⟩ := hb
  obtain ⟨k1, k2, k3, k4, k5⟩ := hm
  refine zC 40 Tryz.func140 rfl (zQ (zR (zA rfl (zA rfl (zE (zQ (zQ (zR (zM rfl (zN rfl (zF fl_219_4 rfl (wl (y_load pl_3 rfl (hS.cell (rc19 h2))) rfl (wl (y_eql rfl rfl) rfl (zE (zIf rfl (fun hc9 => ?_) fun hc9 => ?_)))))))))))))))
  · have hge : ¬ m.popped < m.all.length := by unfold Rcv.wait at hc9; omega
    have hq : m.pop = m := by unfold Rcv.pop; rw [if_neg hge]
    have hv : m.popV = .tuple [.string ⟨#[]⟩, .bool false].toArray := by unfold Rcv.popV; rw [List.getElem?_eq_none (by omega)]
    rw [hq, hv]
    refine zQ (zR (zA rfl (zA rfl (zE (zV (z2 rfl ?_))))))
    first
    | exact ⟨_, rfl, hb0, hS⟩
    | (refine ⟨_, rfl, ⟨(fr + 1) % 16, ring.set fr ⟨#[]⟩, Nat.mod_lt _ (by decide), h2', pop_ring h2 h1 hlt (by omega) h3, rfl⟩, ?_⟩
       have e2 : (((⟨m.room, m.all, m.popped + 1⟩ : Rcv).wait : Nat) : Int) = (m.wait : Int) - 1 := by (unfold Rcv.wait; simp only; omega)
       rw [e2]; exact hS)
  have hlt : m.popped < m.all.length := by unfold Rcv.wait at hc9; omega
  have hq : m.pop = ⟨m.room, m.all, m.popped + 1⟩ := by unfold Rcv.pop; rw [if_pos hlt]
  obtain ⟨d, hd⟩ : ∃ d, m.all[m.popped]? = some d := ⟨_, List.getElem?_eq_getElem hlt⟩
  have hv : m.popV = .tuple [.string d, .bool true].toArray := by unfold Rcv.popV; rw [hd]
  rw [hq, hv]
  have hr0 : ring[fr]? = some d := by
    have := h3 0 (by unfold Rcv.wait at hc9 ⊢; omega)
    rw [Nat.add_zero, Nat.add_zero, Nat.mod_eq_of_lt h1, hd] at this
    exact this
  have h2' : (ring.set fr ⟨#[]⟩).length = 16 := by rw [List.length_set, h2]
  refine zK (zQ (zW hS (fun w => w.cell? ⟨p, 18, none⟩ = some (.int .i64 fr) ∧ w.cell? ⟨p, 2 + fr, none⟩ = some (.string d)) [] wide_ rfl fun w hS => zPm 0 1 rfl (zPm 1 3 rfl (zPn 2 7 rfl (zPf 3 15 fl_219_3 rfl (zPn 5 47 rfl (zPf 6 111 fl_219_2 rfl (zD 4 127 rfl ⟨hS.cell (rc18 h2), hS.cell (rcr h2 fr h1 d hr0)⟩ (fun w hS => y_load pl_3 rfl hS.1) (zP 7 255 rfl (fun w => (y_ixa_ar Tryz.underlying217 sz_9 rfl rfl (by omega) (by omega)).val (u := .pointer (some ⟨p, 2 + fr, none⟩)) (congrArg (fun k => Value.pointer (some ⟨p, k, none⟩)) (by omega))) (zD 8 511 rfl ⟨hS.cell (rc18 h2), hS.cell (rcr h2 fr h1 d hr0)⟩ (fun w hS => y_load pl_9 rfl hS.2) (zPa 9 1023 rfl (zH (zQ (zW hS (fun w => w.cell? ⟨p, 18, none⟩ = some (.int .i64 fr)) [8] wide_ rfl fun w hS => zPm 0 1 rfl (zPm 1 3 rfl (zPn 2 7 rfl (zPf 3 15 fl_219_3 rfl (zPn 5 47 rfl (zPf 6 111 fl_219_2 rfl (zD 4 127 rfl (hS.cell (rc18 h2)) (fun w hS => y_load pl_3 rfl hS) (zP 7 255 rfl (fun w => (y_ixa_ar Tryz.underlying217 sz_9 rfl rfl (by omega) (by omega)).val (u := .pointer (some ⟨p, 2 + fr, none⟩)) (congrArg (fun k => Value.pointer (some ⟨p, k, none⟩)) (by omega))) (zU 8 511 rfl (a_store (j := 2 + fr) sz_9 rfl rfl rfl hS (by rw [rc_size h2]; omega) fun w hS => ?_)))))))))))))))))))))))
  rw [rsr h2 _ h1] at hS
  refine zE ⟨fun h => absurd (by decide) h, zH (zQ (zR (zM rfl (zM rfl (wl_call (.cons rfl (.cons rfl .nil)) (cplace_c 1 h1 h2' (by omega) hS) rfl ?_)))))⟩
  rintro _ w ⟨rfl, hS⟩
  refine zN rfl (zF fl_219_3 rfl (a_store sz_3 rfl rfl rfl hS (by rw [rc_size h2']; omega) fun w hS => ?_))
  rw [rs18 h2'] at hS
  refine zE (zQ (zR (zM rfl (zN rfl (zF fl_219_4 rfl (wl (y_load pl_3 rfl (hS.cell (rc19 h2'))) rfl (wl (y_sub rfl rfl (w64 (by omega) (by omega))) rfl (zN rfl (zF fl_219_4 rfl (a_store sz_3 rfl rfl rfl hS (by rw [rc_size h2']; omega) fun w hS => ?_))))))))))
  rw [rs19 h2'] at hS
  refine zE (zQ (zR (zM rfl (zA rfl (zA rfl (zE (zV (z2 rfl ?_))))))))
  first
  | exact ⟨_, rfl, hb0, hS⟩
  | (refine ⟨_, rfl, ⟨(fr + 1) % 16, ring.set fr ⟨#[]⟩, Nat.mod_lt _ (by decide), h2', pop_ring h2 h1 hlt (by omega) h3, rfl⟩, ?_⟩
     have e2 : (((⟨m.room, m.all, m.popped + 1⟩ : Rcv).wait : Nat) : Int) = (m.wait : Int) - 1 := by (unfold Rcv.wait; simp only; omega)
     rw [e2]; exact hS)
end
end Go.Proofs.YtndahppmjdbifaaGreatDoor.Snd
set_option linter.unusedVariables false
set_option linter.unusedSimpArgs false
namespace Go.Proofs.YtndahppmjdbifaaGreatDoor.Lnk
open Go Go.Proofs Eng Snd
structure Lnk where
  ep : Nat
  s : Snd
  r : Rcv
  win : Int
  room : Int
  pas : Bool
def epc (n : Int) : Nat := (min (max n 0) 1099511627776).toNat
def Lnk.fresh (m : Lnk) (ep : Int) : Lnk := ⟨epc ep, Snd.new m.win 1125899906842624, Rcv.new m.room, m.win, m.room, m.pas⟩
def Lnk.new (ep win room : Int) (pas : Bool) : Lnk := ⟨epc ep, Snd.new win 1125899906842624, Rcv.new room, win, room, pas⟩
def Lnk.ok (m : Lnk) : Prop := m.ep ≤ 1099511627776 ∧ m.s.ok ∧ m.r.ok
theorem Lnk.new_ok (ep win room : Int) (pas : Bool) : (Lnk.new ep win room pas).ok := ⟨by unfold Lnk.new epc; simp only; omega, Snd.new_ok _ _, Rcv.new_ok _⟩
theorem Lnk.fresh_ok (m : Lnk) (ep : Int) : (m.fresh ep).ok := ⟨by unfold Lnk.fresh epc; simp only; omega, Snd.new_ok _ _, Rcv.new_ok _⟩
def lo (ps pr : Nat) (m : Lnk) : Obj := .cells #[.pointer (some ⟨ps, 0, none⟩), .pointer (some ⟨pr, 0, none⟩), .int .i64 m.ep, .int .i64 m.win, .int .i64 m.room, .bool m.pas] 165
def IsL (p : Nat) (m : Lnk) (H : Chunk) : Prop := ∃ ps pr Hs Hr, IsS ps m.s Hs ∧ IsRc pr m.r Hr ∧ H = (p, lo ps pr m) :: (Hs ++ Hr)
section
variable {M : Mem} {w : World} {Ls : List Chunk}
theorem lbegin_c {p : Nat} {a b : Value} {e win room : Int} {pas : Bool} (ep : Int) (hS : St M w ([(p, .cells #[a, b, .int .i64 e, .int .i64 win, .int .i64 room, .bool pas] 165)] :: Ls)) :
    CallsR Tryz.prog 137 [.pointer (some ⟨p, 0, none⟩), .int .i64 ep].toArray w fun v w' => ∃ H, IsL p (Lnk.new ep win room pas) H ∧ St M w' (H :: Ls) := by
  refine zC 24 Tryz.func137 rfl (zQ (zR (zM rfl (zM rfl (wl (y_max rfl rfl) rfl (wl ((y_min rfl rfl).val (u := .int .i64 (epc ep : Nat)) (congrArg (Value.int .i64) (by unfold epc; omega))) rfl (zN rfl (zF fl_165_1 rfl (zS sz_3 rfl hS fun w hS => zE ?_)))))))))
  simp only [zL, cells_agg, setCells] at hS
  refine zW hS (fun w => w.cell? ⟨p, 3, none⟩ = some (.int .i64 win) ∧ w.cell? ⟨p, 4, none⟩ = some (.int .i64 room)) [14] wide_ rfl fun w hS => zPm 0 1 rfl (zPm 1 3 rfl (zPn 2 7 rfl (zPf 3 15 fl_165_2 rfl (zPm 6 79 rfl (zPn 7 207 rfl (zPf 8 463 fl_165_3 rfl (zD 4 479 rfl ⟨hS.c, hS.c⟩ (fun w hS => y_load pl_3 rfl hS.1) (zD 9 991 rfl ⟨hS.c, hS.c⟩ (fun w hS => y_load pl_3 rfl hS.2) (zU 5 1023 rfl (wl_call (.cons rfl (.cons rfl .nil)) (snew_c win 1125899906842624 hS) rfl ?_))))))))))
  rintro _ w ⟨ps, Hs, rfl, hs, hS⟩
  refine zE ⟨fun _ _ => ⟨hS.c, hS.c⟩, zU 10 2047 rfl (wl_call (.cons rfl .nil) (cnew_c room hS) rfl ?_)⟩
  rintro _ w ⟨pr, Hr, rfl, hr, hS⟩
  refine zE ⟨fun _ _ => ⟨hS.c, hS.c⟩, zP 11 4095 rfl (fun w => y_build (is := [0, 1]) (xs := [_, _]) (out := [_, _]) plc_163 z_163 (.cons rfl (.cons rfl .nil)) rfl) (zPn 12 8191 rfl (zPf 13 16383 fl_165_0 rfl (zU 14 32767 rfl (zG (vs := [_, _]) sz_163 rfl hS fun w hS => zE ⟨fun h => absurd (by decide) h, zH ?_⟩))))⟩
  simp only [zL, cells_agg, setCells] at hS
  refine wretN (vs := []) .nil ?_
  exact ⟨_, ⟨ps, pr, Hs, Hr, hs, hr, rfl⟩, (by unfold lo Lnk.new; dsimp only; exact hS.keep)⟩
theorem lnew_c (ep win room : Int) (pas : Bool) (hS : St M w Ls) : CallsR Tryz.prog 109 [.int .i64 ep, .int .i64 win, .int .i64 room, .bool pas].toArray w fun v w' => ∃ p H, v = .pointer (some ⟨p, 0, none⟩) ∧ IsL p (Lnk.new ep win room pas) H ∧ St M w' (H :: Ls) := by
  refine zC 19 Tryz.func109 rfl (zQ (zR (zA rfl (zE (zQ (zR (zM rfl (zM rfl (zM rfl (wl (y_build (is := [2, 3, 4]) (xs := [_, _, _]) (out := [_, _, _, _, _, _]) plc_165 z_165 (.cons rfl (.cons rfl (.cons rfl .nil))) rfl) rfl (a_box rfl hS rfl fun b14 w hS => zA rfl (zE (zQ (zR (zM rfl (zM rfl (wl_call (.cons rfl (.cons rfl .nil)) (lbegin_c ep hS) rfl ?_)))))))))))))))))
  rintro _ w ⟨H, hl, hS⟩
  refine zE (zQ (zR (zM rfl (zA rfl (zE (zV (z1 rfl ?_)))))))
  exact ⟨_, _, rfl, hl, hS⟩
theorem lepoch_c {p : Nat} {m : Lnk} {H : Chunk} (hb : IsL p m H) (hS : St M w (H :: Ls)) : CallsR Tryz.prog 49 [.pointer (some ⟨p, 0, none⟩)].toArray w fun v w' => v = .int .i64 m.ep ∧ St M w' (H :: Ls) := by
  obtain ⟨ps, pr, Hs, Hr, hs, hr, rfl⟩ := hb
  unfold lo at hS ⊢
  refine zC 7 Tryz.func49 rfl (zQ (zR (zA rfl (zE (zQ (zR (zM rfl (zN rfl (zF fl_165_1 rfl (wl (y_load pl_3 rfl (hS.cell rfl)) rfl (zA rfl (zE (zV (z1 rfl ?_))))))))))))))
  exact ⟨rfl, hS⟩
theorem lwait_c {p : Nat} {m : Lnk} {H : Chunk} (hb : IsL p m H) (hS : St M w (H :: Ls)) : CallsR Tryz.prog 53 [.pointer (some ⟨p, 0, none⟩)].toArray w fun v w' => v = .int .i64 m.r.wait ∧ St M w' (H :: Ls) := by
  obtain ⟨ps, pr, Hs, Hr, hs, hr, rfl⟩ := hb
  unfold lo at hS ⊢
  replace hS := hS.un2
  refine zC 9 Tryz.func53 rfl (zQ (zR (zA rfl (zE (zQ (zR (zM rfl (zN rfl (zF fl_165_0 rfl (zF fl_163_1 rfl (wl (y_load pl_161 rfl (hS.cell rfl)) rfl (wl_call (.cons rfl .nil) (cwait_c hr (hS.pull Hr)) rfl ?_))))))))))))
  rintro _ w ⟨rfl, hS⟩
  refine zA rfl (zE (zV (z1 rfl ?_)))
  exact ⟨rfl, hS.keep⟩
theorem lunacked_c {p : Nat} {m : Lnk} {H : Chunk} (hb : IsL p m H) (hS : St M w (H :: Ls)) : CallsR Tryz.prog 54 [.pointer (some ⟨p, 0, none⟩)].toArray w fun v w' => v = .int .i64 (m.s.all.length - m.s.acked : Nat) ∧ St M w' (H :: Ls) := by
  obtain ⟨ps, pr, Hs, Hr, hs, hr, rfl⟩ := hb
  unfold lo at hS ⊢
  replace hS := hS.un2
  refine zC 9 Tryz.func54 rfl (zQ (zR (zA rfl (zE (zQ (zR (zM rfl (zN rfl (zF fl_165_0 rfl (zF fl_163_0 rfl (wl (y_load pl_160 rfl (hS.cell rfl)) rfl (wl_call (.cons rfl .nil) (sunacked_c hs (hS.pull Hs)) rfl ?_))))))))))))
  rintro _ w ⟨rfl, hS⟩
  refine zA rfl (zE (zV (z1 rfl ?_)))
  exact ⟨rfl, hS.keep⟩
def Lnk.offer (m : Lnk) (d : ByteArray) : Lnk := ⟨m.ep, m.s.offer d, m.r, m.win, m.room, m.pas⟩
def Lnk.pop (m : Lnk) : Lnk := ⟨m.ep, m.s, m.r.pop, m.win, m.room, m.pas⟩
theorem loffer_c {p : Nat} {m : Lnk} {H : Chunk} (d : ByteArray) (hm : m.ok) (hb : IsL p m H) (hS : St M w (H :: Ls)) : CallsR Tryz.prog 61 [.pointer (some ⟨p, 0, none⟩), .string d].toArray w fun v w' => ∃ H', v = .int .i64 m.s.offerE ∧ IsL p (m.offer d) H' ∧ St M w' (H' :: Ls) := by
  obtain ⟨ps, pr, Hs, Hr, hs, hr, rfl⟩ := hb
  unfold lo at hS
  replace hS := hS.un2
  refine zC 18 Tryz.func61 rfl (zQ (zR (zA rfl (zE (zQ (zR (zM rfl (zN rfl (zF fl_165_0 rfl (zF fl_163_0 rfl (wl (y_load pl_160 rfl (hS.cell rfl)) rfl (zM rfl (wl_call (.cons rfl (.cons rfl .nil)) (soffer_c d hm.2.1 hs (hS.pull Hs)) rfl ?_)))))))))))))
  rintro _ w ⟨k, Hs', rfl, hs, hS⟩
  refine zM rfl (zX rfl (zX rfl (zA rfl (zA rfl (zE (zQ (zR (zM rfl (zA rfl (zE (zV (z1 rfl ?_))))))))))))
  exact ⟨_, rfl, ⟨ps, pr, Hs', Hr, hs, hr, rfl⟩, (by unfold lo Lnk.offer; dsimp only; exact hS.keep)⟩
theorem lpop_c {p : Nat} {m : Lnk} {H : Chunk} (hm : m.ok) (hb : IsL p m H) (hS : St M w (H :: Ls)) : CallsR Tryz.prog 80 [.pointer (some ⟨p, 0, none⟩)].toArray w fun v w' => ∃ H', v = m.r.popV ∧ IsL p m.pop H' ∧ St M w' (H' :: Ls) := by
  obtain ⟨ps, pr, Hs, Hr, hs, hr, rfl⟩ := hb
  unfold lo at hS
  replace hS := hS.un2
  have hpv : ∃ d t, m.r.popV = .tuple [.string d, .bool t].toArray := by
    unfold Rcv.popV
    cases m.r.all[m.r.popped]? with
    | some d => exact ⟨d, true, rfl⟩
    | none => exact ⟨⟨#[]⟩, false, rfl⟩
  obtain ⟨d, t, hpv⟩ := hpv
  rw [hpv]
  refine zC 12 Tryz.func80 rfl (zQ (zR (zA rfl (zA rfl (zE (zQ (zR (zM rfl (zN rfl (zF fl_165_0 rfl (zF fl_163_1 rfl (wl (y_load pl_161 rfl (hS.cell rfl)) rfl (wl_call (.cons rfl .nil) (cpop_c hm.2.2 hr (hS.pull Hr)) rfl ?_)))))))))))))
  rintro _ w ⟨Hr', rfl, hr, hS⟩
  rw [hpv]
  refine zX rfl (zX rfl (zA rfl (zA rfl (zE (zV (z2 rfl ?_))))))
  exact ⟨_, rfl, ⟨ps, pr, Hs, Hr', hs, hr, rfl⟩, (by unfold lo Lnk.pop; dsimp only; exact hS.keep)⟩
end
end Go.Proofs.YtndahppmjdbifaaGreatDoor.Lnk
set_option linter.unusedVariables false
set_option linter.unusedSimpArgs false
namespace Go.Proofs.YtndahppmjdbifaaGreatDoor.Lnk
open Go Go.Proofs Eng Snd Fra
def frm (m : Lnk) (x : Nat × ByteArray) : Frm := ⟨m.ep, x.1, m.r.all.length, x.2⟩
@[irreducible] def Lnk.frames (m : Lnk) : List Frm := if m.ep = 0 then [] else if m.s.pieces = [] then [⟨m.ep, 0, m.r.all.length, ByteArray.empty⟩] else m.s.pieces.map (frm m)
section
variable {M : Mem} {w : World} {Ls : List Chunk}
theorem lframes_c {p : Nat} {m : Lnk} {H : Chunk} (hm : m.ok) (hb : IsL p m H) (hS : St M w (H :: Ls)) :
    CallsR Tryz.prog 62 [.pointer (some ⟨p, 0, none⟩)].toArray w fun v w' => ∃ H', Own 42 encF v m.frames H' ∧ St M w' (H' :: H :: Ls) := by
  obtain ⟨ps, pr, Hs, Hr, hs, hr, rfl⟩ := hb
  obtain ⟨hm1, hm2, hm3⟩ := hm
  have hpl := pieces_length m.s
  have hpl2 : m.s.pieces.length ≤ 16 := by
    obtain ⟨_, a2, _, _, _, a6⟩ := hm2
    omega
  unfold lo at hS ⊢
  replace hS := hS.un2
  unfold Lnk.frames
  refine zC 56 Tryz.func62 rfl (zQ (zR (zA rfl (zE (zQ (zQ (zR (zM rfl (zN rfl (zF fl_165_1 rfl (wl (y_load pl_3 rfl (hS.cell rfl)) rfl (wl (y_eql rfl rfl) rfl (zE (zIf rfl (fun hc11 => ?_) fun hc11 => ?_))))))))))))))
  · rw [if_pos (by omega)]
    refine zQ (zR (zA rfl (zE (zV (z1 rfl ?_)))))
    first
    | exact ⟨_, .nil, St.nil hS.keep⟩
    | exact ⟨_, ho1, hS.keep⟩
    | exact ⟨_, ho, hS.keep⟩
  rw [if_neg (by omega)]
  refine zK (zQ (zR (zA rfl (zE (zQ (zR (zM rfl (zN rfl (zF fl_165_0 rfl (zF fl_163_1 rfl (wl (y_load pl_161 rfl (hS.cell rfl)) rfl (wl_call (.cons rfl .nil) (cack_c hr (hS.pull Hr)) rfl ?_))))))))))))
  rintro _ w ⟨rfl, hS⟩
  refine zA rfl (zE (zQ (zQ (zR (zM rfl (zN rfl (zF fl_165_0 rfl (zF fl_163_0 rfl (wl (y_load pl_160 rfl (hS.cell rfl)) rfl (wl_call (.cons rfl .nil) (spieces_c hm2 hs (hS.pull Hs)) rfl ?_))))))))))
  rintro vp w ⟨Hp, hop, hS⟩
  obtain ⟨pa, pc, rfl⟩ := hop.slice
  refine wl (y_len_sl Tryz.underlying182 rfl) rfl (zM rfl (zE (zB (wc_loop (α := Nat × Value × Chunk) (fun ⟨i, s, H⟩ => [(0, .pointer (some ⟨p, 0, none⟩)), (3, s), (4, .int .i64 m.r.all.length), (23, .slice pa m.s.pieces.length pc), (24, .int .i64 m.s.pieces.length), (25, .int .i64 i)]) (fun ⟨i, s, H⟩ w => i ≤ m.s.pieces.length ∧ Own 42 encF s ((m.s.pieces.take i).map (frm m)) H ∧ St M w (H :: Hp :: Hs :: Hr :: [(p, .cells #[.pointer (some ⟨ps, 0, none⟩), .pointer (some ⟨pr, 0, none⟩), .int .i64 m.ep, .int .i64 m.win, .int .i64 m.room, .bool m.pas] 165)] :: Ls)) (fun ⟨i, _, _⟩ => m.s.pieces.length - i) (0, .slice none 0 0, []) (sub_cons rfl (sub_cons rfl (sub_cons rfl (sub_cons rfl (sub_cons rfl (subR rfl)))))) ⟨by omega, .nil, St.nil hS.keep⟩ ?_))))
  clear hS
  rintro ⟨i, s, H⟩ w ⟨hi, ho, hS⟩
  refine zQ (zR (wl (y_lss rfl rfl) rfl (zE (zQ (zIf rfl (fun hc26 => ?_) fun hc26 => ?_)))))
  · refine zK ?_
    refine zQ (zB (zQ ?_))
    have hi' : i < m.s.pieces.length := by omega
    obtain ⟨x, hx⟩ : ∃ x, m.s.pieces[i]? = some x := ⟨_, List.getElem?_eq_getElem hi'⟩
    have htk : (m.s.pieces.take (i + 1)).map (frm m) = (m.s.pieces.take i).map (frm m) ++ [frm m x] := by rw [List.take_add_one, hx]; simp
    obtain ⟨bb, off, c', hse, hce⟩ := (hop.holds (hS.pull Hp)).at hx
    simp only [Value.slice.injEq] at hse
    have hSk := hS
    obtain ⟨rfl, _, rfl⟩ := hse
    replace hS := hSk
    obtain ⟨sa, sc, rfl⟩ := ho.slice
    refine zR (wl (y_ixa_sl Tryz.underlying182 sz_185 rfl rfl (by omega) (by omega)) rfl (wl (y_loadS st_185 sz_185 rfl (vs := encPc.f x) hce rfl) rfl (a_alloc z_185 hS rfl fun b6 w hS => zG (vs := [_, _]) sz_185 rfl hS fun w hS => zE (zW hS (fun w => w.cell? ⟨p, 2, none⟩ = some (.int .i64 m.ep) ∧ w.cell? ⟨b6, 0, none⟩ = some (.int .i64 x.1) ∧ w.cell? ⟨b6, 1, none⟩ = some (.string x.2)) [12] wide_ rfl fun w hS => zPm 0 1 rfl (zPm 1 3 rfl (zPn 2 7 rfl (zPf 3 15 fl_165_1 rfl (zPf 5 47 fl_185_0 rfl (zPm 7 175 rfl (zPf 8 431 fl_185_1 rfl (zD 4 447 rfl ⟨hS.c, hS.c, hS.c⟩ (fun w hS => y_load pl_3 rfl hS.1) (zD 6 511 rfl ⟨hS.c, hS.c, hS.c⟩ (fun w hS => y_load pl_3 rfl hS.2.1) (zD 9 1023 rfl ⟨hS.c, hS.c, hS.c⟩ (fun w hS => y_load pl_9 rfl hS.2.2) (zP 10 2047 rfl (fun w => y_build (is := [0, 1, 2, 3]) (xs := [_, _, _, _]) (out := [_, _, _, _]) plc_42 z_42 (.cons rfl (.cons rfl (.cons rfl (.cons rfl .nil)))) rfl) (zU 11 4095 rfl (a_bslice encF [frm m x] Tryz.underlying106 sz_42 z_42 rfl (.cons rfl .nil) rfl rfl rfl (by decide) hS rfl fun u Hu w hou hS => zE ⟨fun _ _ => ⟨hS.c, hS.c, hS.c⟩, zU 12 8191 rfl (a_append Tryz.underlying106 Tryz.underlying106 sz_42 z_42 rfl by_42 (by decide) rfl rfl ho (hou.holds hS) hS (by simp; omega) rfl fun s1 H1 w ho1 hS => ?_)⟩))))))))))))))))
    rw [← htk] at ho1
    refine zE ⟨fun h => absurd (by decide) h, zPa 13 16383 rfl (zH (zR (wl (y_add rfl rfl (w64 (by omega) (by omega))) rfl (zM rfl (zE ?_)))))⟩
    exact ⟨(i + 1, _, H1), by simp only; omega, sub_cons rfl (sub_cons rfl (sub_cons rfl (sub_cons rfl (sub_cons rfl (subR rfl))))), by omega, ho1, hS.keep⟩
  obtain rfl : i = m.s.pieces.length := by omega
  rw [List.take_length] at ho
  obtain ⟨sa, sc, rfl⟩ := ho.slice
  have hml : (m.s.pieces.map (frm m)).length = m.s.pieces.length := List.length_map _
  refine wc_exit (zQ (zQ (zR (zM rfl (wl (y_len_sl Tryz.underlying106 rfl) rfl (wl (y_eql rfl rfl) rfl (zE (zIf rfl (fun hc45 => ?_) fun hc45 => ?_))))))))
  · have hnil : m.s.pieces = [] := List.length_eq_zero_iff.1 (by omega)
    rw [if_pos hnil]
    refine zR (zM rfl (zM rfl (zN rfl (zF fl_165_1 rfl (wl (y_load pl_3 rfl (hS.cell rfl)) rfl (zM rfl (wl (y_build (is := [0, 2]) (xs := [_, _]) (out := [_, _, _, _]) plc_42 z_42 (.cons rfl (.cons rfl .nil)) rfl) rfl (a_bslice encF [⟨m.ep, 0, m.r.all.length, ByteArray.empty⟩] Tryz.underlying106 sz_42 z_42 rfl (.cons rfl .nil) rfl rfl rfl (by decide) hS rfl fun u Hu w hou hS => a_append Tryz.underlying106 Tryz.underlying106 sz_42 z_42 rfl by_42 (by decide) rfl rfl ho (hou.holds hS) hS (by simp; omega) rfl fun s1 H1 w ho1 hS => ?_))))))))
    rw [hnil, List.map_nil, List.nil_append] at ho1
    refine zA rfl (zE (zQ (zR (zM rfl (zA rfl (zE (zV (z1 rfl ?_))))))))
    first
    | exact ⟨_, .nil, St.nil hS.keep⟩
    | exact ⟨_, ho1, hS.keep⟩
    | exact ⟨_, ho, hS.keep⟩
  rw [if_neg (fun h => hc45 (by rw [h] <;> rfl))]
  refine zK (zQ (zR (zM rfl (zA rfl (zE (zV (z1 rfl ?_)))))))
  first
  | exact ⟨_, .nil, St.nil hS.keep⟩
  | exact ⟨_, ho1, hS.keep⟩
  | exact ⟨_, ho, hS.keep⟩
end
end Go.Proofs.YtndahppmjdbifaaGreatDoor.Lnk
set_option linter.unusedVariables false
set_option linter.unusedSimpArgs false
namespace Go.Proofs.YtndahppmjdbifaaGreatDoor.Lnk
open Go Go.Proofs Eng Snd Fra
def Lnk.hear2 (m : Lnk) (f : Frm) : Lnk := ⟨m.ep, m.s.ack f.ack, if f.seq = 0 then m.r else m.r.hear f.seq f.data, m.win, m.room, m.pas⟩
def Lnk.anew (m : Lnk) (f : Frm) : Bool := decide (f.ep > m.ep) && m.pas
def Lnk.hear (m : Lnk) (f : Frm) : Lnk := if f.ep < m.ep then m else if f.ep > m.ep then (if m.pas then (m.fresh f.ep).hear2 f else m) else m.hear2 f
section
variable {M : Mem} {w : World} {Ls : List Chunk}
theorem lhear_c {p : Nat} {m : Lnk} {H : Chunk} (f : Frm) (hm : m.ok) (hb : IsL p m H) (hS : St M w (H :: Ls)) :
    CallsR Tryz.prog 76 [.pointer (some ⟨p, 0, none⟩), fv f].toArray w fun v w' => ∃ H', v = .bool (m.anew f) ∧ IsL p (m.hear f) H' ∧ St M w' (H' :: Ls) := by
  have hb0 := hb
  obtain ⟨ps, pr, Hs, Hr, hs, hr, rfl⟩ := hb
  obtain ⟨hm1, hm2, hm3⟩ := hm
  have hS0 := hS
  unfold lo at hS
  replace hS := hS.un2
  rcases Int.lt_trichotomy f.ep m.ep with hlt | heq | hgt
  · have ha : m.anew f = false := by unfold Lnk.anew; rw [decide_eq_false (by omega)] <;> rfl
    have hq : m.hear f = m := by unfold Lnk.hear; rw [if_pos hlt]
    rw [ha, hq]
    refine zC 57 Tryz.func76 rfl (zQ (zR (a_box rfl hS rfl fun b3 w hS => zA rfl (zE (zQ (zW hS (fun w => w.cell? ⟨b3, 0, none⟩ = some (.int .i64 f.ep) ∧ w.cell? ⟨p, 2, none⟩ = some (.int .i64 m.ep)) [] wide_ rfl fun w hS => zPf 0 1 fl_42_0 rfl (zPm 2 5 rfl (zPn 3 13 rfl (zPf 4 29 fl_165_1 rfl (zD 1 31 rfl ⟨hS.c, hS.c⟩ (fun w hS => y_load pl_3 rfl hS.1) (zD 5 63 rfl ⟨hS.c, hS.c⟩ (fun w hS => y_load pl_3 rfl hS.2) (zP 6 127 rfl (fun w => y_gtr rfl rfl) (zPa 7 255 rfl (zH (zQ (zQ (zW hS (fun w => w.cell? ⟨b3, 0, none⟩ = some (.int .i64 f.ep) ∧ w.cell? ⟨p, 2, none⟩ = some (.int .i64 m.ep)) [] wide_ rfl fun w hS => zPf 0 1 fl_42_0 rfl (zPm 2 5 rfl (zPn 3 13 rfl (zPf 4 29 fl_165_1 rfl (zD 1 31 rfl ⟨hS.c, hS.c⟩ (fun w hS => y_load pl_3 rfl hS.1) (zD 5 63 rfl ⟨hS.c, hS.c⟩ (fun w hS => y_load pl_3 rfl hS.2) (zP 6 127 rfl (fun w => (y_lss rfl rfl).val (u := .bool true) (congrArg Value.bool (decide_eq_true (by omega)))) (zPm 7 255 rfl (zDO 8 511 rfl (zDO 9 1023 rfl (dr_offU (i := 10) (lb 17 2047) rfl rfl (by kernel_rfl) rfl rfl (dr_offU (i := 11) (lb 17 4095) rfl rfl (by kernel_rfl) rfl rfl (dr_offU (i := 12) (lb 17 8191) rfl rfl (by kernel_rfl) rfl rfl (dr_offU (i := 13) (lb 17 16383) rfl rfl (by kernel_rfl) rfl rfl (dr_offU (i := 14) (lb 17 32767) rfl rfl (by kernel_rfl) rfl rfl (zDO 15 65535 rfl (zP 16 131071 rfl (fun w => y_pickT rfl rfl) (zH (wc_ifT rfl (rfl) (zQ (zR (zA rfl (zE (zV (z1 rfl ?_)))))))))))))))))))))))))))))))))))))))))
    exact ⟨_, rfl, hb0, (by unfold lo; exact hS.keep)⟩
  · have ha : m.anew f = false := by unfold Lnk.anew; rw [decide_eq_false (by omega)] <;> rfl
    have hq : m.hear f = m.hear2 f := by unfold Lnk.hear; rw [if_neg (by omega), if_neg (by omega)]
    rw [ha, hq]
    refine zC 57 Tryz.func76 rfl (zQ (zR (a_box rfl hS rfl fun b3 w hS => zA rfl (zE (zQ (zW hS (fun w => w.cell? ⟨b3, 0, none⟩ = some (.int .i64 f.ep) ∧ w.cell? ⟨p, 2, none⟩ = some (.int .i64 m.ep)) [] wide_ rfl fun w hS => zPf 0 1 fl_42_0 rfl (zPm 2 5 rfl (zPn 3 13 rfl (zPf 4 29 fl_165_1 rfl (zD 1 31 rfl ⟨hS.c, hS.c⟩ (fun w hS => y_load pl_3 rfl hS.1) (zD 5 63 rfl ⟨hS.c, hS.c⟩ (fun w hS => y_load pl_3 rfl hS.2) (zP 6 127 rfl (fun w => (y_gtr rfl rfl).val (u := .bool false) (congrArg Value.bool (decide_eq_false (by omega)))) (zPa 7 255 rfl (zH (zQ (zQ (zW hS (fun w => w.cell? ⟨b3, 0, none⟩ = some (.int .i64 f.ep) ∧ w.cell? ⟨p, 2, none⟩ = some (.int .i64 m.ep) ∧ w.cell? ⟨p, 5, none⟩ = some (.bool m.pas)) [] wide_ rfl fun w hS => zPf 0 1 fl_42_0 rfl (zPm 2 5 rfl (zPn 3 13 rfl (zPf 4 29 fl_165_1 rfl (zD 1 31 rfl ⟨hS.c, hS.c, hS.c⟩ (fun w hS => y_load pl_3 rfl hS.1) (zD 5 63 rfl ⟨hS.c, hS.c, hS.c⟩ (fun w hS => y_load pl_3 rfl hS.2.1) (zP 6 127 rfl (fun w => (y_lss rfl rfl).val (u := .bool false) (congrArg Value.bool (decide_eq_false (by omega)))) (zPm 7 255 rfl (zPG 8 511 rfl (fun w => y_move rfl) (zPG 9 1023 rfl (fun w => y_move rfl) (zDO 10 2047 rfl (zDO 11 4095 rfl (zDO 12 8191 rfl (zDO 13 16383 rfl (zDO 14 32767 rfl (zPG 15 65535 rfl (fun w => y_pickF rfl rfl) (zP 16 131071 rfl (fun w => y_pickF rfl rfl) (zH (wc_ifF rfl (rfl) (zK (zQ (zQ (zR (zM rfl (zE (wc_ifF rfl (rfl) (zK (zQ (zW hS (fun w => w.cell? ⟨p, 0, none⟩ = some (.pointer (some ⟨ps, 0, none⟩)) ∧ w.cell? ⟨b3, 2, none⟩ = some (.int .i64 f.ack)) [7] wide_ rfl fun w hS => zPm 0 1 rfl (zPn 1 3 rfl (zPf 2 7 fl_165_0 rfl (zPf 3 15 fl_163_0 rfl (zPf 5 47 fl_42_2 rfl (zD 4 63 rfl ⟨hS.c, hS.c⟩ (fun w hS => y_load pl_160 rfl hS.1) (zD 6 127 rfl ⟨hS.c, hS.c⟩ (fun w hS => y_load pl_3 rfl hS.2) (zU 7 255 rfl (wl_call (.cons rfl (.cons rfl .nil)) (sack_c f.ack hm2 hs (hS.pull Hs)) rfl ?_)))))))))))))))))))))))))))))))))))))))))))))))))))))
    rintro _ w ⟨k, Hs', rfl, hs, hS⟩
    refine zE ⟨fun h => absurd (by decide) h, zH (zQ (zQ (zR (zF fl_42_1 rfl (wl (y_load pl_3 rfl (hS.c (v := .int .i64 f.seq))) rfl (wl (y_neq rfl rfl) rfl (zE (zIf rfl (fun hc45 => ?_) fun hc45 => ?_))))))))⟩
    · have he : m.hear2 f = ⟨m.ep, m.s.ack f.ack, m.r.hear f.seq f.data, m.win, m.room, m.pas⟩ := by unfold Lnk.hear2; rw [if_neg (by omega)]
      rw [he]
      refine zW hS (fun w => w.cell? ⟨p, 1, none⟩ = some (.pointer (some ⟨pr, 0, none⟩)) ∧ w.cell? ⟨b3, 1, none⟩ = some (.int .i64 f.seq) ∧ w.cell? ⟨b3, 3, none⟩ = some (.string f.data)) [9] wide_ rfl fun w hS => zPm 0 1 rfl (zPn 1 3 rfl (zPf 2 7 fl_165_0 rfl (zPf 3 15 fl_163_1 rfl (zPf 5 47 fl_42_1 rfl (zPf 7 175 fl_42_3 rfl (zD 4 191 rfl ⟨hS.c, hS.c, hS.c⟩ (fun w hS => y_load pl_161 rfl hS.1) (zD 6 255 rfl ⟨hS.c, hS.c, hS.c⟩ (fun w hS => y_load pl_3 rfl hS.2.1) (zD 8 511 rfl ⟨hS.c, hS.c, hS.c⟩ (fun w hS => y_load pl_9 rfl hS.2.2) (zU 9 1023 rfl (wl_call (.cons rfl (.cons rfl (.cons rfl .nil))) (chear_c f.seq f.data hm3 hr (hS.pull Hr)) rfl ?_))))))))))
      rintro _ w ⟨Hr', rfl, hr, hS⟩
      refine zE ⟨fun h => absurd (by decide) h, zH (zQ (zR (zM rfl (zA rfl (zE (zV (z1 rfl ?_)))))))⟩
      first
      | exact ⟨_, rfl, ⟨ps, pr, Hs', Hr', hs, hr, rfl⟩, (by unfold lo; dsimp only; exact hS.keep)⟩
      | exact ⟨_, rfl, ⟨ps, pr, Hs', Hr, hs, hr, rfl⟩, (by unfold lo; dsimp only; exact hS.keep)⟩
    have he : m.hear2 f = ⟨m.ep, m.s.ack f.ack, m.r, m.win, m.room, m.pas⟩ := by unfold Lnk.hear2; rw [if_pos (by omega)]
    rw [he]
    refine zK (zQ (zR (zM rfl (zA rfl (zE (zV (z1 rfl ?_)))))))
    first
    | exact ⟨_, rfl, ⟨ps, pr, Hs', Hr', hs, hr, rfl⟩, (by unfold lo; dsimp only; exact hS.keep)⟩
    | exact ⟨_, rfl, ⟨ps, pr, Hs', Hr, hs, hr, rfl⟩, (by unfold lo; dsimp only; exact hS.keep)⟩
  by_cases hpas : m.pas = true
  · have ha : m.anew f = true := by unfold Lnk.anew; rw [decide_eq_true (by omega), hpas] <;> rfl
    have hq : m.hear f = (m.fresh f.ep).hear2 f := by unfold Lnk.hear; rw [if_neg (by omega), if_pos (by omega), if_pos hpas]
    rw [ha, hq]
    refine zC 57 Tryz.func76 rfl (zQ (zR (a_box rfl hS rfl fun b3 w hS => zA rfl (zE (zQ (zW hS (fun w => w.cell? ⟨b3, 0, none⟩ = some (.int .i64 f.ep) ∧ w.cell? ⟨p, 2, none⟩ = some (.int .i64 m.ep)) [] wide_ rfl fun w hS => zPf 0 1 fl_42_0 rfl (zPm 2 5 rfl (zPn 3 13 rfl (zPf 4 29 fl_165_1 rfl (zD 1 31 rfl ⟨hS.c, hS.c⟩ (fun w hS => y_load pl_3 rfl hS.1) (zD 5 63 rfl ⟨hS.c, hS.c⟩ (fun w hS => y_load pl_3 rfl hS.2) (zP 6 127 rfl (fun w => (y_gtr rfl rfl).val (u := .bool true) (congrArg Value.bool (decide_eq_true (by omega)))) (zPa 7 255 rfl (zH (zQ (zQ (zW hS (fun w => w.cell? ⟨b3, 0, none⟩ = some (.int .i64 f.ep) ∧ w.cell? ⟨p, 2, none⟩ = some (.int .i64 m.ep) ∧ w.cell? ⟨p, 5, none⟩ = some (.bool m.pas)) [] wide_ rfl fun w hS => zPf 0 1 fl_42_0 rfl (zPm 2 5 rfl (zPn 3 13 rfl (zPf 4 29 fl_165_1 rfl (zD 1 31 rfl ⟨hS.c, hS.c, hS.c⟩ (fun w hS => y_load pl_3 rfl hS.1) (zD 5 63 rfl ⟨hS.c, hS.c, hS.c⟩ (fun w hS => y_load pl_3 rfl hS.2.1) (zP 6 127 rfl (fun w => (y_lss rfl rfl).val (u := .bool false) (congrArg Value.bool (decide_eq_false (by omega)))) (zPm 7 255 rfl (zPG 8 511 rfl (fun w => y_move rfl) (zPG 9 1023 rfl (fun w => y_move rfl) (zPG 10 2047 rfl (fun w => y_move rfl) (zPG 11 4095 rfl (fun w => y_nil rfl) (zPG 12 8191 rfl (fun w => y_fld fl_165_4 rfl) (zDG 13 16383 rfl ⟨hS.c, hS.c, hS.c⟩ (fun w hS => y_load pl_4 rfl hS.2.2) (zPG 14 32767 rfl (fun w => y_not rfl) (zPG 15 65535 rfl (fun w => y_pickT rfl rfl) (zP 16 131071 rfl (fun w => y_pickF rfl rfl) (zH (wc_ifF rfl (by rw [hpas] <;> rfl) (zK (zQ (zQ (zR (zM rfl (zE (wc_ifT rfl (rfl) (zR (zM rfl (zF fl_42_0 rfl (wl (y_load pl_3 rfl (hS.c (v := .int .i64 f.ep))) rfl (wl_call (.cons rfl (.cons rfl .nil)) (lbegin_c f.ep (hS.pull [(p, .cells #[.pointer (some ⟨ps, 0, none⟩), .pointer (some ⟨pr, 0, none⟩), .int .i64 m.ep, .int .i64 m.win, .int .i64 m.room, .bool m.pas] 165)])) rfl ?_)))))))))))))))))))))))))))))))))))))))))))))))
    rintro _ w ⟨H', hl, hS⟩
    obtain ⟨q, hn⟩ : ∃ q, q = Lnk.new f.ep m.win m.room m.pas := ⟨_, rfl⟩
    rw [← hn] at hl
    have hfr : m.fresh f.ep = q := by rw [hn] <;> rfl
    rw [hfr]
    obtain ⟨qm1, qm2, qm3⟩ : q.ok := by rw [hn]; exact Lnk.new_ok _ _ _ _
    obtain ⟨ps2, pr2, Hs2, Hr2, hs2, hr2, rfl⟩ := hl
    unfold lo at hS
    replace hS := hS.un2
    refine zE (zQ (zW hS (fun w => w.cell? ⟨p, 0, none⟩ = some (.pointer (some ⟨ps2, 0, none⟩)) ∧ w.cell? ⟨b3, 2, none⟩ = some (.int .i64 f.ack)) [7] wide_ rfl fun w hS => zPm 0 1 rfl (zPn 1 3 rfl (zPf 2 7 fl_165_0 rfl (zPf 3 15 fl_163_0 rfl (zPf 5 47 fl_42_2 rfl (zD 4 63 rfl ⟨hS.c, hS.c⟩ (fun w hS => y_load pl_160 rfl hS.1) (zD 6 127 rfl ⟨hS.c, hS.c⟩ (fun w hS => y_load pl_3 rfl hS.2) (zU 7 255 rfl (wl_call (.cons rfl (.cons rfl .nil)) (sack_c f.ack qm2 hs2 (hS.pull Hs2)) rfl ?_))))))))))
    rintro _ w ⟨k, Hs', rfl, hs2, hS⟩
    refine zE ⟨fun h => absurd (by decide) h, zH (zQ (zQ (zR (zF fl_42_1 rfl (wl (y_load pl_3 rfl (hS.c (v := .int .i64 f.seq))) rfl (wl (y_neq rfl rfl) rfl (zE (zIf rfl (fun hc45 => ?_) fun hc45 => ?_))))))))⟩
    · have he : q.hear2 f = ⟨q.ep, q.s.ack f.ack, q.r.hear f.seq f.data, q.win, q.room, q.pas⟩ := by unfold Lnk.hear2; rw [if_neg (by omega)]
      rw [he]
      refine zW hS (fun w => w.cell? ⟨p, 1, none⟩ = some (.pointer (some ⟨pr2, 0, none⟩)) ∧ w.cell? ⟨b3, 1, none⟩ = some (.int .i64 f.seq) ∧ w.cell? ⟨b3, 3, none⟩ = some (.string f.data)) [9] wide_ rfl fun w hS => zPm 0 1 rfl (zPn 1 3 rfl (zPf 2 7 fl_165_0 rfl (zPf 3 15 fl_163_1 rfl (zPf 5 47 fl_42_1 rfl (zPf 7 175 fl_42_3 rfl (zD 4 191 rfl ⟨hS.c, hS.c, hS.c⟩ (fun w hS => y_load pl_161 rfl hS.1) (zD 6 255 rfl ⟨hS.c, hS.c, hS.c⟩ (fun w hS => y_load pl_3 rfl hS.2.1) (zD 8 511 rfl ⟨hS.c, hS.c, hS.c⟩ (fun w hS => y_load pl_9 rfl hS.2.2) (zU 9 1023 rfl (wl_call (.cons rfl (.cons rfl (.cons rfl .nil))) (chear_c f.seq f.data qm3 hr2 (hS.pull Hr2)) rfl ?_))))))))))
      rintro _ w ⟨Hr', rfl, hr2, hS⟩
      refine zE ⟨fun h => absurd (by decide) h, zH (zQ (zR (zM rfl (zA rfl (zE (zV (z1 rfl ?_)))))))⟩
      first
      | exact ⟨_, rfl, ⟨ps2, pr2, Hs', Hr', hs2, hr2, rfl⟩, (by unfold lo; dsimp only; exact hS.keep)⟩
      | exact ⟨_, rfl, ⟨ps2, pr2, Hs', Hr2, hs2, hr2, rfl⟩, (by unfold lo; dsimp only; exact hS.keep)⟩
    have he : q.hear2 f = ⟨q.ep, q.s.ack f.ack, q.r, q.win, q.room, q.pas⟩ := by unfold Lnk.hear2; rw [if_pos (by omega)]
    rw [he]
    refine zK (zQ (zR (zM rfl (zA rfl (zE (zV (z1 rfl ?_)))))))
    first
    | exact ⟨_, rfl, ⟨ps2, pr2, Hs', Hr', hs2, hr2, rfl⟩, (by unfold lo; dsimp only; exact hS.keep)⟩
    | exact ⟨_, rfl, ⟨ps2, pr2, Hs', Hr2, hs2, hr2, rfl⟩, (by unfold lo; dsimp only; exact hS.keep)⟩
  have ha : m.anew f = false := by unfold Lnk.anew; simp [hpas]
  have hq : m.hear f = m := by unfold Lnk.hear; rw [if_neg (by omega), if_pos (by omega), if_neg hpas]
  have hpf : m.pas = false := by simpa using hpas
  rw [ha, hq]
  refine zC 57 Tryz.func76 rfl (zQ (zR (a_box rfl hS rfl fun b3 w hS => zA rfl (zE (zQ (zW hS (fun w => w.cell? ⟨b3, 0, none⟩ = some (.int .i64 f.ep) ∧ w.cell? ⟨p, 2, none⟩ = some (.int .i64 m.ep)) [] wide_ rfl fun w hS => zPf 0 1 fl_42_0 rfl (zPm 2 5 rfl (zPn 3 13 rfl (zPf 4 29 fl_165_1 rfl (zD 1 31 rfl ⟨hS.c, hS.c⟩ (fun w hS => y_load pl_3 rfl hS.1) (zD 5 63 rfl ⟨hS.c, hS.c⟩ (fun w hS => y_load pl_3 rfl hS.2) (zP 6 127 rfl (fun w => (y_gtr rfl rfl).val (u := .bool true) (congrArg Value.bool (decide_eq_true (by omega)))) (zPa 7 255 rfl (zH (zQ (zQ (zW hS (fun w => w.cell? ⟨b3, 0, none⟩ = some (.int .i64 f.ep) ∧ w.cell? ⟨p, 2, none⟩ = some (.int .i64 m.ep) ∧ w.cell? ⟨p, 5, none⟩ = some (.bool m.pas)) [] wide_ rfl fun w hS => zPf 0 1 fl_42_0 rfl (zPm 2 5 rfl (zPn 3 13 rfl (zPf 4 29 fl_165_1 rfl (zD 1 31 rfl ⟨hS.c, hS.c, hS.c⟩ (fun w hS => y_load pl_3 rfl hS.1) (zD 5 63 rfl ⟨hS.c, hS.c, hS.c⟩ (fun w hS => y_load pl_3 rfl hS.2.1) (zP 6 127 rfl (fun w => (y_lss rfl rfl).val (u := .bool false) (congrArg Value.bool (decide_eq_false (by omega)))) (zPm 7 255 rfl (zPG 8 511 rfl (fun w => y_move rfl) (zPG 9 1023 rfl (fun w => y_move rfl) (zPG 10 2047 rfl (fun w => y_move rfl) (zPG 11 4095 rfl (fun w => y_nil rfl) (zPG 12 8191 rfl (fun w => y_fld fl_165_4 rfl) (zDG 13 16383 rfl ⟨hS.c, hS.c, hS.c⟩ (fun w hS => y_load pl_4 rfl hS.2.2) (zPG 14 32767 rfl (fun w => y_not rfl) (zPG 15 65535 rfl (fun w => y_pickT rfl rfl) (zP 16 131071 rfl (fun w => y_pickF rfl rfl) (zH (wc_ifT rfl (by rw [hpf] <;> rfl) (zQ (zR (zA rfl (zE (zV (z1 rfl ?_)))))))))))))))))))))))))))))))))))))))))
  exact ⟨_, rfl, hb0, (by unfold lo; exact hS.keep)⟩
end
end Go.Proofs.YtndahppmjdbifaaGreatDoor.Lnk
set_option linter.unusedVariables false
set_option linter.unusedSimpArgs false
namespace Go.Proofs.YtndahppmjdbifaaGreatDoor.Jnl
open Go Go.Proofs Eng Val Rou
structure RV where
  o : Int
  n : Int
  a : Option Addr
  l : Nat
  c : Nat
def RV.s (x : RV) : Value := .slice x.a x.l x.c
def encRV : Enc RV := ⟨3, fun x => [.int .i64 x.o, .int .i64 x.n, .slice x.a x.l x.c], fun _ => rfl, by simp [oneC]⟩
def RvR (M : Mem) (x : RV) (r : Rnd) : Prop := x.o = r.o ∧ x.n = r.n ∧ Rd M encU x.s r.ups ∧ r.ups.length ≤ 137438953472
inductive Rvs (M : Mem) : List RV → List Rnd → Prop
  | nil : Rvs M [] []
  | cons {x : RV} {r : Rnd} {xs : List RV} {rs : List Rnd} : RvR M x r → Rvs M xs rs → Rvs M (x :: xs) (r :: rs)
theorem RvR.mono {M M' : Mem} {x : RV} {r : Rnd} (h : RvR M x r) (hm : Mle M M') : RvR M' x r := ⟨h.1, h.2.1, h.2.2.1.mono hm, h.2.2.2⟩
theorem Rvs.mono {M M' : Mem} {xs : List RV} {rs : List Rnd} (h : Rvs M xs rs) (hm : Mle M M') : Rvs M' xs rs := by
  induction h with
  | nil => exact .nil
  | cons h _ ih => exact .cons (h.mono hm) ih
theorem Rvs.len {M : Mem} {xs : List RV} {rs : List Rnd} (h : Rvs M xs rs) : xs.length = rs.length := by
  induction h with
  | nil => rfl
  | cons _ _ ih => simp [ih]
theorem Rvs.at {M : Mem} {xs : List RV} {rs : List Rnd} (h : Rvs M xs rs) {i : Nat} {r : Rnd} (hr : rs[i]? = some r) : ∃ x, xs[i]? = some x ∧ RvR M x r := by
  induction h generalizing i with
  | nil => simp at hr
  | cons h _ ih =>
    cases i with
    | zero => simp at hr; subst hr; exact ⟨_, rfl, h⟩
    | succ i => simpa using ih (by simpa using hr)
theorem Rvs.append {M : Mem} {xs ys : List RV} {rs ts : List Rnd} (h : Rvs M xs rs) (h' : Rvs M ys ts) : Rvs M (xs ++ ys) (rs ++ ts) := by
  induction h with
  | nil => exact h'
  | cons h _ ih => exact .cons h ih
theorem Rvs.drop {M : Mem} {xs : List RV} {rs : List Rnd} (h : Rvs M xs rs) (k : Nat) : Rvs M (xs.drop k) (rs.drop k) := by
  induction h generalizing k with
  | nil => simpa using Rvs.nil
  | cons h h2 ih =>
    cases k with
    | zero => exact .cons h h2
    | succ k => exact ih k
theorem RvR.val {M : Mem} {x : RV} {r : Rnd} (h : RvR M x r) : Value.agg (encRV.f x).toArray = rvS r x.s := by
  obtain ⟨h1, h2, _⟩ := h
  unfold rvS RV.s encRV
  simp only [h1, h2]
structure Jnl where
  origin : Int
  last : Nat
  l : List Rnd
def Jnl.new (origin last : Int) : Jnl := ⟨origin, (min (max last 1) 1099511627776).toNat, []⟩
def IsJ (M : Mem) (p : Nat) (m : Jnl) (H : Chunk) : Prop := ∃ xs s Hs, Own 48 encRV s xs Hs ∧ Rvs M xs m.l ∧ H = (p, .cells #[.int .i64 m.origin, .int .i64 m.last, s] 170) :: Hs
theorem IsJ.mono {M M' : Mem} {p : Nat} {m : Jnl} {H : Chunk} (h : IsJ M p m H) (hm : Mle M M') : IsJ M' p m H := by
  obtain ⟨xs, s, Hs, h1, h2, h3⟩ := h
  exact ⟨xs, s, Hs, h1, h2.mono hm, h3⟩
section
variable {M : Mem} {w : World} {Ls : List Chunk}
theorem jnew_c (origin last : Int) (hS : St M w Ls) : CallsR Tryz.prog 78 [.int .i64 origin, .int .i64 last].toArray w fun v w' => ∃ p H, v = .pointer (some ⟨p, 0, none⟩) ∧ IsJ M p (Jnl.new origin last) H ∧ St M w' (H :: Ls) := by
  refine zC 11 Tryz.func78 rfl (zQ (zR (zA rfl (zE (zQ (zR (zM rfl (zM rfl (wl (y_max rfl rfl) rfl (wl ((y_min rfl rfl).val (u := .int .i64 ((min (max last 1) 1099511627776).toNat : Nat)) (congrArg (Value.int .i64) (by omega))) rfl (wl (y_build (is := [0, 1]) (xs := [_, _]) (out := [_, _, _]) plc_170 z_170 (.cons rfl (.cons rfl .nil)) rfl) rfl (a_box rfl hS rfl fun b10 w hS => zA rfl (zE (zV (z1 rfl ?_)))))))))))))))
  exact ⟨_, _, rfl, ⟨[], .slice none 0 0, [], .nil, .nil, rfl⟩, hS⟩
theorem jat_c {p : Nat} {m : Jnl} {H : Chunk} (i : Nat) (hb : IsJ M p m H) (hS : St M w (H :: Ls)) :
    CallsR Tryz.prog 59 [.pointer (some ⟨p, 0, none⟩), .int .i64 i].toArray w fun v w' => ∃ M' s', Mle M M' ∧ Rd M' encU s' ((m.l[i]?).getD ⟨0, 0, []⟩).ups ∧ v = .tuple [rvS ((m.l[i]?).getD ⟨0, 0, []⟩) s', .bool (decide (i < m.l.length))].toArray ∧ IsJ M' p m H ∧ St M' w' (H :: Ls) := by
  have hb0 := hb
  obtain ⟨xs, s, Hs, ho, hr, rfl⟩ := hb
  have hlen := hr.len
  obtain ⟨sa, sc, rfl⟩ := ho.slice
  refine zC 26 Tryz.func59 rfl (zQ (zR (a_alloc z_48 hS rfl fun b4 w hS => zA rfl (zE (zQ (zQ (zR (zM rfl (wl ((y_lss rfl rfl).val (u := .bool false) (congrArg Value.bool (decide_eq_false (by omega)))) rfl (zM rfl (zI rfl (zM rfl (zI rfl (zM rfl (zI rfl (zN rfl (zI rfl (zF fl_170_2 rfl (zI rfl (wl (y_load pl_32 rfl (hS.cell rfl)) rfl (zI rfl (wl (y_len_sl Tryz.underlying32 rfl) rfl (zI rfl (wl (y_geq rfl rfl) rfl (wl (y_pickF rfl rfl) rfl (zE (zIf rfl (fun hc16 => ?_) fun hc16 => ?_)))))))))))))))))))))))))))
  · have hn : m.l[i]? = none := List.getElem?_eq_none (by omega)
    rw [hn, decide_eq_false (by omega)]
    refine zQ (zR (wl (y_build (is := []) (xs := []) (out := [_, _, _]) plc_48 z_48 .nil rfl) rfl (zG (vs := [_, _, _]) sz_48 rfl hS fun w hS => zA rfl (zE (zV (wret (vs := [_, _]) (.cell rfl (loadVar_struct st_48 sz_48 (vs := [_, _, _]) rfl (hS.cells rfl)) (.tmp rfl .nil)) ?_))))))
    first
    | exact ⟨M, _, Mle.refl _, Rd.nil, rfl, hb0, hS.keep⟩
    | exact ⟨M', _, hM, hs', rfl, hb0.mono hM, hS.keep⟩
  obtain ⟨r, hri⟩ : ∃ r, m.l[i]? = some r := ⟨_, List.getElem?_eq_getElem (by omega)⟩
  rw [hri, decide_eq_true (by omega)]
  obtain ⟨x, hx, hxr⟩ := hr.at hri
  obtain ⟨bb, off, c', hse, hce⟩ := (ho.holds (hS.pull Hs)).at hx
  simp only [Value.slice.injEq] at hse
  have hSk := hS
  obtain ⟨rfl, _, rfl⟩ := hse
  replace hS := hSk
  refine zK (zQ (zR (zM rfl (zN rfl (zF fl_170_2 rfl (wl (y_load pl_32 rfl (hS.cell rfl)) rfl (zM rfl (wl (y_ixa_sl Tryz.underlying32 sz_48 rfl rfl (by omega) (by omega)) rfl (wl ((y_loadS st_48 sz_48 rfl (vs := encRV.f x) hce rfl).val hxr.val) rfl (wl_call (.cons rfl .nil) (rcopy_c r x.s hxr.2.2.2 hxr.2.2.1 hS) rfl ?_))))))))))
  rintro _ w ⟨M', s', rfl, hM, hs', hS⟩
  obtain ⟨sa', sc', rfl⟩ := (hs'.holds hS).slice
  refine zG (vs := [_, _, _]) sz_48 rfl hS fun w hS => zA rfl (zE (zV (wret (vs := [_, _]) (.cell rfl (loadVar_struct st_48 sz_48 (vs := [_, _, _]) rfl (hS.cells rfl)) (.tmp rfl .nil)) ?_)))
  first
  | exact ⟨M, _, Mle.refl _, Rd.nil, rfl, hb0, hS.keep⟩
  | exact ⟨M', _, hM, hs', rfl, hb0.mono hM, hS.keep⟩
def behind (number : Int) (l : List Rnd) : List Rnd := l.filter fun r => decide (r.n > number)
theorem jfrom_c {p : Nat} {m : Jnl} {H : Chunk} (number : Int) (hl : m.l.length ≤ 137438953472) (hb : IsJ M p m H) (hS : St M w (H :: Ls)) :
    CallsR Tryz.prog 55 [.pointer (some ⟨p, 0, none⟩), .int .i64 number].toArray w fun v w' => ∃ M' ys H', Mle M M' ∧ Own 48 encRV v ys H' ∧ Rvs M' ys (behind number m.l) ∧ IsJ M' p m H ∧ St M' w' (H' :: H :: Ls) := by
  have hb0 := hb
  obtain ⟨xs, s, Hs, ho, hr, rfl⟩ := hb
  have hlen := hr.len
  obtain ⟨sa, sc, rfl⟩ := ho.slice
  refine zC 28 Tryz.func55 rfl (zQ (zR (zA rfl (zE (zQ (zR (zA rfl (zE (zQ (zQ (zR (zM rfl (zN rfl (zF fl_170_2 rfl (wl (y_load pl_32 rfl (hS.cell rfl)) rfl (wl (y_len_sl Tryz.underlying32 rfl) rfl (zM rfl (zE (zB (wc_loop (α := Nat × Value × Chunk × Mem × List RV) (fun ⟨i, s, H1, M1, ys⟩ => [(1, .int .i64 number), (5, s), (11, .slice sa xs.length sc), (12, .int .i64 xs.length), (13, .int .i64 i)]) (fun ⟨i, s, H1, M1, ys⟩ w => i ≤ xs.length ∧ Mle M M1 ∧ Own 48 encRV s ys H1 ∧ ys.length ≤ i ∧ Rvs M1 ys (behind number (m.l.take i)) ∧ St M1 w (H1 :: ((p, .cells #[.int .i64 m.origin, .int .i64 m.last, .slice sa xs.length sc] 170) :: Hs) :: Ls)) (fun ⟨i, _, _, _, _⟩ => xs.length - i) (0, .slice none 0 0, [], M, []) (sub_cons rfl (sub_cons rfl (sub_cons rfl (sub_cons rfl (subR rfl))))) ⟨by omega, Mle.refl _, .nil, by simp, .nil, St.nil hS⟩ ?_))))))))))))))))))))
  clear hS
  rintro ⟨i, s, H1, M1, ys⟩ w ⟨hi, hM, hoy, hyl, hry, hS⟩
  refine zQ (zR (wl (y_lss rfl rfl) rfl (zE (zQ (zIf rfl (fun hc14 => ?_) fun hc14 => ?_)))))
  · refine zK ?_
    refine zQ (zB (zQ ?_))
    have hi' : i < xs.length := by omega
    obtain ⟨r, hri⟩ : ∃ r, m.l[i]? = some r := ⟨_, List.getElem?_eq_getElem (by omega)⟩
    obtain ⟨x, hx, hxr⟩ := (hr.mono hM).at hri
    obtain ⟨bb, off, c', hse, hce⟩ := (ho.holds (hS.pull Hs)).at hx
    simp only [Value.slice.injEq] at hse
    have hSk := hS
    obtain ⟨rfl, _, rfl⟩ := hse
    replace hS := hSk
    obtain ⟨ya, yc, rfl⟩ := hoy.slice
    have htk : behind number (m.l.take (i + 1)) = behind number (m.l.take i) ++ (if r.n > number then [r] else []) := by
      unfold behind
      rw [List.take_add_one, hri, List.filter_append]
      congr 1
      by_cases hc : r.n > number <;> simp [hc]
    refine zR (wl (y_ixa_sl Tryz.underlying32 sz_48 rfl rfl (by omega) (by omega)) rfl (wl ((y_loadS st_48 sz_48 rfl (vs := encRV.f x) hce rfl).val hxr.val) rfl (a_alloc z_48 hS rfl fun b7 w hS => zG (vs := [_, _, _]) sz_48 rfl hS fun w hS => zE (zQ (zR (zF fl_48_1 rfl (wl (y_load pl_3 rfl (hS.c (v := .int .i64 r.n))) rfl (zM rfl (wl (y_gtr rfl rfl) rfl (zE (zIf rfl (fun hc20 => ?_) fun hc20 => ?_)))))))))))
    · rw [if_pos hc20] at htk
      refine zR (zM rfl (wl (y_loadS st_48 sz_48 rfl (hS.cells (vs := [_, _, _]) rfl) rfl) rfl (wl_call (.cons rfl .nil) (rcopy_c r x.s hxr.2.2.2 hxr.2.2.1 hS) rfl ?_)))
      rintro _ w ⟨M', s', rfl, hM', hs', hS⟩
      obtain ⟨sa', sc', rfl⟩ := (hs'.holds hS).slice
      refine a_bslice encRV [⟨r.o, r.n, sa', r.ups.length, sc'⟩] Tryz.underlying32 sz_48 z_48 rfl (.cons rfl .nil) rfl rfl rfl (by decide) hS rfl fun u Hu w hou hS => a_append Tryz.underlying32 Tryz.underlying32 sz_48 z_48 rfl by_48 (by decide) rfl rfl hoy (hou.holds hS) hS (by simp; omega) rfl fun s1 H2 w ho1 hS => ?_
      have hry2 : Rvs M' (ys ++ [⟨r.o, r.n, sa', r.ups.length, sc'⟩]) (behind number (m.l.take i) ++ [r]) := (hry.mono hM').append (.cons ⟨rfl, rfl, hs', hxr.2.2.2⟩ .nil)
      rw [← htk] at hry2
      refine zA rfl (zE (zR (wl (y_add rfl rfl (w64 (by omega) (by omega))) rfl (zM rfl (zE ?_)))))
      first
      | exact ⟨(i + 1, _, H2, M', _), by simp only; omega, sub_cons rfl (sub_cons rfl (sub_cons rfl (sub_cons rfl (subR rfl)))), by omega, hM.trans hM', ho1, by simp; omega, hry2, hS.keep⟩
      | exact ⟨(i + 1, _, H1, M1, ys), by simp only; omega, sub_cons rfl (sub_cons rfl (sub_cons rfl (sub_cons rfl (subR rfl)))), by omega, hM, hoy, by omega, by rw [htk]; exact hry, hS.keep⟩
    rw [if_neg hc20, List.append_nil] at htk
    refine zK (zR (wl (y_add rfl rfl (w64 (by omega) (by omega))) rfl (zM rfl (zE ?_))))
    first
    | exact ⟨(i + 1, _, H2, M', _), by simp only; omega, sub_cons rfl (sub_cons rfl (sub_cons rfl (sub_cons rfl (subR rfl)))), by omega, hM.trans hM', ho1, by simp; omega, hry2, hS.keep⟩
    | exact ⟨(i + 1, _, H1, M1, ys), by simp only; omega, sub_cons rfl (sub_cons rfl (sub_cons rfl (sub_cons rfl (subR rfl)))), by omega, hM, hoy, by omega, by rw [htk]; exact hry, hS.keep⟩
  obtain rfl : i = xs.length := by omega
  rw [hlen, List.take_length] at hry
  refine wc_exit (zQ (zR (zM rfl (zA rfl (zE (zV (z1 rfl ?_)))))))
  exact ⟨M1, ys, H1, hM, hoy, hry, hb0.mono hM, hS⟩
end
end Go.Proofs.YtndahppmjdbifaaGreatDoor.Jnl
set_option linter.unusedVariables false
set_option linter.unusedSimpArgs false
namespace Go.Proofs.YtndahppmjdbifaaGreatDoor.Jnl
open Go Go.Proofs Eng Val Rou
def Jnl.next (m : Jnl) (ups : List Upd) : Rnd := ⟨m.origin, m.l.length + 1, ups⟩
@[irreducible] def Jnl.addE (m : Jnl) (ups : List Upd) : Nat := if m.l.length = m.last then 8 else mayR (m.next ups)
def Jnl.add (m : Jnl) (ups : List Upd) : Jnl := if m.addE ups = 0 then ⟨m.origin, m.last, m.l ++ [m.next ups]⟩ else m
section
variable {M : Mem} {w : World} {Ls : List Chunk}
theorem jadd_c {p : Nat} {m : Jnl} {H : Chunk} (ups : List Upd) (s0 : Value) (hu : Rd M encU s0 ups) (hul : ups.length ≤ 137438953472) (hl : m.l.length ≤ 137438953472) (hb : IsJ M p m H) (hS : St M w (H :: Ls)) :
    CallsR Tryz.prog 148 [.pointer (some ⟨p, 0, none⟩), s0].toArray w fun v w' => ∃ M' s' H', Mle M M' ∧ Rd M' encU s' (if m.addE ups = 0 then ups else []) ∧ v = .tuple [rvS (if m.addE ups = 0 then m.next ups else ⟨0, 0, []⟩) s', .int .i64 (m.addE ups)].toArray ∧ IsJ M' p (m.add ups) H' ∧ St M' w' (H' :: Ls) := by
  have hb0 := hb
  have hu0 := hu
  obtain ⟨xs, s, Hs, ho, hr, rfl⟩ := hb
  have hlen := hr.len
  obtain ⟨sa, sc, rfl⟩ := ho.slice
  obtain ⟨ua, uc, rfl⟩ := (hu.holds hS).slice
  refine zC 50 Tryz.func148 rfl (zQ (zR (a_alloc z_48 hS rfl fun b4 w hS => zA rfl (zE (zQ (zQ (zW hS (fun w => w.cell? ⟨p, 2, none⟩ = some (.slice sa xs.length sc) ∧ w.cell? ⟨p, 1, none⟩ = some (.int .i64 m.last)) [] wide_ rfl fun w hS => zPm 0 1 rfl (zPn 1 3 rfl (zPf 2 7 fl_170_2 rfl (zPm 5 39 rfl (zPn 6 103 rfl (zPf 7 231 fl_170_1 rfl (zD 3 239 rfl ⟨hS.c, hS.c⟩ (fun w hS => y_load pl_32 rfl hS.1) (zP 4 255 rfl (fun w => y_len_sl Tryz.underlying32 rfl) (zD 8 511 rfl ⟨hS.c, hS.c⟩ (fun w hS => y_load pl_3 rfl hS.2) (zP 9 1023 rfl (fun w => y_eql rfl rfl) (zH (zIf rfl (fun hc17 => ?_) fun hc17 => ?_))))))))))))))))))
  · have he : m.addE ups = 8 := by unfold Jnl.addE; rw [if_pos (by omega)]
    have hq : m.add ups = m := by unfold Jnl.add; rw [if_neg (by omega)]
    rw [hq, he, if_neg (by decide), if_neg (by decide)]
    refine zQ (zR (wl (y_build (is := []) (xs := []) (out := [_, _, _]) plc_48 z_48 .nil rfl) rfl (zG (vs := [_, _, _]) sz_48 rfl hS fun w hS => zA rfl (zE (zV (wret (vs := [_, _]) (.cell rfl (loadVar_struct st_48 sz_48 (vs := [_, _, _]) rfl (hS.cells rfl)) (.tmp rfl .nil)) ?_))))))
    first
    | exact ⟨M, _, _, Mle.refl _, Rd.nil, rfl, hb0, hS.keep⟩
    | (simp only [zL, cells_agg, setCells] at hS
       exact ⟨M2, _, _, hM1.trans hM2, hs3, rfl, ⟨_, _, _, ho2, ((hr.mono hM1).append (.cons (x := ⟨m.origin, (m.next ups).n, sa1, ups.length, sc1⟩) (r := m.next ups) ⟨rfl, rfl, hs1, hul⟩ .nil)).mono hM2, rfl⟩, hS.keep⟩)
  have he : m.addE ups = mayR (m.next ups) := by unfold Jnl.addE; rw [if_neg (by omega)]
  refine zK (zQ (zW hS (fun w => w.cell? ⟨p, 0, none⟩ = some (.int .i64 m.origin) ∧ w.cell? ⟨p, 2, none⟩ = some (.slice sa xs.length sc)) [13] wide_ rfl fun w hS => zPm 0 1 rfl (zPn 1 3 rfl (zPf 2 7 fl_170_0 rfl (zPm 4 23 rfl (zPn 5 55 rfl (zPf 6 119 fl_170_2 rfl (zPm 10 1143 rfl (zD 3 1151 rfl ⟨hS.c, hS.c⟩ (fun w hS => y_load pl_3 rfl hS.1) (zD 7 1279 rfl ⟨hS.c, hS.c⟩ (fun w hS => y_load pl_32 rfl hS.2) (zP 8 1535 rfl (fun w => y_len_sl Tryz.underlying32 rfl) (zP 9 2047 rfl (fun w => (y_add rfl rfl (w64 (by omega) (by omega))).val (congrArg (Value.int .i64) (show (xs.length : Int) + 1 = (m.next ups).n by rw [hlen] <;> rfl))) (zP 11 4095 rfl (fun w => y_build (is := [0, 1, 2]) (xs := [_, _, _]) (out := [_, _, _]) plc_48 z_48 (.cons rfl (.cons rfl (.cons rfl .nil))) rfl) (zU 12 8191 rfl (a_alloc z_48 hS rfl fun b6 w hS => zE ⟨fun _ _ => ⟨hS.c, hS.c⟩, zU 13 16383 rfl (zG (vs := [_, _, _]) sz_48 rfl hS fun w hS => zE ⟨fun h => absurd (by decide) h, zH (zQ (zQ (zR (wl (y_loadS st_48 sz_48 rfl (hS.cells (vs := [_, _, _]) rfl) rfl) rfl (wl_call (.cons rfl .nil) (rmay_c (m.next ups) _ hu0 hS) rfl ?_)))))⟩)⟩)))))))))))))))
  rintro _ w ⟨rfl, hS⟩
  refine zA rfl (zE (zQ (zR (zM rfl (wl (y_neq rfl rfl) rfl (zE (zIf rfl (fun hc34 => ?_) fun hc34 => ?_)))))))
  · rw [he, if_neg (by omega), if_neg (by omega)]
    have hq : m.add ups = m := by unfold Jnl.add; rw [if_neg (by omega)]
    rw [hq]
    refine zQ (zR (wl (y_build (is := []) (xs := []) (out := [_, _, _]) plc_48 z_48 .nil rfl) rfl (zM rfl (zG (vs := [_, _, _]) sz_48 rfl hS fun w hS => zA rfl (zE (zV (wret (vs := [_, _]) (.cell rfl (loadVar_struct st_48 sz_48 (vs := [_, _, _]) rfl (hS.cells rfl)) (.tmp rfl .nil)) ?_)))))))
    first
    | exact ⟨M, _, _, Mle.refl _, Rd.nil, rfl, hb0, hS.keep⟩
    | (simp only [zL, cells_agg, setCells] at hS
       exact ⟨M2, _, _, hM1.trans hM2, hs3, rfl, ⟨_, _, _, ho2, ((hr.mono hM1).append (.cons (x := ⟨m.origin, (m.next ups).n, sa1, ups.length, sc1⟩) (r := m.next ups) ⟨rfl, rfl, hs1, hul⟩ .nil)).mono hM2, rfl⟩, hS.keep⟩)
  have hz : m.addE ups = 0 := by omega
  rw [if_pos hz, if_pos hz, hz]
  have hq : m.add ups = ⟨m.origin, m.last, m.l ++ [m.next ups]⟩ := by unfold Jnl.add; rw [if_pos hz]
  rw [hq]
  refine zK (zQ (zW hS (fun w => w.cell? ⟨p, 2, none⟩ = some (.slice sa xs.length sc) ∧ CellsAt w b6 0 [.int .i64 m.origin, .int .i64 (m.next ups).n, .slice ua ups.length uc]) [8, 11] wide_ rfl fun w hS => zPm 0 1 rfl (zPm 1 3 rfl (zPn 2 7 rfl (zPf 3 15 fl_170_2 rfl (zD 4 31 rfl ⟨hS.c, hS.cells rfl⟩ (fun w hS => y_load pl_32 rfl hS.1) (zD 5 63 rfl ⟨hS.c, hS.cells rfl⟩ (fun w hS => y_loadS st_48 sz_48 rfl hS.2 rfl) (zU 6 127 rfl (wl_call (.cons rfl .nil) (rcopy_c (m.next ups) _ hul hu0 hS) rfl ?_)))))))))
  rintro _ w ⟨M1, s1, rfl, hM1, hs1, hS⟩
  obtain ⟨sa1, sc1, rfl⟩ := (hs1.holds hS).slice
  refine zE ⟨fun _ _ => ⟨hS.c, hS.cells rfl⟩, zU 7 255 rfl (a_bslice encRV [⟨m.origin, (m.next ups).n, sa1, ups.length, sc1⟩] Tryz.underlying32 sz_48 z_48 rfl (.cons rfl .nil) rfl rfl rfl (by decide) hS rfl fun u Hu w hou hS => zE ⟨fun _ _ => ⟨hS.c, hS.cells rfl⟩, zU 8 511 rfl (a_append Tryz.underlying32 Tryz.underlying32 sz_48 z_48 rfl by_48 (by decide) rfl rfl ho (hou.holds hS) hS (by simp; omega) rfl fun s2 H2 w ho2 hS => ?_)⟩)⟩
  obtain ⟨sa2, sc2, rfl⟩ := ho2.slice
  refine zE ⟨fun h => absurd (by decide) h, zPn 9 1023 rfl (zPf 10 2047 fl_170_2 rfl (zU 11 4095 rfl (zS sz_32 rfl hS fun w hS => zE ⟨fun h => absurd (by decide) h, zH (zQ (zR (wl (y_loadS st_48 sz_48 rfl (hS.cells (vs := [_, _, _]) rfl) rfl) rfl (wl_call (.cons rfl .nil) (rcopy_c (m.next ups) _ hul (hu0.mono hM1) hS) rfl ?_))))⟩)))⟩
  rintro _ w ⟨M2, s3, rfl, hM2, hs3, hS⟩
  obtain ⟨sa3, sc3, rfl⟩ := (hs3.holds hS).slice
  refine zG (vs := [_, _, _]) sz_48 rfl hS fun w hS => zA rfl (zE (zV (wret (vs := [_, _]) (.cell rfl (loadVar_struct st_48 sz_48 (vs := [_, _, _]) rfl (hS.cells rfl)) (.tmp rfl .nil)) ?_)))
  first
  | exact ⟨M, _, _, Mle.refl _, Rd.nil, rfl, hb0, hS.keep⟩
  | (simp only [zL, cells_agg, setCells] at hS
     exact ⟨M2, _, _, hM1.trans hM2, hs3, rfl, ⟨_, _, _, ho2, ((hr.mono hM1).append (.cons (x := ⟨m.origin, (m.next ups).n, sa1, ups.length, sc1⟩) (r := m.next ups) ⟨rfl, rfl, hs1, hul⟩ .nil)).mono hM2, rfl⟩, hS.keep⟩)
end
end Go.Proofs.YtndahppmjdbifaaGreatDoor.Jnl
set_option linter.unusedVariables false
set_option linter.unusedSimpArgs false
namespace Go.Proofs.YtndahppmjdbifaaGreatDoor.Cli
open Go Go.Proofs Eng Pre Val Rou Jnl Snd
structure Cli where
  origin : Int
  mtu : Int
  push : Nat
  known : List Rnd
  pending : List Rnd
  opn : List Upd
def Cli.new (j : Jnl) (origin mtu push : Int) : Cli := ⟨origin, mtu, (min (max push 1) 16).toNat, [], behind 0 j.l, []⟩
@[irreducible] def Cli.updE (m : Cli) (u : Upd) : Nat :=
  if mayU u ≠ 0 then mayU u else if fits [u] m.mtu = false then 3 else if fits (m.opn ++ [u]) m.mtu = false then 7 else 0
def Cli.upd (m : Cli) (u : Upd) : Cli := if m.updE u = 0 then { m with opn := m.opn ++ [u] } else m
@[irreducible] def Cli.pushE (m : Cli) (j : Jnl) : Nat :=
  if m.opn.length = 0 then 11 else if m.pending.length ≥ m.push then 7 else j.addE m.opn
def Cli.pushR (m : Cli) (j : Jnl) : Rnd := if m.pushE j = 0 then j.next m.opn else ⟨0, 0, []⟩
def Cli.pushC (m : Cli) (j : Jnl) : Cli := if m.pushE j = 0 then { m with opn := [], pending := m.pending ++ [j.next m.opn] } else m
def Cli.pushJ (m : Cli) (j : Jnl) : Jnl := if m.pushE j = 0 then j.add m.opn else j
@[irreducible] def Cli.takE (m : Cli) (r : Rnd) : Nat :=
  if r.o = m.origin then (match m.pending with | [] => 10 | x :: _ => if x.n = r.n then 0 else 10) else 0
def Cli.take (m : Cli) (r : Rnd) : Cli := if m.takE r = 0 then { m with known := m.known ++ [r], pending := if r.o = m.origin then m.pending.tail else m.pending } else m
def Cli.resume (m : Cli) (j : Jnl) : Cli := { m with known := [], opn := [], pending := behind 0 j.l }
abbrev cliO (jp : Nat) (m : Cli) (sk sp so : Value) : Obj := .cells #[.pointer (some ⟨jp, 0, none⟩), .int .i64 m.origin, .int .i64 m.mtu, .int .i64 m.push, sk, sp, so] 168
def IsC (M : Mem) (p jp : Nat) (m : Cli) (H : Chunk) : Prop :=
  ∃ xs sk Hk ys sp Hp so, Own 48 encRV sk xs Hk ∧ Rvs M xs m.known ∧ Own 48 encRV sp ys Hp ∧ Rvs M ys m.pending ∧ Rd M encU so m.opn ∧ H = (p, cliO jp m sk sp so) :: (Hk ++ Hp)
theorem IsC.mono {M M' : Mem} {p jp : Nat} {m : Cli} {H : Chunk} (h : IsC M p jp m H) (hm : Mle M M') : IsC M' p jp m H := by
  obtain ⟨xs, sk, Hk, ys, sp, Hp, so, h1, h2, h3, h4, h5, h6⟩ := h
  exact ⟨xs, sk, Hk, ys, sp, Hp, so, h1, h2.mono hm, h3, h4.mono hm, h5.mono hm, h6⟩
section
variable {M : Mem} {w : World} {Ls : List Chunk}
theorem cnew_c {jp : Nat} {j : Jnl} {H : Chunk} (origin mtu push : Int) (hl : j.l.length ≤ 137438953472) (hb : IsJ M jp j H) (hS : St M w (H :: Ls)) :
    CallsR Tryz.prog 79 [.pointer (some ⟨jp, 0, none⟩), .int .i64 origin, .int .i64 mtu, .int .i64 push].toArray w fun v w' => ∃ M' p Hc, v = .pointer (some ⟨p, 0, none⟩) ∧ Mle M M' ∧ IsC M' p jp (Cli.new j origin mtu push) Hc ∧ IsJ M' jp j H ∧ St M' w' (Hc :: H :: Ls) := by
  refine zC 19 Tryz.func79 rfl (zQ (zR (zA rfl (zE (zQ (zR (zM rfl (zM rfl (zM rfl (zM rfl (wl (y_max rfl rfl) rfl (wl ((y_min rfl rfl).val (u := .int .i64 ((min (max push 1) 16).toNat : Nat)) (congrArg (Value.int .i64) (by omega))) rfl (zM rfl (wl_call (.cons rfl (.cons rfl .nil)) (jfrom_c 0 hl hb hS) rfl ?_))))))))))))))
  rintro v w ⟨M1, ys, Hp, hM, hoy, hry, hb1, hS⟩
  obtain ⟨ya, yc, rfl⟩ := hoy.slice
  refine wl (y_build (is := [0, 1, 2, 3, 5]) (xs := [_, _, _, _, _]) (out := [_, _, _, _, _, _, _]) plc_168 z_168 (.cons rfl (.cons rfl (.cons rfl (.cons rfl (.cons rfl .nil))))) rfl) rfl (a_box rfl hS rfl fun b18 w hS => zA rfl (zE (zV (z1 rfl ?_))))
  exact ⟨M1, _, _, rfl, hM, ⟨[], .slice none 0 0, [], ys, _, Hp, .slice none 0 0, .nil, .nil, hoy, hry, .nil, rfl⟩, hb1, hS.cons⟩
theorem copies_c (l : List Rnd) (xs : List RV) (s : Value) {Hx : Chunk} (hl : l.length ≤ 137438953472) (hx : Own 48 encRV s xs Hx) (hr : Rvs M xs l) (hS : St M w (Hx :: Ls)) :
    CallsR Tryz.prog 117 [s].toArray w fun v w' => ∃ M' ys H', Mle M M' ∧ Own 48 encRV v ys H' ∧ Rvs M' ys l ∧ St M' w' (H' :: Hx :: Ls) := by
  have hlen := hr.len
  obtain ⟨sa, sc, rfl⟩ := hx.slice
  refine zC 19 Tryz.func117 rfl (zQ (zR (zA rfl (zE (zQ (zR (zA rfl (zE (zQ (zQ (zR (zM rfl (wl (y_len_sl Tryz.underlying32 rfl) rfl (zM rfl (zE (zB (wc_loop (α := Nat × Value × Chunk × Mem × List RV) (fun ⟨i, s, H1, M1, ys⟩ => [(3, s), (6, .slice sa xs.length sc), (7, .int .i64 xs.length), (8, .int .i64 i)]) (fun ⟨i, s, H1, M1, ys⟩ w => i ≤ xs.length ∧ Mle M M1 ∧ Own 48 encRV s ys H1 ∧ ys.length ≤ i ∧ Rvs M1 ys (l.take i) ∧ St M1 w (H1 :: Hx :: Ls)) (fun ⟨i, _, _, _, _⟩ => xs.length - i) (0, .slice none 0 0, [], M, []) (sub_cons rfl (sub_cons rfl (sub_cons rfl (subR rfl)))) ⟨by omega, Mle.refl _, .nil, by simp, .nil, St.nil hS⟩ ?_)))))))))))))))))
  clear hS
  rintro ⟨i, s, H1, M1, ys⟩ w ⟨hi, hM, hoy, hyl, hry, hS⟩
  refine zQ (zR (wl (y_lss rfl rfl) rfl (zE (zQ (zIf rfl (fun hc9 => ?_) fun hc9 => ?_)))))
  · refine zK ?_
    refine zQ (zB (zQ ?_))
    have hi' : i < xs.length := by omega
    obtain ⟨r, hri⟩ : ∃ r, l[i]? = some r := ⟨_, List.getElem?_eq_getElem (by omega)⟩
    obtain ⟨x, hx', hxr⟩ := (hr.mono hM).at hri
    obtain ⟨bb, off, c', hse, hce⟩ := (hx.holds (hS.pull Hx)).at hx'
    simp only [Value.slice.injEq] at hse
    have hSk := hS
    obtain ⟨rfl, _, rfl⟩ := hse
    replace hS := hSk
    obtain ⟨ya, yc, rfl⟩ := hoy.slice
    have htk : l.take (i + 1) = l.take i ++ [r] := by rw [List.take_add_one, hri] <;> rfl
    refine zR (wl (y_ixa_sl Tryz.underlying32 sz_48 rfl rfl (by omega) (by omega)) rfl (wl ((y_loadS st_48 sz_48 rfl (vs := encRV.f x) hce rfl).val hxr.val) rfl (a_alloc z_48 hS rfl fun b5 w hS => zG (vs := [_, _, _]) sz_48 rfl hS fun w hS => zE (zR (zM rfl (wl (y_loadS st_48 sz_48 rfl (hS.cells (vs := [_, _, _]) rfl) rfl) rfl (wl_call (.cons rfl .nil) (rcopy_c r x.s hxr.2.2.2 hxr.2.2.1 hS) rfl ?_)))))))
    rintro _ w ⟨M', s', rfl, hM', hs', hS⟩
    obtain ⟨sa', sc', rfl⟩ := (hs'.holds hS).slice
    refine a_bslice encRV [⟨r.o, r.n, sa', r.ups.length, sc'⟩] Tryz.underlying32 sz_48 z_48 rfl (.cons rfl .nil) rfl rfl rfl (by decide) hS rfl fun u Hu w hou hS => a_append Tryz.underlying32 Tryz.underlying32 sz_48 z_48 rfl by_48 (by decide) rfl rfl hoy (hou.holds hS) hS (by simp; omega) rfl fun s1 H2 w ho1 hS => ?_
    have hry2 : Rvs M' (ys ++ [⟨r.o, r.n, sa', r.ups.length, sc'⟩]) (l.take i ++ [r]) := (hry.mono hM').append (.cons ⟨rfl, rfl, hs', hxr.2.2.2⟩ .nil)
    rw [← htk] at hry2
    refine zA rfl (zE (zR (wl (y_add rfl rfl (w64 (by omega) (by omega))) rfl (zM rfl (zE ?_)))))
    exact ⟨(i + 1, _, H2, M', _), by simp only; omega, sub_cons rfl (sub_cons rfl (sub_cons rfl (subR rfl))), by omega, hM.trans hM', ho1, by simp; omega, hry2, hS.keep⟩
  obtain rfl : i = xs.length := by omega
  rw [hlen, List.take_length] at hry
  refine wc_exit (zQ (zR (zM rfl (zA rfl (zE (zV (z1 rfl ?_)))))))
  exact ⟨M1, ys, H1, hM, hoy, hry, hS⟩
theorem cknown_c {p jp : Nat} {m : Cli} {H : Chunk} (hl : m.known.length ≤ 137438953472) (hb : IsC M p jp m H) (hS : St M w (H :: Ls)) :
    CallsR Tryz.prog 50 [.pointer (some ⟨p, 0, none⟩)].toArray w fun v w' => ∃ M' ys H', Mle M M' ∧ Own 48 encRV v ys H' ∧ Rvs M' ys m.known ∧ IsC M' p jp m H ∧ St M' w' (H' :: H :: Ls) := by
  have hb0 := hb
  obtain ⟨xs, sk, Hk, ys, sp, Hp, so, h1, h2, h3, h4, h5, rfl⟩ := hb
  replace hS := hS.un2
  refine zC 8 Tryz.func50 rfl (zQ (zR (zA rfl (zE (zQ (zR (zM rfl (zN rfl (zF fl_168_4 rfl (wl (y_load pl_32 rfl (hS.c (v := sk))) rfl (wl_call (.cons rfl .nil) (copies_c m.known xs sk hl h1 h2 (hS.pull Hk)) rfl ?_)))))))))))
  rintro v w ⟨M', zs, Hz, hM, ho, hr, hS⟩
  refine zA rfl (zE (zV (z1 rfl ?_)))
  exact ⟨M', zs, Hz, hM, ho, hr, hb0.mono hM, hS.keep⟩
theorem cpending_c {p jp : Nat} {m : Cli} {H : Chunk} (hl : m.pending.length ≤ 137438953472) (hb : IsC M p jp m H) (hS : St M w (H :: Ls)) :
    CallsR Tryz.prog 51 [.pointer (some ⟨p, 0, none⟩)].toArray w fun v w' => ∃ M' ys H', Mle M M' ∧ Own 48 encRV v ys H' ∧ Rvs M' ys m.pending ∧ IsC M' p jp m H ∧ St M' w' (H' :: H :: Ls) := by
  have hb0 := hb
  obtain ⟨xs, sk, Hk, ys, sp, Hp, so, h1, h2, h3, h4, h5, rfl⟩ := hb
  replace hS := hS.un2
  refine zC 8 Tryz.func51 rfl (zQ (zR (zA rfl (zE (zQ (zR (zM rfl (zN rfl (zF fl_168_5 rfl (wl (y_load pl_32 rfl (hS.c (v := sp))) rfl (wl_call (.cons rfl .nil) (copies_c m.pending ys sp hl h3 h4 (hS.pull Hp)) rfl ?_)))))))))))
  rintro v w ⟨M', zs, Hz, hM, ho, hr, hS⟩
  refine zA rfl (zE (zV (z1 rfl ?_)))
  exact ⟨M', zs, Hz, hM, ho, hr, hb0.mono hM, hS.keep⟩
theorem copen_c {p jp : Nat} {m : Cli} {H : Chunk} (hl : m.opn.length ≤ 137438953472) (hb : IsC M p jp m H) (hS : St M w (H :: Ls)) :
    CallsR Tryz.prog 52 [.pointer (some ⟨p, 0, none⟩)].toArray w fun v w' => ∃ H', Own 59 encU v m.opn H' ∧ St M w' (H' :: H :: Ls) := by
  obtain ⟨xs, sk, Hk, ys, sp, Hp, so, h1, h2, h3, h4, h5, rfl⟩ := hb
  replace hS := hS.un2
  refine zC 9 Tryz.func52 rfl (zQ (zR (zA rfl (zE (zQ (zR (a_bslice encU [] (vs := []) (ps := []) Tryz.underlying46 sz_59 z_59 rfl .nil rfl rfl rfl (by decide) hS rfl fun u Hu w hou hS => zM rfl (zN rfl (zF fl_168_6 rfl (wl (y_load pl_46 rfl (hS.c (v := so))) rfl (a_append Tryz.underlying46 Tryz.underlying46 sz_59 z_59 rfl by_59 (by decide) rfl rfl hou (h5.holds hS) hS (by simp; omega) rfl fun s1 H2 w ho1 hS => ?_)))))))))))
  rw [List.nil_append] at ho1
  refine zA rfl (zE (zV (z1 rfl ?_)))
  exact ⟨_, ho1, hS.keep⟩
theorem cconf_c {p jp : Nat} {m : Cli} {H : Chunk} (hb : IsC M p jp m H) (hS : St M w (H :: Ls)) :
    CallsR Tryz.prog 107 [.pointer (some ⟨p, 0, none⟩)].toArray w fun v w' => v = .bool (decide (m.pending = [] ∧ m.opn = [])) ∧ St M w' (H :: Ls) := by
  obtain ⟨xs, sk, Hk, ys, sp, Hp, so, h1, h2, h3, h4, h5, rfl⟩ := hb
  have hSH := hS
  replace hS := hS.un2
  have e4 := h4.len
  obtain ⟨pa, pc, rfl⟩ := h3.slice
  obtain ⟨oa, oc, rfl⟩ := (h5.holds hS).slice
  have fin : ∀ b : Bool, (b = true ↔ (ys.length : Int) = 0 ∧ (m.opn.length : Int) = 0) → b = decide (m.pending = [] ∧ m.opn = []) := by
    intro b hb
    rw [Bool.eq_iff_iff, hb, decide_eq_true_iff, ← List.length_eq_zero_iff, ← List.length_eq_zero_iff]
    omega
  refine zC 17 Tryz.func107 rfl (zQ (zR (zA rfl (zE (zQ (zR (zM rfl (zN rfl (zF fl_168_5 rfl (wl (y_load pl_32 rfl (hS.c (v := .slice pa ys.length pc))) rfl (wl (y_len_sl Tryz.underlying32 rfl) rfl (wl (y_eql rfl rfl) rfl (zM rfl (zWc (s := 9) rfl (fun hg9 => ?_) fun hg9 => ?_))))))))))))))
  · refine zI rfl ?_
    refine zM rfl (zI rfl (zN rfl (zI rfl (zF fl_168_6 rfl (zI rfl (wl (y_load pl_46 rfl (hS.c (v := .slice oa m.opn.length oc))) rfl (zI rfl (wl (y_len_sl Tryz.underlying46 rfl) rfl (zI rfl (wl (y_eql rfl rfl) rfl (wl (y_pickT rfl rfl) rfl (zA rfl (zE (zV (z1 rfl ?_)))))))))))))))
    exact ⟨congrArg Value.bool (fin _ (by first | (rw [decide_eq_true_iff]; omega) | (simp only [Bool.false_eq_true, false_iff]; omega))), hS.keep⟩
  refine zO rfl ?_
  refine zO rfl (zO rfl (zO rfl (zO rfl (zO rfl (wl (y_pickF rfl rfl) rfl (zA rfl (zE (zV (z1 rfl ?_)))))))))
  exact ⟨congrArg Value.bool (fin _ (by first | (rw [decide_eq_true_iff]; omega) | (simp only [Bool.false_eq_true, false_iff]; omega))), hS.keep⟩
theorem cseen_c {p jp : Nat} {m : Cli} {H : Chunk} (hl : m.known.length + m.pending.length ≤ 137438953472) (hb : IsC M p jp m H) (hS : St M w (H :: Ls)) :
    CallsR Tryz.prog 144 [.pointer (some ⟨p, 0, none⟩)].toArray w fun v w' => ∃ ys H', Own 48 encRV v ys H' ∧ Rvs M ys (m.known ++ m.pending) ∧ St M w' (H' :: H :: Ls) := by
  obtain ⟨xs, sk, Hk, ys, sp, Hp, so, h1, h2, h3, h4, h5, rfl⟩ := hb
  replace hS := hS.un2
  have e2 := h2.len
  have e4 := h4.len
  refine zC 14 Tryz.func144 rfl (zQ (zR (zA rfl (zE (zQ (zW hS (fun w => w.cell? ⟨p, 4, none⟩ = some sk ∧ w.cell? ⟨p, 5, none⟩ = some sp) [11] wide_ rfl fun w hS => zPm 1 2 rfl (zPn 2 6 rfl (zPf 3 14 fl_168_4 rfl (zPm 6 78 rfl (zPn 7 206 rfl (zPf 8 462 fl_168_5 rfl (zD 4 478 rfl ⟨hS.c, hS.c⟩ (fun w hS => y_load pl_32 rfl hS.1) (zD 9 990 rfl ⟨hS.c, hS.c⟩ (fun w hS => y_load pl_32 rfl hS.2) (zU 0 991 rfl (a_bslice encRV [] (vs := []) (ps := []) Tryz.underlying32 sz_48 z_48 rfl .nil rfl rfl rfl (by decide) hS rfl fun u Hu w hou hS => zE ⟨fun _ _ => ⟨hS.c, hS.c⟩, zU 5 1023 rfl (a_append Tryz.underlying32 Tryz.underlying32 sz_48 z_48 rfl by_48 (by decide) rfl rfl hou (h1.holds (hS.pull Hk)) hS (by simp; omega) rfl fun s1 H1 w ho1 hS => ?_)⟩)))))))))))))))
  rw [List.nil_append] at ho1
  refine zE ⟨fun _ _ => ⟨hS.c, hS.c⟩, zU 10 2047 rfl (a_append Tryz.underlying32 Tryz.underlying32 sz_48 z_48 rfl by_48 (by decide) rfl rfl ho1 (h3.holds (hS.pull Hp)) hS (by omega) rfl fun s2 H2 w ho2 hS => zE ⟨fun _ _ => ⟨hS.c, hS.c⟩, zPa 11 4095 rfl (zH (zV (z1 rfl ?_)))⟩)⟩
  exact ⟨_, _, ho2, h2.append h4, hS.keep⟩
end
end Go.Proofs.YtndahppmjdbifaaGreatDoor.Cli
set_option linter.unusedVariables false
set_option linter.unusedSimpArgs false
namespace Go.Proofs.YtndahppmjdbifaaGreatDoor.Cli
open Go Go.Proofs Eng Pre Val Rou Jnl Snd
section
variable {M : Mem} {w : World} {Ls : List Chunk}
theorem cupd_c (hG : Bits M) (u : Upd) {p jp : Nat} {m : Cli} {H : Chunk} (hmt : 0 ≤ m.mtu ∧ m.mtu ≤ 1400) (hl : m.opn.length ≤ 13743895) (hb : IsC M p jp m H) (hS : St M w (H :: Ls)) :
    CallsR Tryz.prog 88 [.pointer (some ⟨p, 0, none⟩), uv u].toArray w fun v w' => ∃ M' H', Mle M M' ∧ v = .int .i64 (m.updE u) ∧ IsC M' p jp (m.upd u) H' ∧ St M' w' (H' :: Ls) := by
  have hb0 := hb
  obtain ⟨xs, sk, Hk, ys, sp, Hp, so, h1, h2, h3, h4, h5, rfl⟩ := hb
  replace hS := hS.un2
  obtain ⟨oa, oc, rfl⟩ := (h5.holds hS).slice
  refine zC 40 Tryz.func88 rfl (zQ (zR (a_box rfl hS rfl fun b3 w hS => zA rfl (zE (zQ (zQ (zR (wl ((y_loadS st_59 sz_59 rfl (vs := encU.f u) (hS.cells rfl) rfl).val (show _ = uv u from rfl)) rfl (wl_call (.cons rfl .nil) (may_c u hS) rfl ?_)))))))))
  rintro _ w ⟨rfl, hS⟩
  refine zA rfl (zE (zQ (zR (zM rfl (wl (y_neq rfl rfl) rfl (zE (zIf rfl (fun hc10 => ?_) fun hc10 => ?_)))))))
  · have he : m.updE u = mayU u := by unfold Cli.updE; rw [if_pos (by omega)]
    have hq : m.upd u = m := by unfold Cli.upd; rw [if_neg (by omega)]
    rw [he, hq]
    refine zQ (zR (zM rfl (zA rfl (zE (zV (z1 rfl ?_))))))
    first
    | exact ⟨M, _, Mle.refl _, rfl, hb0, hS.keep⟩
    | exact ⟨M1, _, hM1, rfl, hb0.mono hM1, hS.keep⟩
    | exact ⟨M2, _, hM1.trans hM2, rfl, hb0.mono (hM1.trans hM2), hS.keep⟩
    | (simp only [zL, cells_agg, setCells] at hS
       exact ⟨M2, _, hM1.trans hM2, rfl, ⟨xs, sk, Hk, ys, sp, Hp, _, h1, h2.mono (hM1.trans hM2), h3, h4.mono (hM1.trans hM2), hr5, rfl⟩, hS.keep⟩)
  have hm0 : mayU u = 0 := by omega
  refine zK (zQ (zQ (zW hS (fun w => CellsAt w b3 0 (encU.f u) ∧ w.cell? ⟨p, 2, none⟩ = some (.int .i64 m.mtu)) [6] wide_ rfl fun w hS => zPm 2 4 rfl (zPn 3 12 rfl (zPf 4 28 fl_168_2 rfl (zD 0 29 rfl ⟨hS.cells rfl, hS.c⟩ (fun w hS => (y_loadS st_59 sz_59 rfl hS.1 rfl).val (show _ = uv u from rfl)) (zD 5 61 rfl ⟨hS.cells rfl, hS.c⟩ (fun w hS => y_load pl_3 rfl hS.2) (zU 1 63 rfl (a_bslice encU [u] Tryz.underlying46 sz_59 z_59 rfl (.cons rfl .nil) rfl rfl rfl (by decide) hS rfl fun u1 Hu w hou hS => ?_)))))))))
  obtain ⟨M1, hM1, hHu, hS⟩ := hS.freeze
  have hru := hou.rd hHu
  obtain ⟨ua, uc, rfl⟩ := (hru.holds hS).slice
  refine zE ⟨fun _ _ => ⟨hS.cells rfl, hS.c⟩, zU 6 127 rfl (wl_call (.cons rfl (.cons rfl .nil)) (fits_c (hG.mono hM1) [u] m.mtu _ (by omega) hru hS) rfl ?_)⟩
  rintro _ w ⟨rfl, hS⟩
  refine zE ⟨fun _ _ => ⟨hS.cells rfl, hS.c⟩, zP 7 255 rfl (fun w => y_not rfl) (zH (zIf rfl (fun hc19 => ?_) fun hc19 => ?_))⟩
  · have he : m.updE u = 3 := by unfold Cli.updE; rw [if_neg (by omega), if_pos (by simpa using hc19)]
    have hq : m.upd u = m := by unfold Cli.upd; rw [if_neg (by omega)]
    rw [he, hq]
    refine zQ (zR (zA rfl (zE (zV (z1 rfl ?_)))))
    first
    | exact ⟨M, _, Mle.refl _, rfl, hb0, hS.keep⟩
    | exact ⟨M1, _, hM1, rfl, hb0.mono hM1, hS.keep⟩
    | exact ⟨M2, _, hM1.trans hM2, rfl, hb0.mono (hM1.trans hM2), hS.keep⟩
    | (simp only [zL, cells_agg, setCells] at hS
       exact ⟨M2, _, hM1.trans hM2, rfl, ⟨xs, sk, Hk, ys, sp, Hp, _, h1, h2.mono (hM1.trans hM2), h3, h4.mono (hM1.trans hM2), hr5, rfl⟩, hS.keep⟩)
  refine zK ?_
  refine zQ (zW hS (fun w => w.cell? ⟨p, 6, none⟩ = some (.slice oa m.opn.length oc) ∧ CellsAt w b3 0 (encU.f u)) [9] wide_ rfl fun w hS => zPm 1 2 rfl (zPn 2 6 rfl (zPf 3 14 fl_168_6 rfl (zD 4 30 rfl ⟨hS.c, hS.cells rfl⟩ (fun w hS => y_load pl_46 rfl hS.1) (zD 6 94 rfl ⟨hS.c, hS.cells rfl⟩ (fun w hS => (y_loadS st_59 sz_59 rfl hS.2 rfl).val (show _ = uv u from rfl)) (dr_do2 (i := 0) (j := 7) (lb 10 95) (lb 10 222) rfl rfl (by kernel_rfl) ?_ ?_))))))
  · refine a_bslice encU [] (vs := []) (ps := []) Tryz.underlying46 sz_59 z_59 rfl .nil rfl rfl rfl (by decide) hS rfl fun u2 H2 w ho2 hS => ?_
    refine zE ⟨fun _ _ => ⟨hS.c, hS.cells rfl⟩, dr_do2 (i := 5) (j := 7) (lb 10 127) (lb 10 223) rfl rfl (by kernel_rfl) ?_ ?_⟩
    · refine a_append Tryz.underlying46 Tryz.underlying46 sz_59 z_59 rfl by_59 (by decide) rfl rfl ho2 ((h5.mono hM1).holds hS) hS (by simp; omega) rfl fun s3 H3 w ho3 hS => ?_
      rw [List.nil_append] at ho3
      refine zE ⟨fun _ _ => ⟨hS.c, hS.cells rfl⟩, zU 7 255 rfl (a_bslice encU [u] Tryz.underlying46 sz_59 z_59 rfl (.cons rfl .nil) rfl rfl rfl (by decide) hS rfl fun u4 H4 w ho4 hS => zE ⟨fun _ _ => ⟨hS.c, hS.cells rfl⟩, zU 8 511 rfl (a_append Tryz.underlying46 Tryz.underlying46 sz_59 z_59 rfl by_59 (by decide) rfl rfl ho3 (ho4.holds (hS.pull H4)) hS (by simp; omega) rfl fun s5 H5 w ho5 hS => zE ⟨fun _ _ => ⟨hS.c, hS.cells rfl⟩, zPa 9 1023 rfl (zH ?_)⟩)⟩)⟩
      obtain ⟨M2, hM2, hH5, hS⟩ := hS.freeze
      have hr5 := ho5.rd hH5
      obtain ⟨ma, mc, rfl⟩ := (hr5.holds hS).slice
      refine zQ (zQ (zR (zM rfl (zM rfl (zN rfl (zF fl_168_2 rfl (wl (y_load pl_3 rfl (hS.c (v := .int .i64 m.mtu))) rfl (wl_call (.cons rfl (.cons rfl .nil)) (fits_c ((hG.mono hM1).mono hM2) (m.opn ++ [u]) m.mtu _ (by omega) hr5 hS) rfl ?_))))))))
      rintro _ w ⟨rfl, hS⟩
      refine wl (y_not rfl) rfl (zE (zIf rfl (fun hc35 => ?_) fun hc35 => ?_))
      · have he : m.updE u = 7 := by unfold Cli.updE; rw [if_neg (by omega), if_neg (by simpa using hc19), if_pos (by simpa using hc35)]
        have hq : m.upd u = m := by unfold Cli.upd; rw [if_neg (by omega)]
        rw [he, hq]
        refine zQ (zR (zA rfl (zE (zV (z1 rfl ?_)))))
        first
        | exact ⟨M, _, Mle.refl _, rfl, hb0, hS.keep⟩
        | exact ⟨M1, _, hM1, rfl, hb0.mono hM1, hS.keep⟩
        | exact ⟨M2, _, hM1.trans hM2, rfl, hb0.mono (hM1.trans hM2), hS.keep⟩
        | (simp only [zL, cells_agg, setCells] at hS
           exact ⟨M2, _, hM1.trans hM2, rfl, ⟨xs, sk, Hk, ys, sp, Hp, _, h1, h2.mono (hM1.trans hM2), h3, h4.mono (hM1.trans hM2), hr5, rfl⟩, hS.keep⟩)
      have he : m.updE u = 0 := by unfold Cli.updE; rw [if_neg (by omega), if_neg (by simpa using hc19), if_neg (by simpa using hc35)]
      have hq : m.upd u = { m with opn := m.opn ++ [u] } := by unfold Cli.upd; rw [if_pos he]
      rw [he, hq]
      refine zK (zQ (zR (zM rfl (zM rfl (zN rfl (zF fl_168_6 rfl (zS sz_46 rfl hS fun w hS => zE (zQ (zR (zA rfl (zE (zV (z1 rfl ?_)))))))))))))
      first
      | exact ⟨M, _, Mle.refl _, rfl, hb0, hS.keep⟩
      | exact ⟨M1, _, hM1, rfl, hb0.mono hM1, hS.keep⟩
      | exact ⟨M2, _, hM1.trans hM2, rfl, hb0.mono (hM1.trans hM2), hS.keep⟩
      | (simp only [zL, cells_agg, setCells] at hS
         exact ⟨M2, _, hM1.trans hM2, rfl, ⟨xs, sk, Hk, ys, sp, Hp, _, h1, h2.mono (hM1.trans hM2), h3, h4.mono (hM1.trans hM2), hr5, rfl⟩, hS.keep⟩)
    refine a_bslice encU [u] Tryz.underlying46 sz_59 z_59 rfl (.cons rfl .nil) rfl rfl rfl (by decide) hS rfl fun u4 H4 w ho4 hS => ?_
    refine zE ⟨fun _ _ => ⟨hS.c, hS.cells rfl⟩, zU 5 255 rfl (a_append Tryz.underlying46 Tryz.underlying46 sz_59 z_59 rfl by_59 (by decide) rfl rfl ho2 ((h5.mono hM1).holds hS) hS (by simp; omega) rfl fun s3 H3 w ho3 hS => ?_)⟩
    rw [List.nil_append] at ho3
    refine zE ⟨fun _ _ => ⟨hS.c, hS.cells rfl⟩, zU 8 511 rfl (a_append Tryz.underlying46 Tryz.underlying46 sz_59 z_59 rfl by_59 (by decide) rfl rfl ho3 (ho4.holds (hS.pull H4)) hS (by simp; omega) rfl fun s5 H5 w ho5 hS => zE ⟨fun _ _ => ⟨hS.c, hS.cells rfl⟩, zPa 9 1023 rfl (zH ?_)⟩)⟩
    obtain ⟨M2, hM2, hH5, hS⟩ := hS.freeze
    have hr5 := ho5.rd hH5
    obtain ⟨ma, mc, rfl⟩ := (hr5.holds hS).slice
    refine zQ (zQ (zR (zM rfl (zM rfl (zN rfl (zF fl_168_2 rfl (wl (y_load pl_3 rfl (hS.c (v := .int .i64 m.mtu))) rfl (wl_call (.cons rfl (.cons rfl .nil)) (fits_c ((hG.mono hM1).mono hM2) (m.opn ++ [u]) m.mtu _ (by omega) hr5 hS) rfl ?_))))))))
    rintro _ w ⟨rfl, hS⟩
    refine wl (y_not rfl) rfl (zE (zIf rfl (fun hc35 => ?_) fun hc35 => ?_))
    · have he : m.updE u = 7 := by unfold Cli.updE; rw [if_neg (by omega), if_neg (by simpa using hc19), if_pos (by simpa using hc35)]
      have hq : m.upd u = m := by unfold Cli.upd; rw [if_neg (by omega)]
      rw [he, hq]
      refine zQ (zR (zA rfl (zE (zV (z1 rfl ?_)))))
      first
      | exact ⟨M, _, Mle.refl _, rfl, hb0, hS.keep⟩
      | exact ⟨M1, _, hM1, rfl, hb0.mono hM1, hS.keep⟩
      | exact ⟨M2, _, hM1.trans hM2, rfl, hb0.mono (hM1.trans hM2), hS.keep⟩
      | (simp only [zL, cells_agg, setCells] at hS
         exact ⟨M2, _, hM1.trans hM2, rfl, ⟨xs, sk, Hk, ys, sp, Hp, _, h1, h2.mono (hM1.trans hM2), h3, h4.mono (hM1.trans hM2), hr5, rfl⟩, hS.keep⟩)
    have he : m.updE u = 0 := by unfold Cli.updE; rw [if_neg (by omega), if_neg (by simpa using hc19), if_neg (by simpa using hc35)]
    have hq : m.upd u = { m with opn := m.opn ++ [u] } := by unfold Cli.upd; rw [if_pos he]
    rw [he, hq]
    refine zK (zQ (zR (zM rfl (zM rfl (zN rfl (zF fl_168_6 rfl (zS sz_46 rfl hS fun w hS => zE (zQ (zR (zA rfl (zE (zV (z1 rfl ?_)))))))))))))
    first
    | exact ⟨M, _, Mle.refl _, rfl, hb0, hS.keep⟩
    | exact ⟨M1, _, hM1, rfl, hb0.mono hM1, hS.keep⟩
    | exact ⟨M2, _, hM1.trans hM2, rfl, hb0.mono (hM1.trans hM2), hS.keep⟩
    | (simp only [zL, cells_agg, setCells] at hS
       exact ⟨M2, _, hM1.trans hM2, rfl, ⟨xs, sk, Hk, ys, sp, Hp, _, h1, h2.mono (hM1.trans hM2), h3, h4.mono (hM1.trans hM2), hr5, rfl⟩, hS.keep⟩)
  refine a_bslice encU [u] Tryz.underlying46 sz_59 z_59 rfl (.cons rfl .nil) rfl rfl rfl (by decide) hS rfl fun u4 H4 w ho4 hS => ?_
  refine zE ⟨fun _ _ => ⟨hS.c, hS.cells rfl⟩, zU 0 223 rfl (a_bslice encU [] (vs := []) (ps := []) Tryz.underlying46 sz_59 z_59 rfl .nil rfl rfl rfl (by decide) hS rfl fun u2 H2 w ho2 hS => zE ⟨fun _ _ => ⟨hS.c, hS.cells rfl⟩, zU 5 255 rfl (a_append Tryz.underlying46 Tryz.underlying46 sz_59 z_59 rfl by_59 (by decide) rfl rfl ho2 ((h5.mono hM1).holds hS) hS (by simp; omega) rfl fun s3 H3 w ho3 hS => ?_)⟩)⟩
  rw [List.nil_append] at ho3
  refine zE ⟨fun _ _ => ⟨hS.c, hS.cells rfl⟩, zU 8 511 rfl (a_append Tryz.underlying46 Tryz.underlying46 sz_59 z_59 rfl by_59 (by decide) rfl rfl ho3 (ho4.holds (hS.pull H4)) hS (by simp; omega) rfl fun s5 H5 w ho5 hS => zE ⟨fun _ _ => ⟨hS.c, hS.cells rfl⟩, zPa 9 1023 rfl (zH ?_)⟩)⟩
  obtain ⟨M2, hM2, hH5, hS⟩ := hS.freeze
  have hr5 := ho5.rd hH5
  obtain ⟨ma, mc, rfl⟩ := (hr5.holds hS).slice
  refine zQ (zQ (zR (zM rfl (zM rfl (zN rfl (zF fl_168_2 rfl (wl (y_load pl_3 rfl (hS.c (v := .int .i64 m.mtu))) rfl (wl_call (.cons rfl (.cons rfl .nil)) (fits_c ((hG.mono hM1).mono hM2) (m.opn ++ [u]) m.mtu _ (by omega) hr5 hS) rfl ?_))))))))
  rintro _ w ⟨rfl, hS⟩
  refine wl (y_not rfl) rfl (zE (zIf rfl (fun hc35 => ?_) fun hc35 => ?_))
  · have he : m.updE u = 7 := by unfold Cli.updE; rw [if_neg (by omega), if_neg (by simpa using hc19), if_pos (by simpa using hc35)]
    have hq : m.upd u = m := by unfold Cli.upd; rw [if_neg (by omega)]
    rw [he, hq]
    refine zQ (zR (zA rfl (zE (zV (z1 rfl ?_)))))
    first
    | exact ⟨M, _, Mle.refl _, rfl, hb0, hS.keep⟩
    | exact ⟨M1, _, hM1, rfl, hb0.mono hM1, hS.keep⟩
    | exact ⟨M2, _, hM1.trans hM2, rfl, hb0.mono (hM1.trans hM2), hS.keep⟩
    | (simp only [zL, cells_agg, setCells] at hS
       exact ⟨M2, _, hM1.trans hM2, rfl, ⟨xs, sk, Hk, ys, sp, Hp, _, h1, h2.mono (hM1.trans hM2), h3, h4.mono (hM1.trans hM2), hr5, rfl⟩, hS.keep⟩)
  have he : m.updE u = 0 := by unfold Cli.updE; rw [if_neg (by omega), if_neg (by simpa using hc19), if_neg (by simpa using hc35)]
  have hq : m.upd u = { m with opn := m.opn ++ [u] } := by unfold Cli.upd; rw [if_pos he]
  rw [he, hq]
  refine zK (zQ (zR (zM rfl (zM rfl (zN rfl (zF fl_168_6 rfl (zS sz_46 rfl hS fun w hS => zE (zQ (zR (zA rfl (zE (zV (z1 rfl ?_)))))))))))))
  first
  | exact ⟨M, _, Mle.refl _, rfl, hb0, hS.keep⟩
  | exact ⟨M1, _, hM1, rfl, hb0.mono hM1, hS.keep⟩
  | exact ⟨M2, _, hM1.trans hM2, rfl, hb0.mono (hM1.trans hM2), hS.keep⟩
  | (simp only [zL, cells_agg, setCells] at hS
     exact ⟨M2, _, hM1.trans hM2, rfl, ⟨xs, sk, Hk, ys, sp, Hp, _, h1, h2.mono (hM1.trans hM2), h3, h4.mono (hM1.trans hM2), hr5, rfl⟩, hS.keep⟩)
end
end Go.Proofs.YtndahppmjdbifaaGreatDoor.Cli
