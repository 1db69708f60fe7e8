import Derived.Test.YtipffnogkijmnaaCrcF
set_option linter.unusedVariables false
set_option linter.unusedSimpArgs false
namespace Go.Proofs.Ytipffnogkijmnaa.Bag
open Go Go.Proofs Go.Proofs.Ytipffnogkijmnaa.Eng Go.Proofs.Ytipffnogkijmnaa.Crc

structure Pkt where
  frm : Int
  to : Int
  bytes : ByteArray
deriving DecidableEq
structure Item where
  p : Pkt
  sp : Bool
deriving DecidableEq
def encP : Enc Pkt := ⟨3, fun p => [.int .i64 p.frm, .int .i64 p.to, .string p.bytes], fun _ => rfl, by simp [oneC]⟩
def encI : Enc Item := ⟨4, fun x => [.int .i64 x.p.frm, .int .i64 x.p.to, .string x.p.bytes, .bool x.sp], fun _ => rfl, by simp [oneC]⟩
def pv (p : Pkt) : Value := .agg (encP.f p).toArray
def pkt0 : Pkt := ⟨0, 0, ByteArray.empty⟩
def IsBag (p : Nat) (l : List Item) (H : Chunk) : Prop := ∃ s Hs, Own 55 encI s l Hs ∧ H = (p, .cells #[s] 50) :: Hs

section
variable {M : Mem} {w : World} {Ls : List Chunk}

theorem new_c (hS : St M w Ls) : CallsR Try.prog 18 [].toArray w fun v w' => ∃ p H, v = .pointer (some ⟨p, 0, none⟩) ∧ IsBag p [] H ∧ St M w' (H :: Ls) := by
  refine calls_of (c := _) (rs := _) (n := 3) Try.func18 rfl rfl rfl rfl rfl ?_
  refine wc_seq ?_
  -- region 0
  refine wc_region ?_
  refine wl (y_assign rfl) rfl ?_
  refine wl_nil ?_
  refine wc_seq ?_
  -- region 1
  refine wc_region ?_
  refine wl (y_build (is := []) (xs := []) (out := [_]) plc_50 z_50 .nil rfl) rfl ?_
  refine a_box rfl hS rfl fun b2 w hS => ?_
  refine wl (y_assign rfl) rfl ?_
  refine wl_nil ?_
  refine wc_ret ?_
  refine wret (vs := [_]) (.tmp rfl .nil) ?_
  exact ⟨_, _, rfl, ⟨_, _, .nil, rfl⟩, hS⟩

theorem len_c {p : Nat} {l : List Item} {H : Chunk} (hb : IsBag p l H) (hS : St M w (H :: Ls)) :
    CallsR Try.prog 28 [.pointer (some ⟨p, 0, none⟩)].toArray w fun v w' => v = .int .i64 l.length ∧ St M w' (H :: Ls) := by
  obtain ⟨s, Hs, ho, rfl⟩ := hb
  obtain ⟨sa, sc, rfl⟩ := ho.slice
  refine calls_of (c := _) (rs := _) (n := 8) Try.func28 rfl rfl rfl rfl rfl ?_
  refine wc_seq ?_
  -- region 0
  refine wc_region ?_
  refine wl (y_assign rfl) rfl ?_
  refine wl_nil ?_
  refine wc_seq ?_
  -- region 1
  refine wc_region ?_
  refine wl (y_move rfl) rfl ?_
  refine wl (y_nil rfl) rfl ?_
  refine wl (y_fld fl_50_0 rfl) rfl ?_
  refine wl (y_load pl_48 rfl (hS.cell rfl)) rfl ?_
  refine wl (y_len_sl Try.underlying48 rfl) rfl ?_
  refine wl (y_assign rfl) rfl ?_
  refine wl_nil ?_
  refine wc_ret ?_
  refine wret (vs := [_]) (.tmp rfl .nil) ?_
  exact ⟨rfl, hS⟩

theorem there_c {p : Nat} {l : List Item} {H : Chunk} (i : Int) (hb : IsBag p l H) (hS : St M w (H :: Ls)) :
    CallsR Try.prog 29 [.pointer (some ⟨p, 0, none⟩), .int .i64 i].toArray w fun v w' => v = .bool (decide (0 ≤ i ∧ i < l.length)) ∧ St M w' (H :: Ls) := by
  obtain ⟨s, Hs, ho, rfl⟩ := hb
  obtain ⟨sa, sc, rfl⟩ := ho.slice
  refine calls_of (c := _) (rs := _) (n := 16) Try.func29 rfl rfl rfl rfl rfl ?_
  refine wc_seq ?_
  -- region 0
  refine wc_region ?_
  refine wl (y_assign rfl) rfl ?_
  refine wl_nil ?_
  refine wc_seq ?_
  -- region 1
  refine wc_region ?_
  refine wl (y_move rfl) rfl ?_
  refine wl (y_geq rfl rfl) rfl ?_
  refine wl (y_move rfl) rfl ?_
  refine wl_cases (s := 7) rfl (fun hg7 => ?_) (fun hg7 => ?_)
  · try simp only [decide_eq_true_eq, decide_eq_false_iff_not, Bool.not_eq_true', Bool.not_eq_false', Bool.not_true, Bool.not_false, Bool.not_eq_eq_eq_not] at hg7
    refine wl_on rfl rfl ?_
    refine wl (y_move rfl) rfl ?_
    refine wl_on rfl rfl ?_
    refine wl (y_move rfl) rfl ?_
    refine wl_on rfl rfl ?_
    refine wl (y_nil rfl) rfl ?_
    refine wl_on rfl rfl ?_
    refine wl (y_fld fl_50_0 rfl) rfl ?_
    refine wl_on rfl rfl ?_
    refine wl (y_load pl_48 rfl (hS.cell rfl)) rfl ?_
    refine wl_on rfl rfl ?_
    refine wl (y_len_sl Try.underlying48 rfl) rfl ?_
    refine wl_on rfl rfl ?_
    refine wl (y_lss rfl rfl) rfl ?_
    refine wl (y_pickT rfl rfl) rfl ?_
    refine wl (y_assign rfl) rfl ?_
    refine wl_nil ?_
    refine wc_ret ?_
    refine wret (vs := [_]) (.tmp rfl .nil) ?_
    first
    | exact ⟨congrArg Value.bool (decide_eq_decide.2 ⟨fun h => ⟨by omega, h⟩, fun h => h.2⟩), hS⟩
    | exact ⟨congrArg Value.bool (decide_eq_false (fun h => by omega)).symm, hS⟩
  · try simp only [decide_eq_true_eq, decide_eq_false_iff_not, Bool.not_eq_true', Bool.not_eq_false', Bool.not_true, Bool.not_false, Bool.not_eq_eq_eq_not] at hg7
    refine wl_off rfl rfl rfl rfl ?_
    refine wl_off rfl rfl rfl rfl ?_
    refine wl_off rfl rfl rfl rfl ?_
    refine wl_off rfl rfl rfl rfl ?_
    refine wl_off rfl rfl rfl rfl ?_
    refine wl_off rfl rfl rfl rfl ?_
    refine wl_off rfl rfl rfl rfl ?_
    refine wl (y_pickF rfl rfl) rfl ?_
    refine wl (y_assign rfl) rfl ?_
    refine wl_nil ?_
    refine wc_ret ?_
    refine wret (vs := [_]) (.tmp rfl .nil) ?_
    first
    | exact ⟨congrArg Value.bool (decide_eq_decide.2 ⟨fun h => ⟨by omega, h⟩, fun h => h.2⟩), hS⟩
    | exact ⟨congrArg Value.bool (decide_eq_false (fun h => by omega)).symm, hS⟩

theorem at_c {p : Nat} {l : List Item} {H : Chunk} (i : Int) (hb : IsBag p l H) (hS : St M w (H :: Ls)) :
    CallsR Try.prog 22 [.pointer (some ⟨p, 0, none⟩), .int .i64 i].toArray w fun v w' => (∀ x, 0 ≤ i → l[i.toNat]? = some x → v = .tuple [pv x.p, .bool true].toArray) ∧ (¬ (0 ≤ i ∧ i < l.length) → v = .tuple [pv pkt0, .bool false].toArray) ∧ St M w' (H :: Ls) := by
  have hb0 := hb
  obtain ⟨s, Hs, ho, rfl⟩ := hb
  obtain ⟨sa, sc, rfl⟩ := ho.slice
  refine calls_of (c := _) (rs := _) (n := 19) Try.func22 rfl rfl rfl rfl rfl ?_
  refine wc_seq ?_
  -- region 0
  refine wc_region ?_
  refine a_alloc z_39 hS rfl fun b4 w hS => ?_
  refine wl (y_assign rfl) rfl ?_
  refine wl_nil ?_
  refine wc_seq ?_
  refine wc_seq ?_
  -- region 1
  refine wc_region ?_
  refine wl (y_move rfl) rfl ?_
  refine wl (y_move rfl) rfl ?_
  refine wl_call (.cons rfl (.cons rfl .nil)) (there_c i hb0 (hS.pull _)) rfl ?_
  rintro _ w ⟨rfl, hS⟩
  refine wl (y_not rfl) rfl ?_
  refine wl_nil ?_
  refine wc_if rfl (fun hc9 => ?_) (fun hc9 => ?_)
  · try simp only [decide_eq_true_eq, decide_eq_false_iff_not, Bool.not_eq_true', Bool.not_eq_false', Bool.not_true, Bool.not_false, Bool.not_eq_eq_eq_not] at hc9
    refine wc_seq ?_
    -- region 2
    refine wc_region ?_
    refine wl (y_build (is := []) (xs := []) (out := [_, _, _]) plc_39 z_39 .nil rfl) rfl ?_
    refine a_storeS (vs := [_, _, _]) sz_39 rfl rfl rfl rfl hS (Nat.le_of_ble_eq_true rfl) fun w hS => ?_
    refine wl (y_assign rfl) rfl ?_
    refine wl_nil ?_
    refine wc_ret ?_
    refine wret (vs := [_, _]) (.cell rfl (loadVar_struct st_39 sz_39 (vs := [_, _, _]) rfl (hS.cells rfl)) (.tmp rfl .nil)) ?_
    first
    | exact ⟨fun x' h0 hx' => by (have hx2 : l[k]? = some x' := hx'; rw [hx] at hx2; cases hx2; rfl), fun h => absurd hi h, hS.keep⟩
    | exact ⟨fun x' h0 hx' => absurd ⟨h0, (by have := (List.getElem?_eq_some_iff.1 hx').1; omega)⟩ hc9, fun h => rfl, hS.keep⟩
  · try simp only [decide_eq_true_eq, decide_eq_false_iff_not, Bool.not_eq_true', Bool.not_eq_false', Bool.not_true, Bool.not_false, Bool.not_eq_eq_eq_not] at hc9
    have hi : 0 ≤ i ∧ i < (l.length : Int) := by simpa using hc9
    obtain ⟨k, rfl⟩ : ∃ k : Nat, i = k := ⟨i.toNat, by omega⟩
    have hk : k < l.length := by omega
    obtain ⟨x, hx⟩ : ∃ x, l[k]? = some x := ⟨_, List.getElem?_eq_getElem hk⟩
    obtain ⟨bb, off, cap, hs⟩ := ho.expose (by omega)
    simp only [Value.slice.injEq] at hs
    obtain ⟨rfl, _, rfl⟩ := hs
    have hce := (ho.holds (hS.pull Hs)).cells hx
    refine wc_skip ?_
    refine wc_seq ?_
    -- region 3
    refine wc_region ?_
    refine wl (y_move rfl) rfl ?_
    refine wl (y_nil rfl) rfl ?_
    refine wl (y_fld fl_50_0 rfl) rfl ?_
    refine wl (y_load pl_48 rfl (hS.cell rfl)) rfl ?_
    refine wl (y_move rfl) rfl ?_
    refine wl (y_ixa_sl Try.underlying48 sz_55 rfl rfl (by omega) (by omega)) rfl ?_
    refine wl (y_fld fl_55_0 rfl) rfl ?_
    refine wl (y_loadS st_39 sz_39 rfl (vs := encP.f x.p) (CellsAt.sub hce rfl) rfl) rfl ?_
    refine a_storeS (vs := [_, _, _]) sz_39 rfl rfl rfl rfl hS (Nat.le_of_ble_eq_true rfl) fun w hS => ?_
    refine wl (y_assign rfl) rfl ?_
    refine wl_nil ?_
    refine wc_ret ?_
    refine wret (vs := [_, _]) (.cell rfl (loadVar_struct st_39 sz_39 (vs := [_, _, _]) rfl (hS.cells rfl)) (.tmp rfl .nil)) ?_
    first
    | exact ⟨fun x' h0 hx' => by (have hx2 : l[k]? = some x' := hx'; rw [hx] at hx2; cases hx2; rfl), fun h => absurd hi h, hS.keep⟩
    | exact ⟨fun x' h0 hx' => absurd ⟨h0, (by have := (List.getElem?_eq_some_iff.1 hx').1; omega)⟩ hc9, fun h => rfl, hS.keep⟩

/-! ### Take -/
theorem delete_c {H : Chunk} {s : Value} {l : List Item} (i : Nat) (ho : Own 55 encI s l H) (hi : i < l.length) (hl : l.length ≤ 140737488351232) (hS : St M w (H :: Ls)) :
    CallsR Try.prog 32 [s, .int .i64 i, .int .i64 (i + 1)].toArray w fun v w' => ∃ H', Own 55 encI v (l.eraseIdx i) H' ∧ St M w' (H' :: Ls) := by
  obtain ⟨bb, off, cap, rfl⟩ := ho.expose (by omega)
  obtain ⟨_, hcap⟩ := ho.cap
  refine calls_of (c := _) (rs := _) (n := 33) Try.func32 rfl rfl rfl rfl rfl ?_
  refine wc_seq ?_
  -- region 0
  refine wc_region ?_
  refine wl (y_assign rfl) rfl ?_
  refine wl_nil ?_
  refine wc_seq ?_
  -- region 1
  refine wc_region ?_
  refine wl (y_move rfl) rfl ?_
  refine wl (y_move rfl) rfl ?_
  refine wl (y_move rfl) rfl ?_
  refine wl (y_move rfl) rfl ?_
  refine wl (y_len_sl Try.underlying48 rfl) rfl ?_
  refine wl (y_sl (lv := i) (hv := i + 1) (mv := l.length) Try.underlying48 sz_55 rfl ⟨_, _, rfl, by omega, by omega, by omega⟩ ⟨_, _, rfl, by omega, by omega, by omega⟩ ⟨_, _, rfl, by omega, by omega, by omega⟩) rfl ?_
  refine wl_nil ?_
  refine wc_seq ?_
  refine wc_seq ?_
  -- region 2
  refine wc_region ?_
  refine wl (y_move rfl) rfl ?_
  refine wl (y_move rfl) rfl ?_
  refine wl ((y_eql rfl rfl).val (u := .bool false) (congrArg Value.bool (decide_eq_false (by omega)))) rfl ?_
  refine wl_nil ?_
  refine wc_ifF rfl rfl ?_
  refine wc_skip ?_
  refine wc_seq ?_
  -- region 4
  refine wc_region ?_
  refine wl (y_move rfl) rfl ?_
  refine wl (y_len_sl Try.underlying48 rfl) rfl ?_
  refine wl (y_assign rfl) rfl ?_
  refine wl_nil ?_
  refine wc_seq ?_
  -- region 5
  refine wc_draw (l0 := #[false, false, false, false, false, false, false, false]) (fun _ => True) [6] wide_ rfl rfl fun w hw => ?_
  replace hS := hS.same hw; clear hw
  refine dr_pure (i := 0) #[true, false, false, false, false, false, false, false] rfl rfl (by kernel_rfl) (fun w => y_move rfl) ?_
  refine dr_pure (i := 1) #[true, true, false, false, false, false, false, false] rfl rfl (by kernel_rfl) (fun w => y_move rfl) ?_
  refine dr_pure (i := 2) #[true, true, true, false, false, false, false, false] rfl rfl (by kernel_rfl) (fun w => y_slTo (hv := i) Try.underlying48 sz_55 rfl rfl (by omega) (by omega) (by omega)) ?_
  refine dr_pure (i := 3) #[true, true, true, true, false, false, false, false] rfl rfl (by kernel_rfl) (fun w => y_move rfl) ?_
  refine dr_pure (i := 4) #[true, true, true, true, true, false, false, false] rfl rfl (by kernel_rfl) (fun w => y_move rfl) ?_
  refine dr_pure (i := 5) #[true, true, true, true, true, true, false, false] rfl rfl (by kernel_rfl) (fun w => y_slFrom (lv := i + 1) Try.underlying48 sz_55 rfl rfl (by omega) (by omega) (by omega)) ?_
  refine dr_do (i := 6) #[true, true, true, true, true, true, true, false] rfl (by kernel_rfl) ?_
  have htl : (l.take i).length = i := by rw [List.length_take]; omega
  have hdl : (l.drop (i + 1)).length = l.length - (i + 1) := List.length_drop
  have hot := ho.take (k := i) (by omega)
  have hhd := (ho.holds hS).cut (lo := i + 1) (by omega) hcap
  refine a_append_in Try.underlying48 Try.underlying48 sz_55 rfl rfl hot hhd hS (by omega) rfl fun H1 w ho1 hS => ?_
  rw [← List.eraseIdx_eq_take_drop_succ] at ho1
  have hm : i + (l.drop (i + 1)).length = l.length - 1 := by omega
  rw [hm] at ho1 ⊢
  refine wl_nil ⟨fun _ _ => trivial, ?_⟩
  refine dr_pure (i := 7) #[true, true, true, true, true, true, true, true] rfl rfl (by kernel_rfl) (fun w => y_assign rfl) ?_
  refine dr_done (by kernel_rfl) ?_
  refine wc_seq ?_
  -- region 6
  refine wc_region ?_
  refine wl (y_move rfl) rfl ?_
  refine wl (y_move rfl) rfl ?_
  refine wl (y_len_sl Try.underlying48 rfl) rfl ?_
  refine wl (y_move rfl) rfl ?_
  refine wl (y_slPart (lv := l.length - 1) (hv := l.length) Try.underlying48 sz_55 rfl rfl rfl (by omega) (by omega) (by omega) (by omega) (by omega) (by omega)) rfl ?_
  rw [cutV_lt (by omega)]
  refine a_clear_spare Try.underlying48 z_55 rfl (by simp [Value.cells, oneC]) rfl ho1 (by omega) hS fun H2 w ho2 hS => ?_
  refine wl_nil ?_
  refine wc_seq ?_
  -- region 7
  refine wc_region ?_
  refine wl (y_move rfl) rfl ?_
  refine wl (y_assign rfl) rfl ?_
  refine wl_nil ?_
  refine wc_ret ?_
  refine wret (vs := [_]) (.tmp rfl .nil) ?_
  exact ⟨_, ho2, hS⟩

def atO (l : List Item) (i : Int) : Option Item := if 0 ≤ i then l[i.toNat]? else none
def atP (l : List Item) (i : Int) : Pkt := ((atO l i).map (·.p)).getD pkt0
def atB (l : List Item) (i : Int) : Bool := (atO l i).isSome
def atV (l : List Item) (i : Int) : Value := .tuple [pv (atP l i), .bool (atB l i)].toArray
theorem atO_nat {l : List Item} {k : Nat} : atO l (k : Int) = l[k]? := by unfold atO; rw [if_pos (by omega)]; rfl
theorem atB_iff {l : List Item} {i : Int} : atB l i = true ↔ 0 ≤ i ∧ i < l.length := by
  unfold atB atO
  by_cases h : 0 ≤ i
  · rw [if_pos h]
    cases hx : l[i.toNat]? with
    | some x => have := (List.getElem?_eq_some_iff.1 hx).1; simp; omega
    | none => rw [List.getElem?_eq_none_iff] at hx; simp; omega
  · rw [if_neg h]; simp [h]
theorem at_c' {p : Nat} {l : List Item} {H : Chunk} (i : Int) (hb : IsBag p l H) (hS : St M w (H :: Ls)) :
    CallsR Try.prog 22 [.pointer (some ⟨p, 0, none⟩), .int .i64 i].toArray w fun v w' => v = atV l i ∧ St M w' (H :: Ls) :=
  (at_c i hb hS).mono fun v w' ⟨h1, h2, h3⟩ => ⟨by
    unfold atV atP atB atO
    by_cases h0 : 0 ≤ i
    · rw [if_pos h0]
      cases hx : l[i.toNat]? with
      | some x => exact h1 x h0 hx
      | none => exact h2 (by rintro ⟨_, h⟩; rw [List.getElem?_eq_none_iff] at hx; omega)
    · rw [if_neg h0]; exact h2 (fun h => h0 h.1), h3⟩
def takeL (l : List Item) (i : Int) : List Item := if 0 ≤ i then l.eraseIdx i.toNat else l
theorem take_c {p : Nat} {l : List Item} {H : Chunk} (i : Int) (hl : l.length ≤ 140737488351232) (hb : IsBag p l H) (hS : St M w (H :: Ls)) :
    CallsR Try.prog 27 [.pointer (some ⟨p, 0, none⟩), .int .i64 i].toArray w fun v w' => v = atV l i ∧ ∃ H', IsBag p (takeL l i) H' ∧ St M w' (H' :: Ls) := by
  have hb0 := hb
  obtain ⟨s, Hs, ho, rfl⟩ := hb
  obtain ⟨sa, sc, rfl⟩ := ho.slice
  refine calls_of (c := _) (rs := _) (n := 28) Try.func27 rfl rfl rfl rfl rfl ?_
  refine wc_seq ?_
  -- region 0
  refine wc_region ?_
  refine a_alloc z_39 hS rfl fun b4 w hS => ?_
  refine wl (y_assign rfl) rfl ?_
  refine wl_nil ?_
  refine wc_seq ?_
  -- region 1
  refine wc_region ?_
  refine wl (y_move rfl) rfl ?_
  refine wl (y_move rfl) rfl ?_
  refine wl_call (.cons rfl (.cons rfl .nil)) (at_c' i hb0 (hS.pull _)) rfl ?_
  rintro _ w ⟨rfl, hS⟩
  refine wl (y_move rfl) rfl ?_
  refine wl (y_extract (vs := [_, _]) rfl rfl) rfl ?_
  refine wl (y_extract (vs := [_, _]) rfl rfl) rfl ?_
  refine a_alloc z_39 hS rfl fun b6 w hS => ?_
  refine a_storeS (vs := [_, _, _]) sz_39 rfl rfl rfl rfl hS (Nat.le_of_ble_eq_true rfl) fun w hS => ?_
  refine wl (y_assign rfl) rfl ?_
  refine wl_nil ?_
  refine wc_seq ?_
  refine wc_seq ?_
  -- region 2
  refine wc_region ?_
  refine wl (y_move rfl) rfl ?_
  refine wl_nil ?_
  refine wc_if rfl (fun hc14 => ?_) (fun hc14 => ?_)
  · try simp only [decide_eq_true_eq, decide_eq_false_iff_not, Bool.not_eq_true', Bool.not_eq_false', Bool.not_true, Bool.not_false, Bool.not_eq_eq_eq_not] at hc14
    have hi := atB_iff.1 hc14
    obtain ⟨k, rfl⟩ : ∃ k : Nat, i = k := ⟨i.toNat, by omega⟩
    have hk : k < l.length := by omega
    have htk : takeL l (k : Int) = l.eraseIdx k := by unfold takeL; rw [if_pos (by omega)]; rfl
    -- region 3
    refine wc_region ?_
    refine wl (y_move rfl) rfl ?_
    refine wl (y_move rfl) rfl ?_
    refine wl (y_nil rfl) rfl ?_
    refine wl (y_fld fl_50_0 rfl) rfl ?_
    refine wl (y_load pl_48 rfl (hS.cell rfl)) rfl ?_
    refine wl (y_move rfl) rfl ?_
    refine wl (y_move rfl) rfl ?_
    refine wl (y_add rfl rfl (w64 (by omega) (by omega))) rfl ?_
    refine wl_call (.cons rfl (.cons rfl (.cons rfl .nil))) (delete_c k ho hk hl (hS.pull Hs)) rfl ?_
    rintro sv w ⟨H1, ho1, hS⟩
    obtain ⟨sa1, sc1, rfl⟩ := ho1.slice
    refine wl (y_nil rfl) rfl ?_
    refine wl (y_fld fl_50_0 rfl) rfl ?_
    refine a_store sz_48 rfl rfl rfl hS (Nat.le_of_ble_eq_true rfl) fun w hS => ?_
    refine wl_nil ?_
    simp only [List.setIfInBounds_toArray, List.set_cons_zero, List.set_cons_succ, Nat.zero_add, Nat.add_zero, cells_agg, setCells] at hS
    refine wc_seq ?_
    -- region 4
    refine wc_region ?_
    refine wl (y_loadS st_39 sz_39 rfl (hS.cells (vs := [_, _, _]) rfl) rfl) rfl ?_
    refine wl (y_move rfl) rfl ?_
    refine a_storeS (vs := [_, _, _]) sz_39 rfl rfl rfl rfl hS (Nat.le_of_ble_eq_true rfl) fun w hS => ?_
    refine wl (y_assign rfl) rfl ?_
    refine wl_nil ?_
    refine wc_ret ?_
    refine wret (vs := [_, _]) (.cell rfl (loadVar_struct st_39 sz_39 (vs := [_, _, _]) rfl (hS.cells rfl)) (.tmp rfl .nil)) ?_
    first
    | exact ⟨rfl, _, ⟨_, _, by rw [htk]; exact ho, rfl⟩, hS.keep⟩
    | exact ⟨rfl, _, ⟨_, _, by rw [htk]; exact ho1, rfl⟩, hS.keep⟩
  · try simp only [decide_eq_true_eq, decide_eq_false_iff_not, Bool.not_eq_true', Bool.not_eq_false', Bool.not_true, Bool.not_false, Bool.not_eq_eq_eq_not] at hc14
    have hi : ¬ (0 ≤ i ∧ i < l.length) := fun h => by rw [atB_iff.2 h] at hc14; cases hc14
    have htk : takeL l i = l := by
      unfold takeL
      split
      · exact List.eraseIdx_of_length_le (by omega)
      · rfl
    refine wc_skip ?_
    refine wc_seq ?_
    -- region 4
    refine wc_region ?_
    refine wl (y_loadS st_39 sz_39 rfl (hS.cells (vs := [_, _, _]) rfl) rfl) rfl ?_
    refine wl (y_move rfl) rfl ?_
    refine a_storeS (vs := [_, _, _]) sz_39 rfl rfl rfl rfl hS (Nat.le_of_ble_eq_true rfl) fun w hS => ?_
    refine wl (y_assign rfl) rfl ?_
    refine wl_nil ?_
    refine wc_ret ?_
    refine wret (vs := [_, _]) (.cell rfl (loadVar_struct st_39 sz_39 (vs := [_, _, _]) rfl (hS.cells rfl)) (.tmp rfl .nil)) ?_
    first
    | exact ⟨rfl, _, ⟨_, _, by rw [htk]; exact ho, rfl⟩, hS.keep⟩
    | exact ⟨rfl, _, ⟨_, _, by rw [htk]; exact ho1, rfl⟩, hS.keep⟩

/-! ### Twice -/
theorem twice_c {p : Nat} {l : List Item} {H : Chunk} (i : Int) (hl : l.length ≤ 4096) (hb : IsBag p l H) (hS : St M w (H :: Ls)) :
    CallsR Try.prog 26 [.pointer (some ⟨p, 0, none⟩), .int .i64 i].toArray w fun v w' =>
      v = .int .i64 (match atO l i with | none => 11 | some _ => if l.length = 4096 then 7 else 0) ∧ ∃ H', IsBag p (match atO l i with | none => l | some x => if l.length = 4096 then l else l ++ [x]) H' ∧ St M w' (H' :: Ls) := by
  have hb0 := hb
  obtain ⟨s, Hs, ho, rfl⟩ := hb
  obtain ⟨sa, sc, rfl⟩ := ho.slice
  refine calls_of (c := _) (rs := _) (n := 33) Try.func26 rfl rfl rfl rfl rfl ?_
  refine wc_seq ?_
  -- region 0
  refine wc_region ?_
  refine wl (y_assign rfl) rfl ?_
  refine wl_nil ?_
  refine wc_seq ?_
  refine wc_block ?_
  refine wc_seq ?_
  -- region 1
  refine wc_region ?_
  refine wl (y_move rfl) rfl ?_
  refine wl (y_move rfl) rfl ?_
  refine wl_call (.cons rfl (.cons rfl .nil)) (there_c i hb0 (hS.pull _)) rfl ?_
  rintro _ w ⟨rfl, hS⟩
  refine wl (y_not rfl) rfl ?_
  refine wl (y_assign rfl) rfl ?_
  refine wl_nil ?_
  refine wc_if rfl (fun hc5 => ?_) (fun hc5 => ?_)
  · try simp only [decide_eq_true_eq, decide_eq_false_iff_not, Bool.not_eq_true', Bool.not_eq_false', Bool.not_true, Bool.not_false, Bool.not_eq_eq_eq_not] at hc5
    have hn : atO l i = none := by
      cases hx : atO l i with
      | none => rfl
      | some x => exact absurd (atB_iff.1 (show atB l i = true by unfold atB; rw [hx]; rfl)) hc5
    rw [hn]
    refine wc_seq ?_
    -- region 2
    refine wc_region ?_
    refine wl (y_assign rfl) rfl ?_
    refine wl_nil ?_
    refine wc_ret ?_
    refine wret (vs := [_]) (.tmp rfl .nil) ?_
    first
    | exact ⟨rfl, _, hb0, hS.keep⟩
    | exact ⟨rfl, _, ⟨_, _, ho, rfl⟩, hS.keep⟩
    | exact ⟨rfl, _, ⟨_, _, ho1, rfl⟩, hS.keep⟩
  · try simp only [decide_eq_true_eq, decide_eq_false_iff_not, Bool.not_eq_true', Bool.not_eq_false', Bool.not_true, Bool.not_false, Bool.not_eq_eq_eq_not] at hc5
    obtain ⟨k, rfl⟩ : ∃ k : Nat, i = k := ⟨i.toNat, by omega⟩
    have hk : k < l.length := by omega
    obtain ⟨x, hx⟩ : ∃ x, l[k]? = some x := ⟨_, List.getElem?_eq_getElem hk⟩
    rw [atO_nat, hx]
    simp only
    obtain ⟨bb, off, cap, hs⟩ := ho.expose (by omega)
    simp only [Value.slice.injEq] at hs
    obtain ⟨rfl, _, rfl⟩ := hs
    have hce := (ho.holds (hS.pull Hs)).cells hx
    refine wc_seq ?_
    -- region 3
    refine wc_region ?_
    refine wl (y_move rfl) rfl ?_
    refine wl (y_nil rfl) rfl ?_
    refine wl (y_fld fl_50_0 rfl) rfl ?_
    refine wl (y_load pl_48 rfl (hS.cell rfl)) rfl ?_
    refine wl (y_len_sl Try.underlying48 rfl) rfl ?_
    refine wl (y_eql rfl rfl) rfl ?_
    refine wl (y_assign rfl) rfl ?_
    refine wl_nil ?_
    refine wc_if rfl (fun hc10 => ?_) (fun hc10 => ?_)
    · try simp only [decide_eq_true_eq, decide_eq_false_iff_not, Bool.not_eq_true', Bool.not_eq_false', Bool.not_true, Bool.not_false, Bool.not_eq_eq_eq_not] at hc10
      rw [if_pos (by omega)]
      rw [if_pos (by omega)]
      refine wc_seq ?_
      -- region 4
      refine wc_region ?_
      refine wl (y_assign rfl) rfl ?_
      refine wl_nil ?_
      refine wc_ret ?_
      refine wret (vs := [_]) (.tmp rfl .nil) ?_
      first
      | exact ⟨rfl, _, hb0, hS.keep⟩
      | exact ⟨rfl, _, ⟨_, _, ho, rfl⟩, hS.keep⟩
      | exact ⟨rfl, _, ⟨_, _, ho1, rfl⟩, hS.keep⟩
    · try simp only [decide_eq_true_eq, decide_eq_false_iff_not, Bool.not_eq_true', Bool.not_eq_false', Bool.not_true, Bool.not_false, Bool.not_eq_eq_eq_not] at hc10
      rw [if_neg (by omega)]
      rw [if_neg (by omega)]
      refine wc_skip ?_
      refine wc_seq ?_
      -- region 5
      refine wc_draw (l0 := #[false, false, false, false, false, false, false, false, false, false, false, false, false, false, false, false, false]) (fun w => w.cell? ⟨p, 0, none⟩ = some (.slice (some ⟨bb, off, none⟩) l.length sc) ∧ CellsAt w bb (off + k * 4) (encI.f x)) [13, 16] wide_ rfl rfl fun w hw => ?_
      replace hS := hS.same hw; clear hw
      have hce := (ho.holds (hS.pull Hs)).cells hx
      refine dr_pure (i := 0) #[true, false, false, false, false, false, false, false, false, false, false, false, false, false, false, false, false] rfl rfl (by kernel_rfl) (fun w => y_move rfl) ?_
      refine dr_pure (i := 1) #[true, true, false, false, false, false, false, false, false, false, false, false, false, false, false, false, false] rfl rfl (by kernel_rfl) (fun w => y_move rfl) ?_
      refine dr_pure (i := 2) #[true, true, true, false, false, false, false, false, false, false, false, false, false, false, false, false, false] rfl rfl (by kernel_rfl) (fun w => y_nil rfl) ?_
      refine dr_pure (i := 3) #[true, true, true, true, false, false, false, false, false, false, false, false, false, false, false, false, false] rfl rfl (by kernel_rfl) (fun w => y_fld fl_50_0 rfl) ?_
      refine dr_pure (i := 5) #[true, true, true, true, false, true, false, false, false, false, false, false, false, false, false, false, false] rfl rfl (by kernel_rfl) (fun w => y_move rfl) ?_
      refine dr_pure (i := 6) #[true, true, true, true, false, true, true, false, false, false, false, false, false, false, false, false, false] rfl rfl (by kernel_rfl) (fun w => y_nil rfl) ?_
      refine dr_pure (i := 7) #[true, true, true, true, false, true, true, true, false, false, false, false, false, false, false, false, false] rfl rfl (by kernel_rfl) (fun w => y_fld fl_50_0 rfl) ?_
      refine dr_pure (i := 9) #[true, true, true, true, false, true, true, true, false, true, false, false, false, false, false, false, false] rfl rfl (by kernel_rfl) (fun w => y_move rfl) ?_
      refine dr_read (i := 4) #[true, true, true, true, true, true, true, true, false, true, false, false, false, false, false, false, false] rfl rfl (by kernel_rfl) ⟨hS.cell rfl, hce⟩ (fun w hS => y_load pl_48 rfl hS.1) ?_
      refine dr_read (i := 8) #[true, true, true, true, true, true, true, true, true, true, false, false, false, false, false, false, false] rfl rfl (by kernel_rfl) ⟨hS.cell rfl, hce⟩ (fun w hS => y_load pl_48 rfl hS.1) ?_
      refine dr_pure (i := 10) #[true, true, true, true, true, true, true, true, true, true, true, false, false, false, false, false, false] rfl rfl (by kernel_rfl) (fun w => y_ixa_sl Try.underlying48 sz_55 rfl rfl (by omega) (by omega)) ?_
      refine dr_read (i := 11) #[true, true, true, true, true, true, true, true, true, true, true, true, false, false, false, false, false] rfl rfl (by kernel_rfl) ⟨hS.cell rfl, hce⟩ (fun w hS => y_loadS st_55 sz_55 rfl (vs := encI.f x) hS.2 rfl) ?_
      refine dr_do (i := 12) #[true, true, true, true, true, true, true, true, true, true, true, true, true, false, false, false, false] rfl (by kernel_rfl) ?_
      refine a_bslice encI [x] Try.underlying48 sz_55 z_55 rfl (.cons rfl .nil) rfl rfl rfl (by decide) hS rfl fun u Hu w hou hS => ?_
      refine wl_nil ⟨fun h _ => ⟨hS.cell rfl, (ho.holds (hS.pull Hs)).cells hx⟩, ?_⟩
      refine dr_do (i := 13) #[true, true, true, true, true, true, true, true, true, true, true, true, true, true, false, false, false] rfl (by kernel_rfl) ?_
      refine a_append Try.underlying48 Try.underlying48 sz_55 z_55 rfl by_55 (by decide) rfl rfl ho (hou.holds hS) hS (by simp; omega) rfl fun s1 H1 w ho1 hS => ?_
      obtain ⟨sa1, sc1, rfl⟩ := ho1.slice
      refine wl_nil ⟨fun h => absurd (by decide) h, ?_⟩
      refine dr_pure (i := 14) #[true, true, true, true, true, true, true, true, true, true, true, true, true, true, true, false, false] rfl rfl (by kernel_rfl) (fun w => y_nil rfl) ?_
      refine dr_pure (i := 15) #[true, true, true, true, true, true, true, true, true, true, true, true, true, true, true, true, false] rfl rfl (by kernel_rfl) (fun w => y_fld fl_50_0 rfl) ?_
      refine dr_do (i := 16) #[true, true, true, true, true, true, true, true, true, true, true, true, true, true, true, true, true] rfl (by kernel_rfl) ?_
      refine a_store sz_48 rfl rfl rfl hS (Nat.le_of_ble_eq_true rfl) fun w hS => ?_
      refine wl_nil ⟨fun h => absurd (by decide) h, ?_⟩
      refine dr_done (by kernel_rfl) ?_
      simp only [List.setIfInBounds_toArray, List.set_cons_zero, List.set_cons_succ, Nat.zero_add, Nat.add_zero, cells_agg, setCells] at hS
      refine wc_seq ?_
      -- region 6
      refine wc_region ?_
      refine wl (y_assign rfl) rfl ?_
      refine wl_nil ?_
      refine wc_ret ?_
      refine wret (vs := [_]) (.tmp rfl .nil) ?_
      first
      | exact ⟨rfl, _, hb0, hS.keep⟩
      | exact ⟨rfl, _, ⟨_, _, ho, rfl⟩, hS.keep⟩
      | exact ⟨rfl, _, ⟨_, _, ho1, rfl⟩, hS.keep⟩

/-! ### Add -/
def fresh (p : Pkt) : Item := ⟨p, false⟩
def addL (l : List Item) (xs : List Pkt) : List Item := l ++ (xs.take (4096 - l.length)).map fresh
theorem add_c {p : Nat} {l : List Item} {H : Chunk} (u : Value) (xs : List Pkt) (hl : l.length ≤ 4096) (hxl : xs.length ≤ 140737488351232) (hb : IsBag p l H) (hc : ∀ a m c, u = .slice a m c → m ≤ c) (hx : ∀ w' H', St M w' (H' :: Ls) → Holds w' encP u xs) (hS : St M w (H :: Ls)) :
    CallsR Try.prog 20 [.pointer (some ⟨p, 0, none⟩), u].toArray w fun v w' => v = .int .i64 (min xs.length (4096 - l.length) : Nat) ∧ ∃ H', IsBag p (addL l xs) H' ∧ St M w' (H' :: Ls) := by
  obtain ⟨s, Hs, ho, rfl⟩ := hb
  obtain ⟨sa, sc, rfl⟩ := ho.slice
  obtain ⟨ua, uc, rfl⟩ := (hx w _ hS).slice
  have hc := hc _ _ _ rfl
  obtain ⟨n, hn⟩ : ∃ n : Nat, n = min xs.length (4096 - l.length) := ⟨_, rfl⟩
  rw [← hn]
  have hxe : addL l xs = l ++ (xs.take n).map fresh := by
    unfold addL
    congr 2
    rw [hn]
    rcases Nat.le_total xs.length (4096 - l.length) with h | h
    · rw [Nat.min_eq_left h, List.take_of_length_le h, List.take_length]
    · rw [Nat.min_eq_right h]
  rw [hxe]
  refine calls_of (c := _) (rs := _) (n := 38) Try.func20 rfl rfl rfl rfl rfl ?_
  refine wc_seq ?_
  -- region 0
  refine wc_region ?_
  refine wl (y_assign rfl) rfl ?_
  refine wl_nil ?_
  refine wc_seq ?_
  -- region 1
  refine wc_region ?_
  refine wl (y_move rfl) rfl ?_
  refine wl (y_len_sl Try.underlying53 rfl) rfl ?_
  refine wl (y_move rfl) rfl ?_
  refine wl (y_nil rfl) rfl ?_
  refine wl (y_fld fl_50_0 rfl) rfl ?_
  refine wl (y_load pl_48 rfl (hS.cell rfl)) rfl ?_
  refine wl (y_len_sl Try.underlying48 rfl) rfl ?_
  refine wl (y_sub rfl rfl (w64 (by omega) (by omega))) rfl ?_
  refine wl ((y_min rfl rfl).val (u := .int .i64 (n : Int)) (congrArg (Value.int .i64) (by omega))) rfl ?_
  refine wl (y_assign rfl) rfl ?_
  refine wl_nil ?_
  refine wc_seq ?_
  refine wc_seq ?_
  -- region 2
  refine wc_region ?_
  refine wl (y_move rfl) rfl ?_
  refine wl (y_move rfl) rfl ?_
  refine wl (y_sl (lv := 0) (hv := n) (mv := uc) Try.underlying53 sz_39 rfl rfl ⟨_, _, rfl, by omega, by omega, by omega⟩ rfl) rfl ?_
  refine wl (y_len_sl Try.underlying53 rfl) rfl ?_
  refine wl (y_move rfl) rfl ?_
  refine wl_nil ?_
  refine wc_block ?_
  refine wc_loop (α := Nat) (fun k => [(0, .pointer (some ⟨p, 0, none⟩)), (5, .int .i64 n), (19, cutV ua 0 n uc 3), (20, .int .i64 n), (21, .int .i64 k)]) (fun k w => k ≤ n ∧ ∃ H', IsBag p (l ++ (xs.take k).map fresh) H' ∧ St M w (H' :: Ls)) (fun k => n - k) 0 (sub_cons rfl (sub_cons rfl (sub_cons rfl (sub_cons rfl (sub_cons rfl sub_nil))))) ⟨by omega, _, ⟨_, _, by simpa using ho, rfl⟩, by simpa using hS⟩ ?_
  rintro k w ⟨hk, H', ⟨s, Hs, ho, rfl⟩, hS⟩
  obtain ⟨sa, sc, rfl⟩ := ho.slice
  refine wc_seq ?_
  -- region 3
  refine wc_region ?_
  refine wl (y_lss rfl rfl) rfl ?_
  refine wl_nil ?_
  refine wc_seq ?_
  refine wc_if rfl (fun hc22 => ?_) (fun hc22 => ?_)
  · try simp only [decide_eq_true_eq, decide_eq_false_iff_not, Bool.not_eq_true', Bool.not_eq_false', Bool.not_true, Bool.not_false, Bool.not_eq_eq_eq_not] at hc22
    refine wc_skip ?_
    refine wc_seq ?_
    refine wc_block ?_
    refine wc_seq ?_
    have hkn : k < n := by omega
    obtain ⟨x, hxk⟩ : ∃ x, xs[k]? = some x := ⟨_, List.getElem?_eq_getElem (by omega)⟩
    obtain ⟨bb, off, c', hs, hce⟩ := (hx w _ hS).at hxk
    simp only [Value.slice.injEq] at hs
    obtain ⟨rfl, _, rfl⟩ := hs
    rw [cutV_0]
    have hxe : l ++ (xs.take (k + 1)).map fresh = (l ++ (xs.take k).map fresh) ++ [fresh x] := by
      rw [List.take_add_one, hxk]; simp
    have hlen : (l ++ (xs.take k).map fresh).length = l.length + k := by simp; omega
    -- region 4
    refine wc_region ?_
    refine wl (y_ixa_sl Try.underlying53 sz_39 rfl rfl (by omega) (by omega)) rfl ?_
    refine wl (y_loadS st_39 sz_39 rfl (vs := encP.f x) hce rfl) rfl ?_
    refine a_alloc z_39 hS rfl fun b7 w hS => ?_
    refine a_storeS (vs := [_, _, _]) sz_39 rfl rfl rfl rfl hS (Nat.le_of_ble_eq_true rfl) fun w hS => ?_
    refine wl_nil ?_
    -- region 5
    refine wc_draw (l0 := #[false, false, false, false, false, false, false, false, false, false, false, false]) (fun w => w.cell? ⟨p, 0, none⟩ = some (.slice sa (l ++ (xs.take k).map fresh).length sc) ∧ CellsAt w b7 0 (encP.f x)) [8, 11] wide_ rfl rfl fun w hw => ?_
    replace hS := hS.same hw; clear hw
    refine dr_pure (i := 0) #[true, false, false, false, false, false, false, false, false, false, false, false] rfl rfl (by kernel_rfl) (fun w => y_move rfl) ?_
    refine dr_pure (i := 1) #[true, true, false, false, false, false, false, false, false, false, false, false] rfl rfl (by kernel_rfl) (fun w => y_move rfl) ?_
    refine dr_pure (i := 2) #[true, true, true, false, false, false, false, false, false, false, false, false] rfl rfl (by kernel_rfl) (fun w => y_nil rfl) ?_
    refine dr_pure (i := 3) #[true, true, true, true, false, false, false, false, false, false, false, false] rfl rfl (by kernel_rfl) (fun w => y_fld fl_50_0 rfl) ?_
    refine dr_read (i := 4) #[true, true, true, true, true, false, false, false, false, false, false, false] rfl rfl (by kernel_rfl) ⟨hS.cell rfl, hS.cells rfl⟩ (fun w hS => y_load pl_48 rfl hS.1) ?_
    refine dr_read (i := 5) #[true, true, true, true, true, true, false, false, false, false, false, false] rfl rfl (by kernel_rfl) ⟨hS.cell rfl, hS.cells rfl⟩ (fun w hS => y_loadS st_39 sz_39 rfl (vs := encP.f x) hS.2 rfl) ?_
    refine dr_pure (i := 6) #[true, true, true, true, true, true, true, false, false, false, false, false] rfl rfl (by kernel_rfl) (fun w => y_build (is := [0]) (xs := [_]) (out := [_, _, _, _]) plc_55 z_55 (.cons rfl .nil) rfl) ?_
    refine dr_do (i := 7) #[true, true, true, true, true, true, true, true, false, false, false, false] rfl (by kernel_rfl) ?_
    refine a_bslice encI [fresh x] Try.underlying48 sz_55 z_55 rfl (.cons rfl .nil) rfl rfl rfl (by decide) hS rfl fun u Hu w hou hS => ?_
    refine wl_nil ⟨fun h _ => ⟨hS.cell rfl, hS.cells rfl⟩, ?_⟩
    refine dr_do (i := 8) #[true, true, true, true, true, true, true, true, true, false, false, false] rfl (by kernel_rfl) ?_
    refine a_append Try.underlying48 Try.underlying48 sz_55 z_55 rfl by_55 (by decide) rfl rfl ho (hou.holds hS) hS (by simp; omega) rfl fun s1 H1 w ho1 hS => ?_
    obtain ⟨sa1, sc1, rfl⟩ := ho1.slice
    refine wl_nil ⟨fun h => absurd (by decide) h, ?_⟩
    refine dr_pure (i := 9) #[true, true, true, true, true, true, true, true, true, true, false, false] rfl rfl (by kernel_rfl) (fun w => y_nil rfl) ?_
    refine dr_pure (i := 10) #[true, true, true, true, true, true, true, true, true, true, true, false] rfl rfl (by kernel_rfl) (fun w => y_fld fl_50_0 rfl) ?_
    refine dr_do (i := 11) #[true, true, true, true, true, true, true, true, true, true, true, true] rfl (by kernel_rfl) ?_
    refine a_store sz_48 rfl rfl rfl hS (Nat.le_of_ble_eq_true rfl) fun w hS => ?_
    refine wl_nil ⟨fun h => absurd (by decide) h, ?_⟩
    refine dr_done (by kernel_rfl) ?_
    simp only [List.setIfInBounds_toArray, List.set_cons_zero, List.set_cons_succ, Nat.zero_add, Nat.add_zero, cells_agg, setCells] at hS
    -- region 6
    refine wc_region ?_
    refine wl (y_add rfl rfl (w64 (by omega) (by omega))) rfl ?_
    refine wl (y_move rfl) rfl ?_
    refine wl_nil ?_
    exact ⟨k + 1, by omega, sub_cons rfl (sub_cons rfl (sub_cons rfl (sub_cons rfl (sub_cons rfl sub_nil)))), by omega, _, ⟨_, _, by rw [hxe]; exact ho1, rfl⟩, hS.keep⟩
  · try simp only [decide_eq_true_eq, decide_eq_false_iff_not, Bool.not_eq_true', Bool.not_eq_false', Bool.not_true, Bool.not_false, Bool.not_eq_eq_eq_not] at hc22
    obtain rfl : k = n := by omega
    refine wc_exit ?_
    refine wc_seq ?_
    -- region 7
    refine wc_region ?_
    refine wl (y_move rfl) rfl ?_
    refine wl (y_assign rfl) rfl ?_
    refine wl_nil ?_
    refine wc_ret ?_
    refine wret (vs := [_]) (.tmp rfl .nil) ?_
    exact ⟨rfl, _, ⟨_, _, ho, rfl⟩, hS.keep⟩

/-! ### Spoil -/
def spoilB (b : ByteArray) (bit : Int) (mask : BitVec 32) (k : Nat) : List UInt8 := if -32 ≤ bit ∧ bit < 8 * b.size then flips bit mask b.data.toList k else b.data.toList
theorem spoilB_length (b : ByteArray) (bit : Int) (mask : BitVec 32) (k : Nat) : (spoilB b bit mask k).length = b.size := by
  unfold spoilB; split
  · rw [flips_length]; simp
  · simp
theorem spoilB_succ (b : ByteArray) (bit : Int) (mask : BitVec 32) (k : Nat) : spoilB b bit mask (k + 1) = if mask.getLsbD k = true ∧ (-32 ≤ bit ∧ bit < 8 * b.size) ∧ 0 ≤ bit + k ∧ bit + k < 8 * b.size then flipAt (spoilB b bit mask k) (bit + k).toNat else spoilB b bit mask k := by
  have hb : b.data.toList.length = b.size := by simp
  unfold spoilB
  by_cases h : -32 ≤ bit ∧ bit < 8 * b.size
  · simp only [if_pos h, flips, hb, h, true_and, and_self, if_true]
  · simp only [if_neg h, h, false_and, and_false, if_false]
theorem mask_bit' (m : BitVec 32) (k : Nat) : decide (((m >>> k &&& 1#32).toNat : Int) = 1) = m.getLsbD k := by
  rw [← mask_bit]
  congr 3
  rw [BitVec.toNat_and, BitVec.toNat_umod]
  exact Nat.and_one_is_mod _
def spoilI (x : Item) (bit : Int) (mask : BitVec 32) : Item := ⟨⟨x.p.frm, x.p.to, ⟨(spoilB x.p.bytes bit mask 32).toArray⟩⟩, true⟩
def spoilL (l : List Item) (i : Int) (bit : Int) (mask : BitVec 32) : List Item := match atO l i with | none => l | some x => if x.sp then l else l.set i.toNat (spoilI x bit mask)
theorem spoil_c {p : Nat} {l : List Item} {H : Chunk} (i bit : Int) (mask : BitVec 32) (hl : l.length ≤ 4096) (hbit : -9223372036854775808 ≤ bit ∧ bit ≤ 9223372036854775807) (hsz : ∀ x ∈ l, x.p.bytes.size ≤ 140737488351232) (hb : IsBag p l H) (hS : St M w (H :: Ls)) :
    CallsR Try.prog 21 [.pointer (some ⟨p, 0, none⟩), .int .i64 i, .int .i64 bit, .int .u32 (mask.toNat : Int)].toArray w fun v w' =>
      v = .int .i64 (match atO l i with | none => 11 | some x => if x.sp then 12 else 0) ∧ ∃ H', IsBag p (spoilL l i bit mask) H' ∧ St M w' (H' :: Ls) := by
  have hb0 := hb
  obtain ⟨s, Hs, ho, rfl⟩ := hb
  obtain ⟨sa, sc, rfl⟩ := ho.slice
  unfold spoilL
  refine calls_of (c := _) (rs := _) (n := 86) Try.func21 rfl rfl rfl rfl rfl ?_
  refine wc_seq ?_
  -- region 0
  refine wc_region ?_
  refine wl (y_assign rfl) rfl ?_
  refine wl_nil ?_
  refine wc_seq ?_
  refine wc_seq ?_
  -- region 1
  refine wc_region ?_
  refine wl (y_move rfl) rfl ?_
  refine wl (y_move rfl) rfl ?_
  refine wl_call (.cons rfl (.cons rfl .nil)) (there_c i hb0 hS) rfl ?_
  rintro _ w ⟨rfl, hS⟩
  refine wl (y_not rfl) rfl ?_
  refine wl_nil ?_
  refine wc_if rfl (fun hc16 => ?_) (fun hc16 => ?_)
  · try simp only [decide_eq_true_eq, decide_eq_false_iff_not, Bool.not_eq_true', Bool.not_eq_false', Bool.not_true, Bool.not_false, Bool.not_eq_eq_eq_not] at hc16
    have hn : atO l i = none := by
      cases hx : atO l i with
      | none => rfl
      | some x => exact absurd (atB_iff.1 (show atB l i = true by unfold atB; rw [hx]; rfl)) hc16
    rw [hn]
    refine wc_seq ?_
    -- region 2
    refine wc_region ?_
    refine wl (y_assign rfl) rfl ?_
    refine wl_nil ?_
    refine wc_ret ?_
    refine wret (vs := [_]) (.tmp rfl .nil) ?_
    first
    | exact ⟨rfl, _, hb0, hS.keep⟩
    | exact ⟨rfl, _, ⟨_, _, ho2, rfl⟩, hS.keep⟩
  · try simp only [decide_eq_true_eq, decide_eq_false_iff_not, Bool.not_eq_true', Bool.not_eq_false', Bool.not_true, Bool.not_false, Bool.not_eq_eq_eq_not] at hc16
    obtain ⟨k, rfl⟩ : ∃ k : Nat, i = k := ⟨i.toNat, by omega⟩
    have hk : k < l.length := by omega
    obtain ⟨x, hx⟩ : ∃ x, l[k]? = some x := ⟨_, List.getElem?_eq_getElem hk⟩
    rw [atO_nat, hx]
    simp only
    have hxz : x.p.bytes.size ≤ 140737488351232 := hsz x (List.mem_of_getElem? hx)
    obtain ⟨bb, off, cap, hs⟩ := ho.expose (by omega)
    simp only [Value.slice.injEq] at hs
    obtain ⟨rfl, _, rfl⟩ := hs
    have hce := (ho.holds (hS.pull Hs)).cells hx
    refine wc_skip ?_
    refine wc_seq ?_
    -- region 3
    refine wc_region ?_
    refine wl (y_move rfl) rfl ?_
    refine wl (y_nil rfl) rfl ?_
    refine wl (y_fld fl_50_0 rfl) rfl ?_
    refine wl (y_load pl_48 rfl (hS.cell rfl)) rfl ?_
    refine wl (y_move rfl) rfl ?_
    refine wl (y_ixa_sl Try.underlying48 sz_55 rfl rfl (by omega) (by omega)) rfl ?_
    refine wl (y_assign rfl) rfl ?_
    refine wl_nil ?_
    refine wc_seq ?_
    refine wc_seq ?_
    -- region 4
    refine wc_region ?_
    refine wl (y_move rfl) rfl ?_
    refine wl (y_nil rfl) rfl ?_
    refine wl (y_fld fl_55_1 rfl) rfl ?_
    refine wl (y_load pl_4 rfl (CellsAt.one (CellsAt.sub (us := [.bool x.sp]) hce rfl))) rfl ?_
    refine wl_nil ?_
    refine wc_if rfl (fun hc26 => ?_) (fun hc26 => ?_)
    · try simp only [decide_eq_true_eq, decide_eq_false_iff_not, Bool.not_eq_true', Bool.not_eq_false', Bool.not_true, Bool.not_false, Bool.not_eq_eq_eq_not] at hc26
      rw [if_pos hc26]
      rw [if_pos hc26]
      refine wc_seq ?_
      -- region 5
      refine wc_region ?_
      refine wl (y_assign rfl) rfl ?_
      refine wl_nil ?_
      refine wc_ret ?_
      refine wret (vs := [_]) (.tmp rfl .nil) ?_
      first
      | exact ⟨rfl, _, hb0, hS.keep⟩
      | exact ⟨rfl, _, ⟨_, _, ho2, rfl⟩, hS.keep⟩
    · try simp only [decide_eq_true_eq, decide_eq_false_iff_not, Bool.not_eq_true', Bool.not_eq_false', Bool.not_true, Bool.not_false, Bool.not_eq_eq_eq_not] at hc26
      rw [if_neg (by rw [hc26]; simp)]
      rw [if_neg (by rw [hc26]; simp)]
      refine wc_skip ?_
      refine wc_seq ?_
      -- region 6
      refine wc_region ?_
      refine wl (y_move rfl) rfl ?_
      refine wl (y_nil rfl) rfl ?_
      refine wl (y_fld fl_55_1 rfl) rfl ?_
      refine a_storeF (A := encI) (i := k) (fo := 3) (x0 := x) (x' := ⟨x.p, true⟩) sz_4 rfl rfl rfl [.int .i64 x.p.frm, .int .i64 x.p.to, .string x.p.bytes] [.bool x.sp] [] rfl rfl rfl rfl ho hx hS fun H1 w ho1 hS => ?_
      have hx1 : (l.set k ⟨x.p, true⟩)[k]? = some ⟨x.p, true⟩ := by rw [List.getElem?_set_self hk]
      have hce1 := (ho1.holds hS).cells hx1
      refine wl_nil ?_
      refine wc_seq ?_
      -- region 7
      refine wc_region ?_
      refine wl (y_move rfl) rfl ?_
      refine wl (y_nil rfl) rfl ?_
      refine wl (y_fld fl_55_0 rfl) rfl ?_
      refine wl (y_fld fl_39_2 rfl) rfl ?_
      refine wl (y_load pl_9 rfl (CellsAt.one (CellsAt.sub (us := [.string x.p.bytes]) hce1 rfl))) rfl ?_
      refine a_s2b Try.underlying9 Try.underlying33 Try.underlying5 rfl hS rfl fun sv Hb w hob hS => ?_
      obtain ⟨ba, bc, rfl⟩ := hob.slice
      have hbl : x.p.bytes.data.toList.length = x.p.bytes.size := by simp
      have hob0 : Own 5 encB (.slice ba x.p.bytes.data.toList.length bc) (spoilB x.p.bytes bit mask 0) Hb := by unfold spoilB; simp only [flips, ite_self]; exact hob
      rw [hbl] at hob0 ⊢
      refine wl (y_assign rfl) rfl ?_
      refine wl_nil ?_
      refine wc_seq ?_
      refine wc_seq ?_
      -- region 8
      refine wc_region ?_
      refine wl (y_move rfl) rfl ?_
      refine wl_nil ?_
      refine wc_block ?_
      refine wc_loop (α := Nat × Chunk) (fun ⟨j, Hb⟩ => [(2, .int .i64 bit), (3, .int .u32 (mask.toNat : Int)), (9, .pointer (some ⟨bb, off + k * 4, none⟩)), (10, .slice ba x.p.bytes.size bc), (36, .int .i64 j)]) (fun ⟨j, Hb⟩ w => j ≤ 32 ∧ Own 5 encB (.slice ba x.p.bytes.size bc) (spoilB x.p.bytes bit mask j) Hb ∧ St M w (Hb :: H1 :: [(p, .cells #[.slice (some ⟨bb, off, none⟩) l.length sc] 50)] :: Ls)) (fun ⟨j, _⟩ => 32 - j) (0, Hb) (sub_cons rfl (sub_cons rfl (sub_cons rfl (sub_cons rfl (sub_cons rfl sub_nil))))) ⟨by omega, hob0, hS.keep⟩ ?_
      rintro ⟨j, Hb⟩ w ⟨hj, hob, hS⟩
      have hlen := spoilB_length x.p.bytes bit mask j
      have hsucc := spoilB_succ x.p.bytes bit mask j
      obtain ⟨at', hat⟩ : ∃ a, IntKind.i64.wrap (bit + j) = a := ⟨_, rfl⟩
      have hat' : -32 ≤ bit → bit < 8 * (x.p.bytes.size : Int) → j < 32 → at' = bit + j := fun h1 h2 h3 => by rw [← hat, w64 (by omega) (by omega)]
      refine wc_seq ?_
      -- region 9
      refine wc_region ?_
      refine wl (y_lss rfl rfl) rfl ?_
      refine wl_nil ?_
      refine wc_seq ?_
      refine wc_if rfl (fun hc37 => ?_) (fun hc37 => ?_)
      · try simp only [decide_eq_true_eq, decide_eq_false_iff_not, Bool.not_eq_true', Bool.not_eq_false', Bool.not_true, Bool.not_false, Bool.not_eq_eq_eq_not] at hc37
        refine wc_skip ?_
        refine wc_seq ?_
        refine wc_block ?_
        refine wc_seq ?_
        -- region 10
        refine wc_region ?_
        refine wl (y_move rfl) rfl ?_
        refine wl (y_assign rfl) rfl ?_
        refine wl_nil ?_
        refine wc_seq ?_
        -- region 11
        refine wc_region ?_
        refine wl (y_move rfl) rfl ?_
        refine wl (y_move rfl) rfl ?_
        refine wl (y_add rfl rfl hat) rfl ?_
        refine wl (y_assign rfl) rfl ?_
        refine wl_nil ?_
        refine wc_seq ?_
        -- region 12
        refine wc_region ?_
        refine wl (y_move rfl) rfl ?_
        refine wl (y_move rfl) rfl ?_
        refine wl (y_shr rfl rfl (by omega) (bvshr32 mask j)) rfl ?_
        refine wl (y_and rfl (bvc32 1) (bvand32 _ _)) rfl ?_
        refine wl ((y_eql rfl rfl).val (congrArg Value.bool (mask_bit' mask j))) rfl ?_
        refine wl (y_move rfl) rfl ?_
        refine wl_cases (s := 47) rfl (fun hg47 => ?_) (fun hg47 => ?_)
        · try simp only [decide_eq_true_eq, decide_eq_false_iff_not, Bool.not_eq_true', Bool.not_eq_false', Bool.not_true, Bool.not_false, Bool.not_eq_eq_eq_not] at hg47
          have hbit : mask.getLsbD j = true := hg47
          refine wl_on rfl rfl ?_
          refine wl (y_move rfl) rfl ?_
          refine wl_on rfl rfl ?_
          refine wl (y_geq rfl rfl) rfl ?_
          refine wl (y_pickT rfl rfl) rfl ?_
          refine wl (y_move rfl) rfl ?_
          refine wl_cases (s := 51) rfl (fun hg51 => ?_) (fun hg51 => ?_)
          · try simp only [decide_eq_true_eq, decide_eq_false_iff_not, Bool.not_eq_true', Bool.not_eq_false', Bool.not_true, Bool.not_false, Bool.not_eq_eq_eq_not] at hg51
            refine wl_on rfl rfl ?_
            refine wl (y_move rfl) rfl ?_
            refine wl_on rfl rfl ?_
            refine wl (y_move rfl) rfl ?_
            refine wl_on rfl rfl ?_
            refine wl (y_len_sl Try.underlying33 rfl) rfl ?_
            refine wl_on rfl rfl ?_
            refine wl (y_mul rfl rfl (w64 (by omega) (by omega))) rfl ?_
            refine wl_on rfl rfl ?_
            refine wl (y_lss rfl rfl) rfl ?_
            refine wl (y_pickT rfl rfl) rfl ?_
            refine wl (y_move rfl) rfl ?_
            refine wl_cases (s := 58) rfl (fun hg58 => ?_) (fun hg58 => ?_)
            · try simp only [decide_eq_true_eq, decide_eq_false_iff_not, Bool.not_eq_true', Bool.not_eq_false', Bool.not_true, Bool.not_false, Bool.not_eq_eq_eq_not] at hg58
              refine wl_on rfl rfl ?_
              refine wl (y_move rfl) rfl ?_
              refine wl_on rfl rfl ?_
              refine wl (y_geq rfl rfl) rfl ?_
              refine wl (y_pickT rfl rfl) rfl ?_
              refine wl (y_move rfl) rfl ?_
              refine wl_cases (s := 62) rfl (fun hg62 => ?_) (fun hg62 => ?_)
              · try simp only [decide_eq_true_eq, decide_eq_false_iff_not, Bool.not_eq_true', Bool.not_eq_false', Bool.not_true, Bool.not_false, Bool.not_eq_eq_eq_not] at hg62
                refine wl_on rfl rfl ?_
                refine wl (y_move rfl) rfl ?_
                refine wl_on rfl rfl ?_
                refine wl (y_move rfl) rfl ?_
                refine wl_on rfl rfl ?_
                refine wl (y_len_sl Try.underlying33 rfl) rfl ?_
                refine wl_on rfl rfl ?_
                refine wl (y_mul rfl rfl (w64 (by omega) (by omega))) rfl ?_
                refine wl_on rfl rfl ?_
                refine wl (y_lss rfl rfl) rfl ?_
                refine wl (y_pickT rfl rfl) rfl ?_
                refine wl_nil ?_
                refine wc_if rfl (fun hc68 => ?_) (fun hc68 => ?_)
                · try simp only [decide_eq_true_eq, decide_eq_false_iff_not, Bool.not_eq_true', Bool.not_eq_false', Bool.not_true, Bool.not_false, Bool.not_eq_eq_eq_not] at hc68
                  have hat2 := hat' (by omega) (by omega) (by omega)
                  obtain ⟨q, hq⟩ : ∃ q : Nat, at' = q := ⟨at'.toNat, by omega⟩
                  have hf : spoilB x.p.bytes bit mask (j + 1) = flipAt (spoilB x.p.bytes bit mask j) q := by
                    rw [hsucc, if_pos ⟨hbit, by omega, by omega, by omega⟩]
                    congr 1; omega
                  clear hat hat' hat2
                  subst hq
                  have hq8 : q / 8 < x.p.bytes.size := by omega
                  obtain ⟨b2, off2, cap2, hs⟩ := hob.expose (by rw [hlen]; omega)
                  simp only [Value.slice.injEq] at hs
                  obtain ⟨rfl, _, rfl⟩ := hs
                  have hxq : (spoilB x.p.bytes bit mask j)[q / 8]? = some ((spoilB x.p.bytes bit mask j).getD (q / 8) 0) := by
                    rw [List.getD_eq_getElem?_getD, List.getElem?_eq_getElem (by omega)]; rfl
                  have hcb := (hob.holds hS).cells hxq
                  -- region 13
                  refine wc_draw (l0 := #[false, false, false, false, false, false, false, false, false, false, false]) (fun w => CellsAt w b2 (off2 + (q / 8) * 1) (encB.f ((spoilB x.p.bytes bit mask j).getD (q / 8) 0))) [10] wide_ rfl rfl fun w hw => ?_
                  replace hS := hS.same hw; clear hw
                  have hcb := (hob.holds hS).cells hxq
                  refine dr_pure (i := 0) #[true, false, false, false, false, false, false, false, false, false, false] rfl rfl (by kernel_rfl) (fun w => y_move rfl) ?_
                  refine dr_pure (i := 1) #[true, true, false, false, false, false, false, false, false, false, false] rfl rfl (by kernel_rfl) (fun w => y_move rfl) ?_
                  refine dr_pure (i := 2) #[true, true, true, false, false, false, false, false, false, false, false] rfl rfl (by kernel_rfl) (fun w => y_quo rfl rfl (by decide) (r := ((q / 8 : Nat) : Int)) ((congrArg _ (show (q : Int).tdiv 8 = ((q / 8 : Nat) : Int) from rfl)).trans (w64 (by omega) (by omega)))) ?_
                  refine dr_pure (i := 3) #[true, true, true, true, false, false, false, false, false, false, false] rfl rfl (by kernel_rfl) (fun w => y_ixa_sl Try.underlying33 sz_5 rfl rfl (by omega) (by omega)) ?_
                  refine dr_pure (i := 5) #[true, true, true, true, false, true, false, false, false, false, false] rfl rfl (by kernel_rfl) (fun w => y_move rfl) ?_
                  refine dr_pure (i := 6) #[true, true, true, true, false, true, true, false, false, false, false] rfl rfl (by kernel_rfl) (fun w => y_rem rfl rfl (by decide) (show (q : Int).tmod 8 = ((q % 8 : Nat) : Int) from rfl)) ?_
                  refine dr_pure (i := 7) #[true, true, true, true, false, true, true, true, false, false, false] rfl rfl (by kernel_rfl) (fun w => y_shl (bvc8 1) rfl (by omega) (bvshl8 _ (q % 8))) ?_
                  refine dr_read (i := 4) #[true, true, true, true, true, true, true, true, false, false, false] rfl rfl (by kernel_rfl) hcb (fun w hS => y_load pl_5 rfl hS.one) ?_
                  refine dr_pure (i := 8) #[true, true, true, true, true, true, true, true, true, false, false] rfl rfl (by kernel_rfl) (fun w => y_xor rfl rfl (bvxor8 _ _)) ?_
                  refine dr_pure (i := 9) #[true, true, true, true, true, true, true, true, true, true, false] rfl rfl (by kernel_rfl) (fun w => y_ixa_sl Try.underlying33 sz_5 rfl rfl (by omega) (by omega)) ?_
                  refine dr_do (i := 10) #[true, true, true, true, true, true, true, true, true, true, true] rfl (by kernel_rfl) ?_
                  refine a_storeE (A := encB) (i := q / 8) sz_5 rfl rfl (x' := ⟨((spoilB x.p.bytes bit mask j).getD (q / 8) 0).toBitVec ^^^ bitv (q % 8)⟩) rfl hob (by omega) hS fun H' w hob hS => ?_
                  replace hob : Own 5 encB (.slice (some ⟨b2, off2, none⟩) x.p.bytes.size bc) (flipAt (spoilB x.p.bytes bit mask j) q) H' := hob
                  rw [← hf] at hob
                  refine wl_nil ⟨fun h => absurd (by decide) h, ?_⟩
                  refine dr_done (by kernel_rfl) ?_
                  -- region 14
                  refine wc_region ?_
                  refine wl (y_add rfl rfl (w64 (by omega) (by omega))) rfl ?_
                  refine wl (y_move rfl) rfl ?_
                  refine wl_nil ?_
                  first
                  | exact ⟨(j + 1, _), by simp only; omega, sub_cons rfl (sub_cons rfl (sub_cons rfl (sub_cons rfl (sub_cons rfl sub_nil)))), by omega, hob, hS⟩
                  | exact ⟨(j + 1, _), by simp only; omega, sub_cons rfl (sub_cons rfl (sub_cons rfl (sub_cons rfl (sub_cons rfl sub_nil)))), by omega, (by rw [hsucc, if_neg (fun h => hbit h.1)]; exact hob), hS⟩
                  | exact ⟨(j + 1, _), by simp only; omega, sub_cons rfl (sub_cons rfl (sub_cons rfl (sub_cons rfl (sub_cons rfl sub_nil)))), by omega, (by rw [hsucc, if_neg (fun ⟨_, h1, h2, h3⟩ => by first | omega | (have := hat' (by omega) (by omega) (by omega); omega))]; exact hob), hS⟩
                · try simp only [decide_eq_true_eq, decide_eq_false_iff_not, Bool.not_eq_true', Bool.not_eq_false', Bool.not_true, Bool.not_false, Bool.not_eq_eq_eq_not] at hc68
                  refine wc_skip ?_
                  -- region 14
                  refine wc_region ?_
                  refine wl (y_add rfl rfl (w64 (by omega) (by omega))) rfl ?_
                  refine wl (y_move rfl) rfl ?_
                  refine wl_nil ?_
                  first
                  | exact ⟨(j + 1, _), by simp only; omega, sub_cons rfl (sub_cons rfl (sub_cons rfl (sub_cons rfl (sub_cons rfl sub_nil)))), by omega, hob, hS⟩
                  | exact ⟨(j + 1, _), by simp only; omega, sub_cons rfl (sub_cons rfl (sub_cons rfl (sub_cons rfl (sub_cons rfl sub_nil)))), by omega, (by rw [hsucc, if_neg (fun h => hbit h.1)]; exact hob), hS⟩
                  | exact ⟨(j + 1, _), by simp only; omega, sub_cons rfl (sub_cons rfl (sub_cons rfl (sub_cons rfl (sub_cons rfl sub_nil)))), by omega, (by rw [hsucc, if_neg (fun ⟨_, h1, h2, h3⟩ => by first | omega | (have := hat' (by omega) (by omega) (by omega); omega))]; exact hob), hS⟩
              · try simp only [decide_eq_true_eq, decide_eq_false_iff_not, Bool.not_eq_true', Bool.not_eq_false', Bool.not_true, Bool.not_false, Bool.not_eq_eq_eq_not] at hg62
                refine wl_off rfl rfl rfl rfl ?_
                refine wl_off rfl rfl rfl rfl ?_
                refine wl_off rfl rfl rfl rfl ?_
                refine wl_off rfl rfl rfl rfl ?_
                refine wl_off rfl rfl rfl rfl ?_
                refine wl (y_pickF rfl rfl) rfl ?_
                refine wl_nil ?_
                refine wc_ifF rfl rfl ?_
                refine wc_skip ?_
                -- region 14
                refine wc_region ?_
                refine wl (y_add rfl rfl (w64 (by omega) (by omega))) rfl ?_
                refine wl (y_move rfl) rfl ?_
                refine wl_nil ?_
                first
                | exact ⟨(j + 1, _), by simp only; omega, sub_cons rfl (sub_cons rfl (sub_cons rfl (sub_cons rfl (sub_cons rfl sub_nil)))), by omega, hob, hS⟩
                | exact ⟨(j + 1, _), by simp only; omega, sub_cons rfl (sub_cons rfl (sub_cons rfl (sub_cons rfl (sub_cons rfl sub_nil)))), by omega, (by rw [hsucc, if_neg (fun h => hbit h.1)]; exact hob), hS⟩
                | exact ⟨(j + 1, _), by simp only; omega, sub_cons rfl (sub_cons rfl (sub_cons rfl (sub_cons rfl (sub_cons rfl sub_nil)))), by omega, (by rw [hsucc, if_neg (fun ⟨_, h1, h2, h3⟩ => by first | omega | (have := hat' (by omega) (by omega) (by omega); omega))]; exact hob), hS⟩
            · try simp only [decide_eq_true_eq, decide_eq_false_iff_not, Bool.not_eq_true', Bool.not_eq_false', Bool.not_true, Bool.not_false, Bool.not_eq_eq_eq_not] at hg58
              refine wl_off rfl rfl rfl rfl ?_
              refine wl_off rfl rfl rfl rfl ?_
              refine wl (y_pickF rfl rfl) rfl ?_
              refine wl (y_move rfl) rfl ?_
              refine wl_off rfl rfl rfl rfl ?_
              refine wl_off rfl rfl rfl rfl ?_
              refine wl_off rfl rfl rfl rfl ?_
              refine wl_off rfl rfl rfl rfl ?_
              refine wl_off rfl rfl rfl rfl ?_
              refine wl (y_pickF rfl rfl) rfl ?_
              refine wl_nil ?_
              refine wc_ifF rfl rfl ?_
              refine wc_skip ?_
              -- region 14
              refine wc_region ?_
              refine wl (y_add rfl rfl (w64 (by omega) (by omega))) rfl ?_
              refine wl (y_move rfl) rfl ?_
              refine wl_nil ?_
              first
              | exact ⟨(j + 1, _), by simp only; omega, sub_cons rfl (sub_cons rfl (sub_cons rfl (sub_cons rfl (sub_cons rfl sub_nil)))), by omega, hob, hS⟩
              | exact ⟨(j + 1, _), by simp only; omega, sub_cons rfl (sub_cons rfl (sub_cons rfl (sub_cons rfl (sub_cons rfl sub_nil)))), by omega, (by rw [hsucc, if_neg (fun h => hbit h.1)]; exact hob), hS⟩
              | exact ⟨(j + 1, _), by simp only; omega, sub_cons rfl (sub_cons rfl (sub_cons rfl (sub_cons rfl (sub_cons rfl sub_nil)))), by omega, (by rw [hsucc, if_neg (fun ⟨_, h1, h2, h3⟩ => by first | omega | (have := hat' (by omega) (by omega) (by omega); omega))]; exact hob), hS⟩
          · try simp only [decide_eq_true_eq, decide_eq_false_iff_not, Bool.not_eq_true', Bool.not_eq_false', Bool.not_true, Bool.not_false, Bool.not_eq_eq_eq_not] at hg51
            refine wl_off rfl rfl rfl rfl ?_
            refine wl_off rfl rfl rfl rfl ?_
            refine wl_off rfl rfl rfl rfl ?_
            refine wl_off rfl rfl rfl rfl ?_
            refine wl_off rfl rfl rfl rfl ?_
            refine wl (y_pickF rfl rfl) rfl ?_
            refine wl (y_move rfl) rfl ?_
            refine wl_off rfl rfl rfl rfl ?_
            refine wl_off rfl rfl rfl rfl ?_
            refine wl (y_pickF rfl rfl) rfl ?_
            refine wl (y_move rfl) rfl ?_
            refine wl_off rfl rfl rfl rfl ?_
            refine wl_off rfl rfl rfl rfl ?_
            refine wl_off rfl rfl rfl rfl ?_
            refine wl_off rfl rfl rfl rfl ?_
            refine wl_off rfl rfl rfl rfl ?_
            refine wl (y_pickF rfl rfl) rfl ?_
            refine wl_nil ?_
            refine wc_ifF rfl rfl ?_
            refine wc_skip ?_
            -- region 14
            refine wc_region ?_
            refine wl (y_add rfl rfl (w64 (by omega) (by omega))) rfl ?_
            refine wl (y_move rfl) rfl ?_
            refine wl_nil ?_
            first
            | exact ⟨(j + 1, _), by simp only; omega, sub_cons rfl (sub_cons rfl (sub_cons rfl (sub_cons rfl (sub_cons rfl sub_nil)))), by omega, hob, hS⟩
            | exact ⟨(j + 1, _), by simp only; omega, sub_cons rfl (sub_cons rfl (sub_cons rfl (sub_cons rfl (sub_cons rfl sub_nil)))), by omega, (by rw [hsucc, if_neg (fun h => hbit h.1)]; exact hob), hS⟩
            | exact ⟨(j + 1, _), by simp only; omega, sub_cons rfl (sub_cons rfl (sub_cons rfl (sub_cons rfl (sub_cons rfl sub_nil)))), by omega, (by rw [hsucc, if_neg (fun ⟨_, h1, h2, h3⟩ => by first | omega | (have := hat' (by omega) (by omega) (by omega); omega))]; exact hob), hS⟩
        · try simp only [decide_eq_true_eq, decide_eq_false_iff_not, Bool.not_eq_true', Bool.not_eq_false', Bool.not_true, Bool.not_false, Bool.not_eq_eq_eq_not] at hg47
          have hbit : ¬ mask.getLsbD j = true := by rw [hg47]; simp
          refine wl_off rfl rfl rfl rfl ?_
          refine wl_off rfl rfl rfl rfl ?_
          refine wl (y_pickF rfl rfl) rfl ?_
          refine wl (y_move rfl) rfl ?_
          refine wl_off rfl rfl rfl rfl ?_
          refine wl_off rfl rfl rfl rfl ?_
          refine wl_off rfl rfl rfl rfl ?_
          refine wl_off rfl rfl rfl rfl ?_
          refine wl_off rfl rfl rfl rfl ?_
          refine wl (y_pickF rfl rfl) rfl ?_
          refine wl (y_move rfl) rfl ?_
          refine wl_off rfl rfl rfl rfl ?_
          refine wl_off rfl rfl rfl rfl ?_
          refine wl (y_pickF rfl rfl) rfl ?_
          refine wl (y_move rfl) rfl ?_
          refine wl_off rfl rfl rfl rfl ?_
          refine wl_off rfl rfl rfl rfl ?_
          refine wl_off rfl rfl rfl rfl ?_
          refine wl_off rfl rfl rfl rfl ?_
          refine wl_off rfl rfl rfl rfl ?_
          refine wl (y_pickF rfl rfl) rfl ?_
          refine wl_nil ?_
          refine wc_ifF rfl rfl ?_
          refine wc_skip ?_
          -- region 14
          refine wc_region ?_
          refine wl (y_add rfl rfl (w64 (by omega) (by omega))) rfl ?_
          refine wl (y_move rfl) rfl ?_
          refine wl_nil ?_
          first
          | exact ⟨(j + 1, _), by simp only; omega, sub_cons rfl (sub_cons rfl (sub_cons rfl (sub_cons rfl (sub_cons rfl sub_nil)))), by omega, hob, hS⟩
          | exact ⟨(j + 1, _), by simp only; omega, sub_cons rfl (sub_cons rfl (sub_cons rfl (sub_cons rfl (sub_cons rfl sub_nil)))), by omega, (by rw [hsucc, if_neg (fun h => hbit h.1)]; exact hob), hS⟩
          | exact ⟨(j + 1, _), by simp only; omega, sub_cons rfl (sub_cons rfl (sub_cons rfl (sub_cons rfl (sub_cons rfl sub_nil)))), by omega, (by rw [hsucc, if_neg (fun ⟨_, h1, h2, h3⟩ => by first | omega | (have := hat' (by omega) (by omega) (by omega); omega))]; exact hob), hS⟩
      · try simp only [decide_eq_true_eq, decide_eq_false_iff_not, Bool.not_eq_true', Bool.not_eq_false', Bool.not_true, Bool.not_false, Bool.not_eq_eq_eq_not] at hc37
        obtain rfl : j = 32 := by omega
        refine wc_exit ?_
        refine wc_seq ?_
        -- region 15
        refine wc_region ?_
        refine wl (y_move rfl) rfl ?_
        refine wl (y_move rfl) rfl ?_
        refine wl (y_b2sh Try.underlying33 Try.underlying9 Try.underlying5 rfl (hob.holds hS)) rfl ?_
        refine wl (y_nil rfl) rfl ?_
        refine wl (y_fld fl_55_0 rfl) rfl ?_
        refine wl (y_fld fl_39_2 rfl) rfl ?_
        refine a_storeF (A := encI) (i := k) (fo := 2) (x0 := ⟨x.p, true⟩) (x' := spoilI x bit mask) sz_9 rfl rfl rfl [.int .i64 x.p.frm, .int .i64 x.p.to] [.string x.p.bytes] [.bool true] rfl rfl rfl rfl ho1 hx1 hS fun H2 w ho2 hS => ?_
        rw [List.set_set] at ho2
        refine wl_nil ?_
        refine wc_seq ?_
        -- region 16
        refine wc_region ?_
        refine wl (y_assign rfl) rfl ?_
        refine wl_nil ?_
        refine wc_ret ?_
        refine wret (vs := [_]) (.tmp rfl .nil) ?_
        first
        | exact ⟨rfl, _, hb0, hS.keep⟩
        | exact ⟨rfl, _, ⟨_, _, ho2, rfl⟩, hS.keep⟩
end
end Go.Proofs.Ytipffnogkijmnaa.Bag
