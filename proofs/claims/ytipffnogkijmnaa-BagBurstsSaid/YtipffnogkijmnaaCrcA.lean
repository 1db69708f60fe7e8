import Derived.Test.YtipffnogkijmnaaTy
import Derived.Test.YtipffnogkijmnaaEng7
import Derived.Test.YtipffnogkijmnaaCrcM
set_option linter.unusedVariables false
set_option linter.unusedSimpArgs false
namespace Go.Proofs.Ytipffnogkijmnaa.Crc
open Go Go.Proofs Go.Proofs.Ytipffnogkijmnaa.Eng

/-! crc.build -/
def tabTo (k : Nat) : List Value := (List.range 256).map fun i => .int .u32 (if i < k then ((ent i).toNat : Int) else 0)
theorem tabTo_length (k : Nat) : (tabTo k).length = 256 := by simp [tabTo]
theorem tabTo_zero : tabTo 0 = List.replicate 256 (.int .u32 0) := by
  apply List.ext_getElem
  · rw [tabTo_length, List.length_replicate]
  · intro i h1 h2
    simp only [tabTo, List.getElem_map, List.getElem_replicate, Nat.not_lt_zero, if_false]
theorem cstep_T (x : BitVec 32) (h : ((x &&& 1#32).toNat : Int) = 1) : cstep x = (x >>> 1) ^^^ 2197175160#32 := by
  have e : x &&& 1#32 = 1#32 := BitVec.eq_of_toNat_eq (by simp only [BitVec.toNat_ofNat]; omega)
  simp only [cstep, e, if_true]
theorem cstep_F (x : BitVec 32) (h : ¬ ((x &&& 1#32).toNat : Int) = 1) : cstep x = (x >>> 1) := by
  have e : ¬ x &&& 1#32 = 1#32 := fun e => h (by rw [e]; rfl)
  simp only [cstep, e, if_false]
theorem tabTo_set (k : Nat) (hk : k < 256) : (tabTo k).toArray.setIfInBounds k (.int .u32 ((ent k).toNat : Int)) = (tabTo (k + 1)).toArray := by
  apply Array.ext'
  apply List.ext_getElem?
  intro i
  simp only [List.setIfInBounds_toArray, List.getElem?_set, tabTo_length]
  by_cases h : k = i
  · subst h; simp [tabTo, hk, List.getElem?_map, List.getElem?_range hk]
  · simp only [h, if_false, tabTo, List.getElem?_map]
    by_cases hi : i < 256
    · simp only [List.getElem?_range hi, Option.map_some, Option.some.injEq, Value.int.injEq, true_and]
      by_cases h1 : i < k
      · simp [h1, Nat.lt_succ_of_lt h1]
      · have : ¬ i < k + 1 := by omega
        simp [h1, this]
    · simp [List.getElem?_eq_none (by simp; omega : (List.range 256).length ≤ i)]
def tableV : Value := .agg (tabTo 256).toArray

theorem build_c {M : Mem} {w : World} {Ls : List Chunk} (hS : St M w Ls) :
    CallsR Try.prog 31 [].toArray w fun v w' => v = tableV ∧ St M w' Ls := by
  refine calls_of (c := _) (rs := _) (n := 24) Try.func31 rfl rfl rfl rfl rfl ?_
  refine wc_seq ?_
  -- region 0
  refine wc_region ?_
  refine a_alloc z_45 hS rfl fun b0 w hS => ?_
  refine wl_nil ?_
  refine wc_seq ?_
  refine wc_seq ?_
  -- region 1
  refine wc_region ?_
  refine wl (y_move rfl) rfl ?_
  refine wl_nil ?_
  refine wc_block ?_
  refine wc_loop (α := Nat) (fun k => [(0, .pointer (some ⟨b0, 0, none⟩)), (3, .int .i64 k)]) (fun k w => k ≤ 256 ∧ St M w ([(b0, .cells (tabTo k).toArray 45)] :: Ls)) (fun k => 256 - k) 0 (sub_cons rfl (sub_cons rfl sub_nil)) ⟨by omega, by rw [tabTo_zero]; exact hS⟩ ?_
  rintro k w ⟨hk, hS⟩
  refine wc_seq ?_
  -- region 2
  refine wc_region ?_
  refine wl (y_lss rfl rfl) rfl ?_
  refine wl_nil ?_
  refine wc_seq ?_
  refine wc_if rfl (fun hc4 => ?_) (fun hc4 => ?_)
  · try simp only [decide_eq_true_eq, decide_eq_false_iff_not, Bool.not_eq_true', Bool.not_eq_false', Bool.not_true, Bool.not_false, Bool.not_eq_eq_eq_not] at hc4
    refine wc_skip ?_
    refine wc_seq ?_
    refine wc_block ?_
    refine wc_seq ?_
    -- region 3
    refine wc_region ?_
    refine wl (y_move rfl) rfl ?_
    refine wl (y_assign rfl) rfl ?_
    refine wl_nil ?_
    refine wc_seq ?_
    -- region 4
    refine wc_region ?_
    refine wl (y_move rfl) rfl ?_
    refine wl (y_conv Try.underlying3 Try.underlying23 rfl rfl) rfl ?_
    refine wl (y_assign rfl) rfl ?_
    refine wl_nil ?_
    refine wc_seq ?_
    refine wc_seq ?_
    -- region 5
    refine wc_region ?_
    refine wl (y_move rfl) rfl ?_
    refine wl_nil ?_
    refine wc_block ?_
    refine wc_loop (α := Nat) (fun j => [(0, .pointer (some ⟨b0, 0, none⟩)), (3, .int .i64 k), (1, .int .i64 k), (2, .int .u32 ((steps j (BitVec.ofNat 32 k)).toNat : Int)), (8, .int .i64 j)]) (fun j w => j ≤ 8 ∧ St M w ([(b0, .cells (tabTo k).toArray 45)] :: Ls)) (fun j => 8 - j) 0 (sub_cons rfl (sub_cons rfl (sub_cons rfl (sub_cons rfl (sub_cons rfl sub_nil))))) ⟨by omega, hS⟩ ?_
    rintro j w ⟨hj, hS⟩
    refine wc_seq ?_
    -- region 6
    refine wc_region ?_
    refine wl (y_lss rfl rfl) rfl ?_
    refine wl_nil ?_
    refine wc_seq ?_
    refine wc_if rfl (fun hc9 => ?_) (fun hc9 => ?_)
    · try simp only [decide_eq_true_eq, decide_eq_false_iff_not, Bool.not_eq_true', Bool.not_eq_false', Bool.not_true, Bool.not_false, Bool.not_eq_eq_eq_not] at hc9
      refine wc_skip ?_
      refine wc_seq ?_
      refine wc_block ?_
      refine wc_seq ?_
      -- region 7
      refine wc_region ?_
      refine wl (y_move rfl) rfl ?_
      refine wl (y_and rfl (bvc32 1) (bvand32 _ _)) rfl ?_
      refine wl (y_eql rfl rfl) rfl ?_
      refine wl_nil ?_
      refine wc_if rfl (fun hc12 => ?_) (fun hc12 => ?_)
      · try simp only [decide_eq_true_eq, decide_eq_false_iff_not, Bool.not_eq_true', Bool.not_eq_false', Bool.not_true, Bool.not_false, Bool.not_eq_eq_eq_not] at hc12
        have e : steps (j + 1) (BitVec.ofNat 32 k) = _ := cstep_T _ hc12
        -- region 8
        refine wc_region ?_
        refine wl (y_move rfl) rfl ?_
        refine wl (y_shr rfl rfl (by decide) (bvshr32 _ 1)) rfl ?_
        refine wl (y_xor rfl (bvc32 2197175160) (bvxor32 _ _)) rfl ?_
        refine wl (y_assign rfl) rfl ?_
        refine wl_nil ?_
        -- region 10
        refine wc_region ?_
        refine wl (y_add rfl rfl (w64 (by omega) (by omega))) rfl ?_
        refine wl (y_move rfl) rfl ?_
        refine wl_nil ?_
        exact ⟨j + 1, by omega, sub_cons rfl (sub_cons rfl (sub_cons rfl (sub_cons (by rw [e]; rfl) (sub_cons rfl sub_nil)))), by omega, hS⟩
      · try simp only [decide_eq_true_eq, decide_eq_false_iff_not, Bool.not_eq_true', Bool.not_eq_false', Bool.not_true, Bool.not_false, Bool.not_eq_eq_eq_not] at hc12
        have e : steps (j + 1) (BitVec.ofNat 32 k) = _ := cstep_F _ hc12
        -- region 9
        refine wc_region ?_
        refine wl (y_move rfl) rfl ?_
        refine wl (y_shr rfl rfl (by decide) (bvshr32 _ 1)) rfl ?_
        refine wl (y_assign rfl) rfl ?_
        refine wl_nil ?_
        -- region 10
        refine wc_region ?_
        refine wl (y_add rfl rfl (w64 (by omega) (by omega))) rfl ?_
        refine wl (y_move rfl) rfl ?_
        refine wl_nil ?_
        exact ⟨j + 1, by omega, sub_cons rfl (sub_cons rfl (sub_cons rfl (sub_cons (by rw [e]; rfl) (sub_cons rfl sub_nil)))), by omega, hS⟩
    · try simp only [decide_eq_true_eq, decide_eq_false_iff_not, Bool.not_eq_true', Bool.not_eq_false', Bool.not_true, Bool.not_false, Bool.not_eq_eq_eq_not] at hc9
      refine wc_exit ?_
      -- region 11
      refine wc_region ?_
      refine wl (y_move rfl) rfl ?_
      refine wl (y_move rfl) rfl ?_
      refine wl (y_ixa_ar Try.underlying45 sz_23 rfl rfl (by omega) (by omega)) rfl ?_
      obtain rfl : j = 8 := by omega
      refine a_store sz_23 rfl rfl rfl hS (by simp only [List.size_toArray, tabTo_length]; omega) fun w hS => ?_
      simp only [Nat.zero_add, Int.toNat_natCast, Nat.mul_one] at hS
      refine wl_nil ?_
      -- region 12
      refine wc_region ?_
      refine wl (y_add rfl rfl (w64 (by omega) (by omega))) rfl ?_
      refine wl (y_move rfl) rfl ?_
      refine wl_nil ?_
      exact ⟨k + 1, by omega, sub_cons rfl (sub_cons rfl sub_nil), by omega, by rw [← tabTo_set k (by omega)]; exact hS⟩
  · try simp only [decide_eq_true_eq, decide_eq_false_iff_not, Bool.not_eq_true', Bool.not_eq_false', Bool.not_true, Bool.not_false, Bool.not_eq_eq_eq_not] at hc4
    obtain rfl : k = 256 := by omega
    refine wc_exit ?_
    refine wc_seq ?_
    -- region 13
    refine wc_region ?_
    refine wl (y_loadArr Try.underlying45 sz_45 rfl hS.all (tabTo_length 256)) rfl ?_
    refine a_storeS (vs := tabTo 256) sz_45 rfl rfl (by decide +kernel) (tabTo_length 256) hS (by simp [tabTo_length]) fun w hS => ?_
    rw [setCells_self] at hS
    refine wl_nil ?_
    refine wc_ret ?_
    refine wret (vs := [_]) (.cell rfl (loadVar_array Try.underlying45 sz_45 (tabTo_length 256) hS.all) .nil) ?_
    exact ⟨rfl, hS.drop⟩


theorem table_c {M : Mem} {w : World} {Ls : List Chunk} (hS : St M w Ls) :
    CallsR Try.prog 24 [].toArray w fun v w' => v = tableV ∧ St M w' Ls := by
  refine calls_of (c := _) (rs := _) (n := 2) Try.func24 rfl rfl rfl rfl rfl ?_
  refine wc_seq ?_
  -- region 0
  refine wc_region ?_
  refine a_alloc z_45 hS rfl fun b0 w hS => ?_
  refine wl_nil ?_
  refine wc_seq ?_
  -- region 1
  refine wc_region ?_
  refine wl_call .nil (build_c hS) rfl ?_
  rintro _ w ⟨rfl, hS⟩
  refine a_storeS (vs := tabTo 256) sz_45 rfl rfl (by decide +kernel) (tabTo_length 256) hS (by show _ ≤ (List.replicate 256 _).toArray.size; rw [List.size_toArray, List.length_replicate]; decide) fun w hS => ?_
  replace hS : St M w ([(b0, .cells (setCells (List.replicate 256 (.int .u32 0)).toArray 0 (tabTo 256)) 45)] :: Ls) := hS
  rw [setCells_whole _ _ (by rw [List.length_replicate, tabTo_length])] at hS
  refine wl_nil ?_
  refine wc_ret ?_
  refine wret (vs := [_]) (.cell rfl (loadVar_array Try.underlying45 sz_45 (tabTo_length 256) hS.all) .nil) ?_
  exact ⟨rfl, hS.drop⟩

theorem tabTo_at (x : BitVec 8) : (tabTo 256)[(x.toNat : Int).toNat]? = some (.int .u32 ((ent x.toNat).toNat : Int)) := by
  have h := x.isLt
  simp [tabTo, List.getElem?_map, List.getElem?_range h]
  exact fun h' => absurd h' (by omega)
theorem bget (b : ByteArray) (k : Nat) (h : k < b.size) : b[(k : Int).toNat]? = some b[k] := by
  simp [h]
theorem take_succ (b : ByteArray) (k : Nat) (h : k < b.size) : b.data.toList.take (k + 1) = b.data.toList.take k ++ [b[k]] := by
  rw [List.take_succ_eq_append_getElem (by simpa using h)]; rfl

theorem more_c {M : Mem} {w : World} {Ls : List Chunk} (s : BitVec 32) (b : ByteArray) (hb : b.size ≤ 140737488351232) (hS : St M w Ls) :
    CallsR Try.prog 12 [.int .u32 (s.toNat : Int), .string b].toArray w fun v w' => v = .int .u32 ((more s b).toNat : Int) ∧ St M w' Ls := by
  refine calls_of (c := _) (rs := _) (n := 28) Try.func12 rfl rfl rfl rfl rfl ?_
  refine wc_seq ?_
  -- region 0
  refine wc_region ?_
  refine wl (y_assign rfl) rfl ?_
  refine wl_nil ?_
  refine wc_seq ?_
  -- region 1
  refine wc_region ?_
  refine wl (y_move rfl) rfl ?_
  refine wl (y_compl rfl (bvnot32 _)) rfl ?_
  refine wl (y_assign rfl) rfl ?_
  refine wl_nil ?_
  refine wc_seq ?_
  refine wc_seq ?_
  -- region 2
  refine wc_region ?_
  refine wl (y_move rfl) rfl ?_
  refine wl (y_len_s Try.underlying9 rfl) rfl ?_
  refine wl (y_move rfl) rfl ?_
  refine wl_nil ?_
  refine wc_block ?_
  refine wc_loop (α := Nat) (fun k => [(1, .string b), (10, .int .i64 b.size), (11, .int .i64 k), (5, .int .u32 ((crun (~~~ s) (b.data.toList.take k)).toNat : Int))]) (fun k w => k ≤ b.size ∧ St M w Ls) (fun k => b.size - k) 0 (sub_cons rfl (sub_cons rfl (sub_cons rfl (sub_cons rfl sub_nil)))) ⟨by omega, hS⟩ ?_
  rintro k w ⟨hk, hS⟩
  refine wc_seq ?_
  -- region 3
  refine wc_region ?_
  refine wl (y_lss rfl rfl) rfl ?_
  refine wl_nil ?_
  refine wc_seq ?_
  refine wc_if rfl (fun hc12 => ?_) (fun hc12 => ?_)
  · try simp only [decide_eq_true_eq, decide_eq_false_iff_not, Bool.not_eq_true', Bool.not_eq_false', Bool.not_true, Bool.not_false, Bool.not_eq_eq_eq_not] at hc12
    refine wc_skip ?_
    refine wc_seq ?_
    refine wc_block ?_
    refine wc_seq ?_
    -- region 4
    refine wc_region ?_
    refine wl (y_move rfl) rfl ?_
    refine wl (y_assign rfl) rfl ?_
    refine wl_nil ?_
    have hk' : k < b.size := by omega
    have hidx := bget b k hk'
    have h8 := ((BitVec.setWidth 8 (crun (~~~ s) (b.data.toList.take k))) ^^^ b[k].toBitVec).isLt
    have hcr : crun (~~~ s) (b.data.toList.take (k + 1)) = _ := (congrArg (crun (~~~ s)) (take_succ b k hk')).trans (crun_append _ _ _)
    -- region 5
    refine wc_draw (l0 := #[false, false, false, false, false, false, false, false, false, false, false, false]) (fun _ => True) [] wide_ rfl rfl fun w hw => ?_
    replace hS := hS.same hw; clear hw
    refine dr_pure (i := 0) #[true, false, false, false, false, false, false, false, false, false, false, false] rfl rfl (by kernel_rfl) (fun w => y_move rfl) ?_
    refine dr_pure (i := 1) #[true, true, false, false, false, false, false, false, false, false, false, false] rfl rfl (by kernel_rfl) (fun w => y_shr rfl rfl (by decide) (bvshr32 _ 8)) ?_
    refine dr_pure (i := 3) #[true, true, false, true, false, false, false, false, false, false, false, false] rfl rfl (by kernel_rfl) (fun w => y_move rfl) ?_
    refine dr_pure (i := 4) #[true, true, false, true, true, false, false, false, false, false, false, false] rfl rfl (by kernel_rfl) (fun w => y_conv Try.underlying23 Try.underlying5 rfl (bvconv_u32_u8 _)) ?_
    refine dr_pure (i := 5) #[true, true, false, true, true, true, false, false, false, false, false, false] rfl rfl (by kernel_rfl) (fun w => y_move rfl) ?_
    refine dr_pure (i := 6) #[true, true, false, true, true, true, true, false, false, false, false, false] rfl rfl (by kernel_rfl) (fun w => y_move rfl) ?_
    refine dr_pure (i := 7) #[true, true, false, true, true, true, true, true, false, false, false, false] rfl rfl (by kernel_rfl) (fun w => y_idx_s Try.underlying9 rfl rfl (by omega) hidx) ?_
    refine dr_pure (i := 8) #[true, true, false, true, true, true, true, true, true, false, false, false] rfl rfl (by kernel_rfl) (fun w => y_xor rfl rfl (bvxor8 _ _)) ?_
    refine dr_do (i := 2) #[true, true, true, true, true, true, true, true, true, false, false, false] rfl (by kernel_rfl) ?_
    refine wl_call .nil (table_c hS) rfl ?_
    rintro _ w ⟨rfl, hS⟩
    refine wl_nil ⟨fun _ _ => trivial, ?_⟩
    refine dr_pure (i := 9) #[true, true, true, true, true, true, true, true, true, true, false, false] rfl rfl (by kernel_rfl) (fun w => y_idx_ar Try.underlying45 pl_23 sz_23 rfl rfl (by omega) (by omega) (tabTo_at _)) ?_
    refine dr_pure (i := 10) #[true, true, true, true, true, true, true, true, true, true, true, false] rfl rfl (by kernel_rfl) (fun w => y_xor rfl rfl (bvxor32 _ _)) ?_
    refine dr_pure (i := 11) #[true, true, true, true, true, true, true, true, true, true, true, true] rfl rfl (by kernel_rfl) (fun w => y_assign rfl) ?_
    refine dr_done (by kernel_rfl) ?_
    -- region 6
    refine wc_region ?_
    refine wl (y_add rfl rfl (w64 (by omega) (by omega))) rfl ?_
    refine wl (y_move rfl) rfl ?_
    refine wl_nil ?_
    exact ⟨k + 1, by omega, sub_cons rfl (sub_cons rfl (sub_cons rfl (sub_cons (by rw [hcr]; rfl) sub_nil))), by omega, hS⟩
  · try simp only [decide_eq_true_eq, decide_eq_false_iff_not, Bool.not_eq_true', Bool.not_eq_false', Bool.not_true, Bool.not_false, Bool.not_eq_eq_eq_not] at hc12
    obtain rfl : k = b.size := by omega
    have hcr : b.data.toList.take b.size = b.data.toList := List.take_of_length_le (by simp)
    refine wc_exit ?_
    refine wc_seq ?_
    -- region 7
    refine wc_region ?_
    refine wl (y_move rfl) rfl ?_
    refine wl (y_compl rfl (bvnot32 _)) rfl ?_
    refine wl (y_assign rfl) rfl ?_
    refine wl_nil ?_
    refine wc_ret ?_
    refine wret (vs := [_]) (.tmp rfl .nil) ?_
    exact ⟨by rw [hcr]; rfl, hS⟩

theorem sum_c {M : Mem} {w : World} {Ls : List Chunk} (b : ByteArray) (hb : b.size ≤ 140737488351232) (hS : St M w Ls) :
    CallsR Try.prog 10 [.string b].toArray w fun v w' => v = .int .u32 ((sum b).toNat : Int) ∧ St M w' Ls := by
  refine calls_of (c := _) (rs := _) (n := 5) Try.func10 rfl rfl rfl rfl rfl ?_
  refine wc_seq ?_
  -- region 0
  refine wc_region ?_
  refine wl (y_assign rfl) rfl ?_
  refine wl_nil ?_
  refine wc_seq ?_
  -- region 1
  refine wc_region ?_
  refine wl (y_move rfl) rfl ?_
  refine wl_call (.cons rfl (.cons rfl .nil)) (more_c 0#32 b hb hS) rfl ?_
  rintro _ w ⟨rfl, hS⟩
  refine wl (y_assign rfl) rfl ?_
  refine wl_nil ?_
  refine wc_ret ?_
  refine wret (vs := [_]) (.tmp rfl .nil) ?_
  exact ⟨rfl, hS⟩


/-- a sum's bytes -/
def le4 (x : BitVec 32) : List UInt8 := [⟨x.setWidth 8⟩, ⟨(x >>> 8).setWidth 8⟩, ⟨(x >>> 16).setWidth 8⟩, ⟨(x >>> 24).setWidth 8⟩]
def seal_ (b : ByteArray) : ByteArray := ⟨(b.data.toList ++ le4 (sum b)).toArray⟩
theorem append_mk (b : ByteArray) (l : List UInt8) : b ++ (⟨l.toArray⟩ : ByteArray) = ⟨(b.data.toList ++ l).toArray⟩ := by
  apply bytes_eq; simp

theorem bytes_c {M : Mem} {w : World} {Ls : List Chunk} (x : BitVec 32) (hS : St M w Ls) :
    CallsR Try.prog 25 [.int .u32 (x.toNat : Int)].toArray w fun v w' => v = .string ⟨(le4 x).toArray⟩ ∧ St M w' Ls := by
  refine calls_of (c := _) (rs := _) (n := 16) Try.func25 rfl rfl rfl rfl rfl ?_
  refine wc_seq ?_
  -- region 0
  refine wc_region ?_
  refine wl (y_assign rfl) rfl ?_
  refine wl_nil ?_
  refine wc_seq ?_
  -- region 1
  refine wc_region ?_
  refine wl (y_move rfl) rfl ?_
  refine wl (y_conv Try.underlying23 Try.underlying5 rfl (bvconv_u32_u8 _)) rfl ?_
  refine wl (y_move rfl) rfl ?_
  refine wl (y_shr rfl rfl (by decide) (bvshr32 _ 8)) rfl ?_
  refine wl (y_conv Try.underlying23 Try.underlying5 rfl (bvconv_u32_u8 _)) rfl ?_
  refine wl (y_move rfl) rfl ?_
  refine wl (y_shr rfl rfl (by decide) (bvshr32 _ 16)) rfl ?_
  refine wl (y_conv Try.underlying23 Try.underlying5 rfl (bvconv_u32_u8 _)) rfl ?_
  refine wl (y_move rfl) rfl ?_
  refine wl (y_shr rfl rfl (by decide) (bvshr32 _ 24)) rfl ?_
  refine wl (y_conv Try.underlying23 Try.underlying5 rfl (bvconv_u32_u8 _)) rfl ?_
  refine a_bslice encB (le4 x) (vs := [_, _, _, _]) (ps := [(0, .tmp 4), (1, .tmp 7), (2, .tmp 10), (3, .tmp 13)]) Try.underlying33 sz_5 z_5 rfl (.cons rfl (.cons rfl (.cons rfl (.cons rfl .nil)))) rfl rfl rfl (by decide) hS rfl fun s H w ho hS => ?_
  refine wl (y_b2sh Try.underlying33 Try.underlying9 Try.underlying5 rfl (ho.holds hS)) rfl ?_
  refine wl (y_assign rfl) rfl ?_
  refine wl_nil ?_
  refine wc_ret ?_
  refine wret (vs := [_]) (.tmp rfl .nil) ?_
  exact ⟨rfl, hS.drop⟩

theorem seal_c {M : Mem} {w : World} {Ls : List Chunk} (b : ByteArray) (hb : b.size ≤ 140737488351232) (hS : St M w Ls) :
    CallsR Try.prog 15 [.string b].toArray w fun v w' => v = .string (seal_ b) ∧ St M w' Ls := by
  refine calls_of (c := _) (rs := _) (n := 8) Try.func15 rfl rfl rfl rfl rfl ?_
  refine wc_seq ?_
  -- region 0
  refine wc_region ?_
  refine wl (y_assign rfl) rfl ?_
  refine wl_nil ?_
  refine wc_seq ?_
  -- region 1
  refine wc_region ?_
  refine wl (y_move rfl) rfl ?_
  refine wl (y_move rfl) rfl ?_
  refine wl_call (.cons rfl .nil) (sum_c b hb hS) rfl ?_
  rintro _ w ⟨rfl, hS⟩
  refine wl_call (.cons rfl .nil) (bytes_c _ hS) rfl ?_
  rintro _ w ⟨rfl, hS⟩
  refine wl (y_sadd rfl rfl (by simp only [ByteArray.size, List.size_toArray, le4, List.length_cons, List.length_nil] at *; omega)) rfl ?_
  refine wl (y_assign rfl) rfl ?_
  refine wl_nil ?_
  refine wc_ret ?_
  refine wret (vs := [_]) (.tmp rfl .nil) ?_
  exact ⟨by rw [append_mk]; rfl, hS⟩

/-- what was sealed -/
def open_ (b : ByteArray) : Option ByteArray :=
  if b.size < 4 then none else if seal_ (b.extract 0 (b.size - 4)) = b then some (b.extract 0 (b.size - 4)) else none
def openV : Option ByteArray → Value
  | none => .tuple #[.string ByteArray.empty, .bool false]
  | some s => .tuple #[.string s, .bool true]

theorem open_c {M : Mem} {w : World} {Ls : List Chunk} (b : ByteArray) (hb : b.size ≤ 140737488351232) (hS : St M w Ls) :
    CallsR Try.prog 13 [.string b].toArray w fun v w' => v = openV (open_ b) ∧ St M w' Ls := by
  refine calls_of (c := _) (rs := _) (n := 21) Try.func13 rfl rfl rfl rfl rfl ?_
  refine wc_seq ?_
  -- region 0
  refine wc_region ?_
  refine wl (y_assign rfl) rfl ?_
  refine wl (y_assign rfl) rfl ?_
  refine wl_nil ?_
  refine wc_seq ?_
  -- region 1
  refine wc_region ?_
  refine wl (y_move rfl) rfl ?_
  refine wl (y_len_s Try.underlying9 rfl) rfl ?_
  refine wl (y_sub rfl rfl (w64 (by omega) (by omega))) rfl ?_
  refine wl (y_assign rfl) rfl ?_
  refine wl_nil ?_
  refine wc_seq ?_
  refine wc_seq ?_
  -- region 2
  refine wc_region ?_
  refine wl (y_move rfl) rfl ?_
  refine wl (y_lss rfl rfl) rfl ?_
  refine wl (y_move rfl) rfl ?_
  refine wl_cases (s := 10) rfl (fun hg10 => ?_) (fun hg10 => ?_)
  · try simp only [decide_eq_true_eq, decide_eq_false_iff_not, Bool.not_eq_true', Bool.not_eq_false', Bool.not_true, Bool.not_false, Bool.not_eq_eq_eq_not] at hg10
    refine wl_off rfl rfl rfl rfl ?_
    refine wl_off rfl rfl rfl rfl ?_
    refine wl_off rfl rfl rfl rfl ?_
    refine wl_off rfl rfl rfl rfl ?_
    refine wl_off rfl rfl rfl rfl ?_
    refine wl_off rfl rfl rfl rfl ?_
    refine wl (y_pickT rfl rfl) rfl ?_
    refine wl_nil ?_
    refine wc_ifT rfl rfl ?_
    refine wc_seq ?_
    -- region 3
    refine wc_region ?_
    refine wl (y_assign rfl) rfl ?_
    refine wl (y_assign rfl) rfl ?_
    refine wl_nil ?_
    refine wc_ret ?_
    refine wret (vs := [_, _]) (.tmp rfl (.tmp rfl .nil)) ?_
    refine ⟨?_, hS⟩
    unfold open_
    first
    | (rw [if_pos (by omega)]; rfl)
    | (rw [if_neg (by omega), if_neg hc17]; rfl)
    | (rw [if_neg (by omega), if_pos hc17]; rfl)
  · try simp only [decide_eq_true_eq, decide_eq_false_iff_not, Bool.not_eq_true', Bool.not_eq_false', Bool.not_true, Bool.not_false, Bool.not_eq_eq_eq_not] at hg10
    have e4 : ((b.size : Int) - 4).toNat = b.size - 4 := by omega
    refine wl_on rfl rfl ?_
    refine wl (y_move rfl) rfl ?_
    refine wl_on rfl rfl ?_
    refine wl (y_move rfl) rfl ?_
    refine wl_on rfl rfl ?_
    refine wl (y_sl_s Try.underlying9 rfl (lv := 0) rfl ⟨_, _, rfl, by omega, e4⟩ (by omega) (by omega) rfl) rfl ?_
    refine wl_on rfl rfl ?_
    refine wl_call (.cons rfl .nil) (seal_c _ (by rw [ByteArray.size_extract]; omega) hS) rfl ?_
    rintro _ w ⟨rfl, hS⟩
    refine wl_on rfl rfl ?_
    refine wl (y_move rfl) rfl ?_
    refine wl_on rfl rfl ?_
    refine wl (y_sneq rfl rfl) rfl ?_
    refine wl (y_pickF rfl rfl) rfl ?_
    refine wl_nil ?_
    refine wc_if rfl (fun hc17 => ?_) (fun hc17 => ?_)
    · try simp only [decide_eq_true_eq, decide_eq_false_iff_not, Bool.not_eq_true', Bool.not_eq_false', Bool.not_true, Bool.not_false, Bool.not_eq_eq_eq_not] at hc17
      refine wc_seq ?_
      -- region 3
      refine wc_region ?_
      refine wl (y_assign rfl) rfl ?_
      refine wl (y_assign rfl) rfl ?_
      refine wl_nil ?_
      refine wc_ret ?_
      refine wret (vs := [_, _]) (.tmp rfl (.tmp rfl .nil)) ?_
      refine ⟨?_, hS⟩
      unfold open_
      first
      | (rw [if_pos (by omega)]; rfl)
      | (rw [if_neg (by omega), if_neg hc17]; rfl)
      | (rw [if_neg (by omega), if_pos hc17]; rfl)
    · try simp only [decide_eq_true_eq, decide_eq_false_iff_not, Bool.not_eq_true', Bool.not_eq_false', Bool.not_true, Bool.not_false, Bool.not_eq_eq_eq_not] at hc17
      refine wc_skip ?_
      refine wc_seq ?_
      -- region 4
      refine wc_region ?_
      refine wl (y_move rfl) rfl ?_
      refine wl (y_move rfl) rfl ?_
      refine wl (y_sl_s Try.underlying9 rfl (lv := 0) rfl ⟨_, _, rfl, by omega, e4⟩ (by omega) (by omega) rfl) rfl ?_
      refine wl (y_assign rfl) rfl ?_
      refine wl (y_assign rfl) rfl ?_
      refine wl_nil ?_
      refine wc_ret ?_
      refine wret (vs := [_, _]) (.tmp rfl (.tmp rfl .nil)) ?_
      refine ⟨?_, hS⟩
      unfold open_
      first
      | (rw [if_pos (by omega)]; rfl)
      | (rw [if_neg (by omega), if_neg hc17]; rfl)
      | (rw [if_neg (by omega), if_pos hc17]; rfl)

end Go.Proofs.Ytipffnogkijmnaa.Crc
