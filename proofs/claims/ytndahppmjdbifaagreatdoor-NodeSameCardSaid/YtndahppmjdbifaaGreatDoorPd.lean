/-
  Part 4 of the proof: RcvC, LnkC, LnfC, LnhC, JnlC, Eng11, JadC, CliC, CldC, ClpC, CltC, NodC, NopC, NotC, NlkC.
-/
import Derived.Test.YtndahppmjdbifaaGreatDoorPc
set_option linter.unusedVariables false
set_option linter.unusedSimpArgs false
namespace Go.Proofs.YtndahppmjdbifaaGreatDoor.Snd
open Go Go.Proofs Go.Proofs.YtndahppmjdbifaaGreatDoor.Eng

/-! ### layer 11: all that was taken, how many were popped, the room -/
structure Rcv where
  room : Nat
  all : List ByteArray
  popped : Nat
def Rcv.wait (m : Rcv) : Nat := m.all.length - m.popped
def Rcv.ok (m : Rcv) : Prop := 1 ≤ m.room ∧ m.room ≤ 16 ∧ m.popped ≤ m.all.length ∧ m.wait ≤ m.room ∧ m.all.length ≤ 1125899906842624
def Rcv.new (room : Int) : Rcv := ⟨(min (max room 1) 16).toNat, [], 0⟩
def Rcv.hears (m : Rcv) (seq : Int) : Bool := decide (¬ m.wait = m.room ∧ seq = (m.all.length : Int) + 1)
def Rcv.hear (m : Rcv) (seq : Int) (d : ByteArray) : Rcv := if m.hears seq then ⟨m.room, m.all ++ [d], m.popped⟩ else m
def Rcv.popV (m : Rcv) : Value := match m.all[m.popped]? with
  | some d => .tuple [.string d, .bool true].toArray
  | none => .tuple [.string ⟨#[]⟩, .bool false].toArray
def Rcv.pop (m : Rcv) : Rcv := if m.popped < m.all.length then ⟨m.room, m.all, m.popped + 1⟩ else m
theorem Rcv.new_ok (room : Int) : (Rcv.new room).ok := by unfold Rcv.new Rcv.ok Rcv.wait; simp only [List.length_nil]; omega
theorem Rcv.hear_ok {m : Rcv} (h : m.ok) (seq : Int) (hs : seq ≤ 1125899906842624) (d : ByteArray) : (m.hear seq d).ok := by
  unfold Rcv.hear
  split
  · rename_i hh
    unfold Rcv.hears at hh
    have hh := of_decide_eq_true hh
    unfold Rcv.ok Rcv.wait at *
    simp only [List.length_append, List.length_singleton]
    omega
  · exact h
theorem Rcv.pop_ok {m : Rcv} (h : m.ok) : m.pop.ok := by
  unfold Rcv.pop
  split
  · unfold Rcv.ok Rcv.wait at *; simp only; omega
  · exact h
/-- the cells -/
def rc (a b : Int) (ring : List ByteArray) (f n : Int) : List Value := .int .i64 a :: .int .i64 b :: (ring.map Value.string ++ [.int .i64 f, .int .i64 n])
section
variable {a b f n : Int} {ring : List ByteArray}
theorem rc0 : (rc a b ring f n).toArray[0]? = some (.int .i64 a) := rfl
theorem rc1 : (rc a b ring f n).toArray[1]? = some (.int .i64 b) := rfl
theorem rc18 (h : ring.length = 16) : (rc a b ring f n).toArray[18]? = some (.int .i64 f) := by simp [rc, List.getElem?_append, h]
theorem rc19 (h : ring.length = 16) : (rc a b ring f n).toArray[19]? = some (.int .i64 n) := by simp [rc, List.getElem?_append, h]
theorem rcr (h : ring.length = 16) (k : Nat) (hk : k < 16) (d : ByteArray) (hd : ring[k]? = some d) : (rc a b ring f n).toArray[2 + k]? = some (.string d) := by
  simp only [rc, List.getElem?_toArray]
  rw [show 2 + k = k + 1 + 1 by omega, List.getElem?_cons_succ, List.getElem?_cons_succ, List.getElem?_append_left (by rw [List.length_map, h]; exact hk), List.getElem?_map, hd]
  rfl
theorem rc_size (h : ring.length = 16) : (rc a b ring f n).toArray.size = 20 := by simp [rc, h]
theorem rs1 {b' : Int} : (rc a b ring f n).toArray.setIfInBounds 1 (.int .i64 b') = (rc a b' ring f n).toArray := by simp [rc]
theorem rs18 (h : ring.length = 16) {f' : Int} : (rc a b ring f n).toArray.setIfInBounds 18 (.int .i64 f') = (rc a b ring f' n).toArray := by
  simp only [rc, List.setIfInBounds_toArray, List.set_cons_succ]
  rw [List.set_append_right _ _ (by simp [h])]
  simp [h]
theorem rs19 (h : ring.length = 16) {n' : Int} : (rc a b ring f n).toArray.setIfInBounds 19 (.int .i64 n') = (rc a b ring f n').toArray := by
  simp only [rc, List.setIfInBounds_toArray, List.set_cons_succ]
  rw [List.set_append_right _ _ (by simp [h])]
  simp [h]
theorem rsr (h : ring.length = 16) (k : Nat) (hk : k < 16) {d : ByteArray} : (rc a b ring f n).toArray.setIfInBounds (2 + k) (.string d) = (rc a b (ring.set k d) f n).toArray := by
  simp only [rc, List.setIfInBounds_toArray]
  rw [show 2 + k = k + 1 + 1 by omega, List.set_cons_succ, List.set_cons_succ, List.set_append_left _ _ (by simp [h, hk]), List.map_set]
end
def IsRc (p : Nat) (m : Rcv) (H : Chunk) : Prop := ∃ (fr : Nat) (ring : List ByteArray), fr < 16 ∧ ring.length = 16 ∧ (∀ i, i < m.wait → ring[(fr + i) % 16]? = m.all[m.popped + i]?) ∧ H = [(p, .cells (rc m.room m.all.length ring fr m.wait).toArray 219)]
section
variable {M : Mem} {w : World} {Ls : List Chunk}
theorem cnew_c (room : Int) (hS : St M w Ls) : CallsR Tryz.prog 173 [.int .i64 room].toArray w fun v w' => ∃ p H, v = .pointer (some ⟨p, 0, none⟩) ∧ IsRc p (Rcv.new room) H ∧ St M w' (H :: Ls) := by
  refine calls_of (c := _) (rs := _) (n := 8) Tryz.func173 rfl rfl rfl rfl rfl ?_
  refine wc_seq ?_
  refine wc_region ?_
  refine wl (y_assign rfl) rfl ?_
  refine wl_nil ?_
  refine wc_seq ?_
  refine wc_region ?_
  refine wl (y_move rfl) rfl ?_
  refine wl (y_max rfl rfl) rfl ?_
  refine wl ((y_min rfl rfl).val (u := .int .i64 ((min (max room 1) 16).toNat : Nat)) (congrArg (Value.int .i64) (by omega))) rfl ?_
  refine wl (y_build (is := [0]) (xs := [_]) (out := [_, _, _, _, _, _, _, _, _, _, _, _, _, _, _, _, _, _, _, _]) plc_219 z_219 (.cons rfl .nil) rfl) rfl ?_
  refine a_box rfl hS rfl fun b7 w hS => ?_
  refine wl (y_assign rfl) rfl ?_
  refine wl_nil ?_
  refine wc_ret ?_
  refine wret (vs := [_]) (.tmp rfl .nil) ?_
  exact ⟨_, _, rfl, ⟨0, List.replicate 16 ByteArray.empty, by omega, rfl, (fun i h => absurd h (by unfold Rcv.new Rcv.wait; simp)), rfl⟩, hS⟩
theorem cack_c {p : Nat} {m : Rcv} {H : Chunk} (hb : IsRc p m H) (hS : St M w (H :: Ls)) : CallsR Tryz.prog 126 [.pointer (some ⟨p, 0, none⟩)].toArray w fun v w' => v = .int .i64 m.all.length ∧ St M w' (H :: Ls) := by
  obtain ⟨fr, ring, h1, h2, h3, rfl⟩ := hb
  refine calls_of (c := _) (rs := _) (n := 7) Tryz.func126 rfl rfl rfl rfl rfl ?_
  refine wc_seq ?_
  refine wc_region ?_
  refine wl (y_assign rfl) rfl ?_
  refine wl_nil ?_
  refine wc_seq ?_
  refine wc_region ?_
  refine wl (y_move rfl) rfl ?_
  refine wl (y_nil rfl) rfl ?_
  refine wl (y_fld fl_219_1 rfl) rfl ?_
  refine wl (y_load pl_3 rfl (hS.cell rc1)) rfl ?_
  refine wl (y_assign rfl) rfl ?_
  refine wl_nil ?_
  refine wc_ret ?_
  refine wret (vs := [_]) (.tmp rfl .nil) ?_
  exact ⟨rfl, hS⟩
theorem cwait_c {p : Nat} {m : Rcv} {H : Chunk} (hb : IsRc p m H) (hS : St M w (H :: Ls)) : CallsR Tryz.prog 118 [.pointer (some ⟨p, 0, none⟩)].toArray w fun v w' => v = .int .i64 m.wait ∧ St M w' (H :: Ls) := by
  obtain ⟨fr, ring, h1, h2, h3, rfl⟩ := hb
  refine calls_of (c := _) (rs := _) (n := 7) Tryz.func118 rfl rfl rfl rfl rfl ?_
  refine wc_seq ?_
  refine wc_region ?_
  refine wl (y_assign rfl) rfl ?_
  refine wl_nil ?_
  refine wc_seq ?_
  refine wc_region ?_
  refine wl (y_move rfl) rfl ?_
  refine wl (y_nil rfl) rfl ?_
  refine wl (y_fld fl_219_4 rfl) rfl ?_
  refine wl (y_load pl_3 rfl (hS.cell (rc19 h2))) rfl ?_
  refine wl (y_assign rfl) rfl ?_
  refine wl_nil ?_
  refine wc_ret ?_
  refine wret (vs := [_]) (.tmp rfl .nil) ?_
  exact ⟨rfl, hS⟩
theorem cplace_c {p : Nat} {a b n : Int} {ring : List ByteArray} {fr : Nat} (i : Nat) (h1 : fr < 16) (h2 : ring.length = 16) (hi : i ≤ 16) (hS : St M w ([(p, .cells (rc a b ring fr n).toArray 219)] :: Ls)) :
    CallsR Tryz.prog 174 [.pointer (some ⟨p, 0, none⟩), .int .i64 i].toArray w fun v w' => v = .int .i64 ((fr + i) % 16 : Nat) ∧ St M w' ([(p, .cells (rc a b ring fr n).toArray 219)] :: Ls) := by
  refine calls_of (c := _) (rs := _) (n := 12) Tryz.func174 rfl rfl rfl rfl rfl ?_
  refine wc_seq ?_
  refine wc_region ?_
  refine wl (y_assign rfl) rfl ?_
  refine wl_nil ?_
  refine wc_seq ?_
  refine wc_region ?_
  refine wl (y_move rfl) rfl ?_
  refine wl (y_nil rfl) rfl ?_
  refine wl (y_fld fl_219_3 rfl) rfl ?_
  refine wl (y_load pl_3 rfl (hS.cell (rc18 h2))) rfl ?_
  refine wl (y_move rfl) rfl ?_
  refine wl (y_add rfl rfl (w64 (by omega) (by omega))) rfl ?_
  refine wl (y_rem rfl rfl (by decide) (show ((fr : Int) + (i : Int)).tmod 16 = (((fr + i) % 16 : Nat) : Int) from rfl)) rfl ?_
  refine wl (y_assign rfl) rfl ?_
  refine wl_nil ?_
  refine wc_ret ?_
  refine wret (vs := [_]) (.tmp rfl .nil) ?_
  exact ⟨rfl, hS⟩
theorem hear_ring {m : Rcv} {ring : List ByteArray} {fr : Nat} {d : ByteArray} (h2 : ring.length = 16) (hp : m.popped ≤ m.all.length) (hw : m.wait < 16)
    (h3 : ∀ i, i < m.wait → ring[(fr + i) % 16]? = m.all[m.popped + i]?) : ∀ i, i < (⟨m.room, m.all ++ [d], m.popped⟩ : Rcv).wait → (ring.set ((fr + m.wait) % 16) d)[(fr + i) % 16]? = (m.all ++ [d])[m.popped + i]? := by
  intro i hi
  have hwv : (⟨m.room, m.all ++ [d], m.popped⟩ : Rcv).wait = m.wait + 1 := by unfold Rcv.wait; simp only [List.length_append, List.length_singleton]; omega
  rw [hwv] at hi
  by_cases h : i = m.wait
  · subst h
    rw [List.getElem?_set_self (by rw [h2]; omega), List.getElem?_append_right (by unfold Rcv.wait; omega), show m.popped + m.wait - m.all.length = 0 by unfold Rcv.wait; omega]
    rfl
  · rw [List.getElem?_set_ne (by omega), h3 i (by omega), List.getElem?_append_left (by unfold Rcv.wait at *; omega)]
theorem chear_c {p : Nat} {m : Rcv} {H : Chunk} (seq : Int) (d : ByteArray) (hm : m.ok) (hb : IsRc p m H) (hS : St M w (H :: Ls)) :
    CallsR Tryz.prog 139 [.pointer (some ⟨p, 0, none⟩), .int .i64 seq, .string d].toArray w fun v w' => ∃ H', v = .bool (m.hears seq) ∧ IsRc p (m.hear seq d) H' ∧ St M w' (H' :: Ls) := by
  have hb0 := hb
  obtain ⟨fr, ring, h1, h2, h3, rfl⟩ := hb
  obtain ⟨k1, k2, k3, k4, k5⟩ := hm
  by_cases hfull : m.wait = m.room
  · have hh : m.hears seq = false := by unfold Rcv.hears; exact decide_eq_false (fun h => h.1 hfull)
    have hq : m.hear seq d = m := by unfold Rcv.hear; rw [hh]; rfl
    rw [hh, hq]
    refine calls_of (c := _) (rs := _) (n := 50) Tryz.func139 rfl rfl rfl rfl rfl ?_
    refine wc_seq ?_
    refine wc_region ?_
    refine wl (y_assign rfl) rfl ?_
    refine wl_nil ?_
    refine wc_seq ?_
    refine wc_seq ?_
    refine wc_draw (l0 := (lb 18 0)) (fun w => w.cell? ⟨p, 19, none⟩ = some (.int .i64 m.wait) ∧ w.cell? ⟨p, 0, none⟩ = some (.int .i64 m.room)) [] wide_ rfl rfl fun w hw => ?_
    replace hS := hS.same hw; clear hw
    refine dr_pure (i := 0) (lb 18 1) rfl rfl (by kernel_rfl) (fun w => y_move rfl) ?_
    refine dr_pure (i := 1) (lb 18 3) rfl rfl (by kernel_rfl) (fun w => y_nil rfl) ?_
    refine dr_pure (i := 2) (lb 18 7) rfl rfl (by kernel_rfl) (fun w => y_fld fl_219_4 rfl) ?_
    refine dr_pure (i := 4) (lb 18 23) rfl rfl (by kernel_rfl) (fun w => y_move rfl) ?_
    refine dr_pure (i := 5) (lb 18 55) rfl rfl (by kernel_rfl) (fun w => y_nil rfl) ?_
    refine dr_pure (i := 6) (lb 18 119) rfl rfl (by kernel_rfl) (fun w => y_fld fl_219_0 rfl) ?_
    refine dr_read (i := 3) (lb 18 127) rfl rfl (by kernel_rfl) ⟨hS.cell (rc19 h2), hS.cell rc0⟩ (fun w hS => y_load pl_3 rfl hS.1) ?_
    refine dr_read (i := 7) (lb 18 255) rfl rfl (by kernel_rfl) ⟨hS.cell (rc19 h2), hS.cell rc0⟩ (fun w hS => y_load pl_3 rfl hS.2) ?_
    refine dr_pure (i := 8) (lb 18 511) rfl rfl (by kernel_rfl) (fun w => (y_eql rfl rfl).val (u := .bool true) (congrArg Value.bool (decide_eq_true (by omega)))) ?_
    refine dr_pure (i := 9) (lb 18 1023) rfl rfl (by kernel_rfl) (fun w => y_move rfl) ?_
    refine dr_off (i := 10) (lb 18 2047) rfl rfl (by kernel_rfl) rfl rfl rfl ?_
    refine dr_off (i := 11) (lb 18 4095) rfl rfl (by kernel_rfl) rfl rfl rfl ?_
    refine dr_off (i := 12) (lb 18 8191) rfl rfl (by kernel_rfl) rfl rfl rfl ?_
    refine dr_off (i := 13) (lb 18 16383) rfl rfl (by kernel_rfl) rfl rfl rfl ?_
    refine dr_off (i := 14) (lb 18 32767) rfl rfl (by kernel_rfl) rfl rfl rfl ?_
    refine dr_off (i := 15) (lb 18 65535) rfl rfl (by kernel_rfl) rfl rfl rfl ?_
    refine dr_off (i := 16) (lb 18 131071) rfl rfl (by kernel_rfl) rfl rfl rfl ?_
    refine dr_pure (i := 17) (lb 18 262143) rfl rfl (by kernel_rfl) (fun w => y_pickT rfl rfl) ?_
    refine dr_done (by kernel_rfl) ?_
    refine wc_ifT rfl (rfl) ?_
    refine wc_seq ?_
    refine wc_region ?_
    refine wl (y_assign rfl) rfl ?_
    refine wl_nil ?_
    refine wc_ret ?_
    refine wret (vs := [_]) (.tmp rfl .nil) ?_
    exact ⟨_, rfl, hb0, hS⟩
  · skip
    refine calls_of (c := _) (rs := _) (n := 50) Tryz.func139 rfl rfl rfl rfl rfl ?_
    refine wc_seq ?_
    refine wc_region ?_
    refine wl (y_assign rfl) rfl ?_
    refine wl_nil ?_
    refine wc_seq ?_
    refine wc_seq ?_
    refine wc_draw (l0 := (lb 18 0)) (fun w => w.cell? ⟨p, 19, none⟩ = some (.int .i64 m.wait) ∧ w.cell? ⟨p, 0, none⟩ = some (.int .i64 m.room) ∧ w.cell? ⟨p, 1, none⟩ = some (.int .i64 m.all.length)) [] wide_ rfl rfl fun w hw => ?_
    replace hS := hS.same hw; clear hw
    refine dr_pure (i := 0) (lb 18 1) rfl rfl (by kernel_rfl) (fun w => y_move rfl) ?_
    refine dr_pure (i := 1) (lb 18 3) rfl rfl (by kernel_rfl) (fun w => y_nil rfl) ?_
    refine dr_pure (i := 2) (lb 18 7) rfl rfl (by kernel_rfl) (fun w => y_fld fl_219_4 rfl) ?_
    refine dr_pure (i := 4) (lb 18 23) rfl rfl (by kernel_rfl) (fun w => y_move rfl) ?_
    refine dr_pure (i := 5) (lb 18 55) rfl rfl (by kernel_rfl) (fun w => y_nil rfl) ?_
    refine dr_pure (i := 6) (lb 18 119) rfl rfl (by kernel_rfl) (fun w => y_fld fl_219_0 rfl) ?_
    refine dr_read (i := 3) (lb 18 127) rfl rfl (by kernel_rfl) ⟨hS.cell (rc19 h2), hS.cell rc0, hS.cell rc1⟩ (fun w hS => y_load pl_3 rfl hS.1) ?_
    refine dr_read (i := 7) (lb 18 255) rfl rfl (by kernel_rfl) ⟨hS.cell (rc19 h2), hS.cell rc0, hS.cell rc1⟩ (fun w hS => y_load pl_3 rfl hS.2.1) ?_
    refine dr_pure (i := 8) (lb 18 511) rfl rfl (by kernel_rfl) (fun w => (y_eql rfl rfl).val (u := .bool false) (congrArg Value.bool (decide_eq_false (by omega)))) ?_
    refine dr_pure (i := 9) (lb 18 1023) rfl rfl (by kernel_rfl) (fun w => y_move rfl) ?_
    refine dr_pureG (i := 10) (lb 18 2047) rfl rfl (by kernel_rfl) rfl rfl (fun w => y_move rfl) ?_
    refine dr_pureG (i := 11) (lb 18 4095) rfl rfl (by kernel_rfl) rfl rfl (fun w => y_move rfl) ?_
    refine dr_pureG (i := 12) (lb 18 8191) rfl rfl (by kernel_rfl) rfl rfl (fun w => y_nil rfl) ?_
    refine dr_pureG (i := 13) (lb 18 16383) rfl rfl (by kernel_rfl) rfl rfl (fun w => y_fld fl_219_1 rfl) ?_
    refine dr_readG (i := 14) (lb 18 32767) rfl rfl (by kernel_rfl) rfl rfl ⟨hS.cell (rc19 h2), hS.cell rc0, hS.cell rc1⟩ (fun w hS => y_load pl_3 rfl hS.2.2) ?_
    refine dr_pureG (i := 15) (lb 18 65535) rfl rfl (by kernel_rfl) rfl rfl (fun w => y_add rfl rfl (w64 (by omega) (by omega))) ?_
    refine dr_pureG (i := 16) (lb 18 131071) rfl rfl (by kernel_rfl) rfl rfl (fun w => y_neq rfl rfl) ?_
    refine dr_pure (i := 17) (lb 18 262143) rfl rfl (by kernel_rfl) (fun w => y_pickF rfl rfl) ?_
    refine dr_done (by kernel_rfl) ?_
    refine wc_if rfl (fun hc24 => ?_) (fun hc24 => ?_)
    · try simp only [zq1, zq2, zq3, zq4, zq5, zq6, zq7] at hc24
      have hh : m.hears seq = false := by unfold Rcv.hears; exact decide_eq_false (fun h => by omega)
      have hq : m.hear seq d = m := by unfold Rcv.hear; rw [hh]; rfl
      rw [hh, hq]
      refine wc_seq ?_
      refine wc_region ?_
      refine wl (y_assign rfl) rfl ?_
      refine wl_nil ?_
      refine wc_ret ?_
      refine wret (vs := [_]) (.tmp rfl .nil) ?_
      first
      | exact ⟨_, rfl, hb0, hS⟩
      | (refine ⟨_, rfl, ⟨fr, ring.set ((fr + m.wait) % 16) d, h1, h2', ?_, rfl⟩, ?_⟩
         · exact hear_ring h2 k3 (by omega) h3
         · have e1 : (((⟨m.room, m.all ++ [d], m.popped⟩ : Rcv).all.length : Nat) : Int) = (m.all.length : Int) + 1 := by simp
           have e2 : (((⟨m.room, m.all ++ [d], m.popped⟩ : Rcv).wait : Nat) : Int) = (m.wait : Int) + 1 := by (unfold Rcv.wait; simp only [List.length_append, List.length_singleton]; omega)
           rw [e1, e2]; exact hS)
    · try simp only [zq1, zq2, zq3, zq4, zq5, zq6, zq7] at hc24
      have hh : m.hears seq = true := by unfold Rcv.hears; exact decide_eq_true ⟨hfull, by omega⟩
      have hq : m.hear seq d = ⟨m.room, m.all ++ [d], m.popped⟩ := by unfold Rcv.hear; rw [hh]; rfl
      rw [hh, hq]
      have hmod : (fr + m.wait) % 16 < 16 := Nat.mod_lt _ (by decide)
      have h2' : (ring.set ((fr + m.wait) % 16) d).length = 16 := by rw [List.length_set, h2]
      refine wc_skip ?_
      refine wc_seq ?_
      refine wc_draw (l0 := (lb 12 0)) (fun w => w.cell? ⟨p, 19, none⟩ = some (.int .i64 m.wait)) [6, 11] wide_ rfl rfl fun w hw => ?_
      replace hS := hS.same hw; clear hw
      refine dr_pure (i := 0) (lb 12 1) rfl rfl (by kernel_rfl) (fun w => y_move rfl) ?_
      refine dr_pure (i := 1) (lb 12 3) rfl rfl (by kernel_rfl) (fun w => y_move rfl) ?_
      refine dr_pure (i := 2) (lb 12 7) rfl rfl (by kernel_rfl) (fun w => y_move rfl) ?_
      refine dr_pure (i := 3) (lb 12 15) rfl rfl (by kernel_rfl) (fun w => y_nil rfl) ?_
      refine dr_pure (i := 4) (lb 12 31) rfl rfl (by kernel_rfl) (fun w => y_fld fl_219_4 rfl) ?_
      refine dr_pure (i := 7) (lb 12 159) rfl rfl (by kernel_rfl) (fun w => y_move rfl) ?_
      refine dr_pure (i := 8) (lb 12 415) rfl rfl (by kernel_rfl) (fun w => y_nil rfl) ?_
      refine dr_pure (i := 9) (lb 12 927) rfl rfl (by kernel_rfl) (fun w => y_fld fl_219_2 rfl) ?_
      refine dr_read (i := 5) (lb 12 959) rfl rfl (by kernel_rfl) (hS.cell (rc19 h2)) (fun w hS => y_load pl_3 rfl hS) ?_
      refine dr_do (i := 6) (lb 12 1023) rfl (by kernel_rfl) ?_
      refine wl_call (.cons rfl (.cons rfl .nil)) (cplace_c m.wait h1 h2 (by omega) hS) rfl ?_
      rintro _ w ⟨rfl, hS⟩
      refine wl_nil ⟨fun h => absurd (by decide) h, ?_⟩
      refine dr_pure (i := 10) (lb 12 2047) rfl rfl (by kernel_rfl) (fun w => (y_ixa_ar Tryz.underlying217 sz_9 rfl rfl (by omega) (by omega)).val (u := .pointer (some ⟨p, 2 + (fr + m.wait) % 16, none⟩)) (congrArg (fun k => Value.pointer (some ⟨p, k, none⟩)) (by omega))) ?_
      refine dr_do (i := 11) (lb 12 4095) rfl (by kernel_rfl) ?_
      refine a_store (j := 2 + (fr + m.wait) % 16) sz_9 rfl rfl rfl hS (by rw [rc_size h2]; omega) fun w hS => ?_
      rw [rsr h2 _ hmod] at hS
      refine wl_nil ⟨fun h => absurd (by decide) h, ?_⟩
      refine dr_done (by kernel_rfl) ?_
      refine wc_seq ?_
      refine wc_region ?_
      refine wl (y_move rfl) rfl ?_
      refine wl (y_nil rfl) rfl ?_
      refine wl (y_fld fl_219_1 rfl) rfl ?_
      refine wl (y_load pl_3 rfl (hS.cell rc1)) rfl ?_
      refine wl (y_add rfl rfl (w64 (by omega) (by omega))) rfl ?_
      refine wl (y_nil rfl) rfl ?_
      refine wl (y_fld fl_219_1 rfl) rfl ?_
      refine a_store sz_3 rfl rfl rfl hS (by rw [rc_size h2']; omega) fun w hS => ?_
      rw [rs1] at hS
      refine wl_nil ?_
      refine wc_seq ?_
      refine wc_region ?_
      refine wl (y_move rfl) rfl ?_
      refine wl (y_nil rfl) rfl ?_
      refine wl (y_fld fl_219_4 rfl) rfl ?_
      refine wl (y_load pl_3 rfl (hS.cell (rc19 h2'))) rfl ?_
      refine wl (y_add rfl rfl (w64 (by omega) (by omega))) rfl ?_
      refine wl (y_nil rfl) rfl ?_
      refine wl (y_fld fl_219_4 rfl) rfl ?_
      refine a_store sz_3 rfl rfl rfl hS (by rw [rc_size h2']; omega) fun w hS => ?_
      rw [rs19 h2'] at hS
      refine wl_nil ?_
      refine wc_seq ?_
      refine wc_region ?_
      refine wl (y_assign rfl) rfl ?_
      refine wl_nil ?_
      refine wc_ret ?_
      refine wret (vs := [_]) (.tmp rfl .nil) ?_
      first
      | exact ⟨_, rfl, hb0, hS⟩
      | (refine ⟨_, rfl, ⟨fr, ring.set ((fr + m.wait) % 16) d, h1, h2', ?_, rfl⟩, ?_⟩
         · exact hear_ring h2 k3 (by omega) h3
         · have e1 : (((⟨m.room, m.all ++ [d], m.popped⟩ : Rcv).all.length : Nat) : Int) = (m.all.length : Int) + 1 := by simp
           have e2 : (((⟨m.room, m.all ++ [d], m.popped⟩ : Rcv).wait : Nat) : Int) = (m.wait : Int) + 1 := by (unfold Rcv.wait; simp only [List.length_append, List.length_singleton]; omega)
           rw [e1, e2]; exact hS)

theorem pop_ring {m : Rcv} {ring : List ByteArray} {fr : Nat} {d : ByteArray} (h2 : ring.length = 16) (h1 : fr < 16) (hp : m.popped < m.all.length) (hw : m.wait ≤ 16)
    (h3 : ∀ i, i < m.wait → ring[(fr + i) % 16]? = m.all[m.popped + i]?) : ∀ i, i < (⟨m.room, m.all, m.popped + 1⟩ : Rcv).wait → (ring.set fr d)[((fr + 1) % 16 + i) % 16]? = m.all[m.popped + 1 + i]? := by
  intro i hi
  have hwv : (⟨m.room, m.all, m.popped + 1⟩ : Rcv).wait + 1 = m.wait := by unfold Rcv.wait; simp only; omega
  have h := h3 (i + 1) (by omega)
  rw [List.getElem?_set_ne (by omega)]
  rw [show ((fr + 1) % 16 + i) % 16 = (fr + (i + 1)) % 16 by omega, show m.popped + 1 + i = m.popped + (i + 1) by omega]
  exact h
theorem cpop_c {p : Nat} {m : Rcv} {H : Chunk} (hm : m.ok) (hb : IsRc p m H) (hS : St M w (H :: Ls)) :
    CallsR Tryz.prog 140 [.pointer (some ⟨p, 0, none⟩)].toArray w fun v w' => ∃ H', v = m.popV ∧ IsRc p m.pop H' ∧ St M w' (H' :: Ls) := by
  have hb0 := hb
  obtain ⟨fr, ring, h1, h2, h3, rfl⟩ := hb
  obtain ⟨k1, k2, k3, k4, k5⟩ := hm
  refine calls_of (c := _) (rs := _) (n := 40) Tryz.func140 rfl rfl rfl rfl rfl ?_
  refine wc_seq ?_
  refine wc_region ?_
  refine wl (y_assign rfl) rfl ?_
  refine wl (y_assign rfl) rfl ?_
  refine wl_nil ?_
  refine wc_seq ?_
  refine wc_seq ?_
  refine wc_region ?_
  refine wl (y_move rfl) rfl ?_
  refine wl (y_nil rfl) rfl ?_
  refine wl (y_fld fl_219_4 rfl) rfl ?_
  refine wl (y_load pl_3 rfl (hS.cell (rc19 h2))) rfl ?_
  refine wl (y_eql rfl rfl) rfl ?_
  refine wl_nil ?_
  refine wc_if rfl (fun hc9 => ?_) (fun hc9 => ?_)
  · try simp only [zq1, zq2, zq3, zq4, zq5, zq6, zq7] at hc9
    have hge : ¬ m.popped < m.all.length := by unfold Rcv.wait at hc9; omega
    have hq : m.pop = m := by unfold Rcv.pop; rw [if_neg hge]
    have hv : m.popV = .tuple [.string ⟨#[]⟩, .bool false].toArray := by unfold Rcv.popV; rw [List.getElem?_eq_none (by omega)]
    rw [hq, hv]
    refine wc_seq ?_
    refine wc_region ?_
    refine wl (y_assign rfl) rfl ?_
    refine wl (y_assign rfl) rfl ?_
    refine wl_nil ?_
    refine wc_ret ?_
    refine wret (vs := [_, _]) (.tmp rfl (.tmp rfl .nil)) ?_
    first
    | exact ⟨_, rfl, hb0, hS⟩
    | (refine ⟨_, rfl, ⟨(fr + 1) % 16, ring.set fr ⟨#[]⟩, Nat.mod_lt _ (by decide), h2', pop_ring h2 h1 hlt (by omega) h3, rfl⟩, ?_⟩
       have e2 : (((⟨m.room, m.all, m.popped + 1⟩ : Rcv).wait : Nat) : Int) = (m.wait : Int) - 1 := by (unfold Rcv.wait; simp only; omega)
       rw [e2]; exact hS)
  · try simp only [zq1, zq2, zq3, zq4, zq5, zq6, zq7] at hc9
    have hlt : m.popped < m.all.length := by unfold Rcv.wait at hc9; omega
    have hq : m.pop = ⟨m.room, m.all, m.popped + 1⟩ := by unfold Rcv.pop; rw [if_pos hlt]
    obtain ⟨d, hd⟩ : ∃ d, m.all[m.popped]? = some d := ⟨_, List.getElem?_eq_getElem hlt⟩
    have hv : m.popV = .tuple [.string d, .bool true].toArray := by unfold Rcv.popV; rw [hd]
    rw [hq, hv]
    have hr0 : ring[fr]? = some d := by
      have := h3 0 (by unfold Rcv.wait at hc9 ⊢; omega)
      rw [Nat.add_zero, Nat.add_zero, Nat.mod_eq_of_lt h1, hd] at this
      exact this
    have h2' : (ring.set fr ⟨#[]⟩).length = 16 := by rw [List.length_set, h2]
    refine wc_skip ?_
    refine wc_seq ?_
    refine wc_draw (l0 := (lb 10 0)) (fun w => w.cell? ⟨p, 18, none⟩ = some (.int .i64 fr) ∧ w.cell? ⟨p, 2 + fr, none⟩ = some (.string d)) [] wide_ rfl rfl fun w hw => ?_
    replace hS := hS.same hw; clear hw
    refine dr_pure (i := 0) (lb 10 1) rfl rfl (by kernel_rfl) (fun w => y_move rfl) ?_
    refine dr_pure (i := 1) (lb 10 3) rfl rfl (by kernel_rfl) (fun w => y_move rfl) ?_
    refine dr_pure (i := 2) (lb 10 7) rfl rfl (by kernel_rfl) (fun w => y_nil rfl) ?_
    refine dr_pure (i := 3) (lb 10 15) rfl rfl (by kernel_rfl) (fun w => y_fld fl_219_3 rfl) ?_
    refine dr_pure (i := 5) (lb 10 47) rfl rfl (by kernel_rfl) (fun w => y_nil rfl) ?_
    refine dr_pure (i := 6) (lb 10 111) rfl rfl (by kernel_rfl) (fun w => y_fld fl_219_2 rfl) ?_
    refine dr_read (i := 4) (lb 10 127) rfl rfl (by kernel_rfl) ⟨hS.cell (rc18 h2), hS.cell (rcr h2 fr h1 d hr0)⟩ (fun w hS => y_load pl_3 rfl hS.1) ?_
    refine dr_pure (i := 7) (lb 10 255) rfl rfl (by kernel_rfl) (fun w => (y_ixa_ar Tryz.underlying217 sz_9 rfl rfl (by omega) (by omega)).val (u := .pointer (some ⟨p, 2 + fr, none⟩)) (congrArg (fun k => Value.pointer (some ⟨p, k, none⟩)) (by omega))) ?_
    refine dr_read (i := 8) (lb 10 511) rfl rfl (by kernel_rfl) ⟨hS.cell (rc18 h2), hS.cell (rcr h2 fr h1 d hr0)⟩ (fun w hS => y_load pl_9 rfl hS.2) ?_
    refine dr_pure (i := 9) (lb 10 1023) rfl rfl (by kernel_rfl) (fun w => y_assign rfl) ?_
    refine dr_done (by kernel_rfl) ?_
    refine wc_seq ?_
    refine wc_draw (l0 := (lb 9 0)) (fun w => w.cell? ⟨p, 18, none⟩ = some (.int .i64 fr)) [8] wide_ rfl rfl fun w hw => ?_
    replace hS := hS.same hw; clear hw
    refine dr_pure (i := 0) (lb 9 1) rfl rfl (by kernel_rfl) (fun w => y_move rfl) ?_
    refine dr_pure (i := 1) (lb 9 3) rfl rfl (by kernel_rfl) (fun w => y_move rfl) ?_
    refine dr_pure (i := 2) (lb 9 7) rfl rfl (by kernel_rfl) (fun w => y_nil rfl) ?_
    refine dr_pure (i := 3) (lb 9 15) rfl rfl (by kernel_rfl) (fun w => y_fld fl_219_3 rfl) ?_
    refine dr_pure (i := 5) (lb 9 47) rfl rfl (by kernel_rfl) (fun w => y_nil rfl) ?_
    refine dr_pure (i := 6) (lb 9 111) rfl rfl (by kernel_rfl) (fun w => y_fld fl_219_2 rfl) ?_
    refine dr_read (i := 4) (lb 9 127) rfl rfl (by kernel_rfl) (hS.cell (rc18 h2)) (fun w hS => y_load pl_3 rfl hS) ?_
    refine dr_pure (i := 7) (lb 9 255) rfl rfl (by kernel_rfl) (fun w => (y_ixa_ar Tryz.underlying217 sz_9 rfl rfl (by omega) (by omega)).val (u := .pointer (some ⟨p, 2 + fr, none⟩)) (congrArg (fun k => Value.pointer (some ⟨p, k, none⟩)) (by omega))) ?_
    refine dr_do (i := 8) (lb 9 511) rfl (by kernel_rfl) ?_
    refine a_store (j := 2 + fr) sz_9 rfl rfl rfl hS (by rw [rc_size h2]; omega) fun w hS => ?_
    rw [rsr h2 _ h1] at hS
    refine wl_nil ⟨fun h => absurd (by decide) h, ?_⟩
    refine dr_done (by kernel_rfl) ?_
    refine wc_seq ?_
    refine wc_region ?_
    refine wl (y_move rfl) rfl ?_
    refine wl (y_move rfl) rfl ?_
    refine wl_call (.cons rfl (.cons rfl .nil)) (cplace_c 1 h1 h2' (by omega) hS) rfl ?_
    rintro _ w ⟨rfl, hS⟩
    refine wl (y_nil rfl) rfl ?_
    refine wl (y_fld fl_219_3 rfl) rfl ?_
    refine a_store sz_3 rfl rfl rfl hS (by rw [rc_size h2']; omega) fun w hS => ?_
    rw [rs18 h2'] at hS
    refine wl_nil ?_
    refine wc_seq ?_
    refine wc_region ?_
    refine wl (y_move rfl) rfl ?_
    refine wl (y_nil rfl) rfl ?_
    refine wl (y_fld fl_219_4 rfl) rfl ?_
    refine wl (y_load pl_3 rfl (hS.cell (rc19 h2'))) rfl ?_
    refine wl (y_sub rfl rfl (w64 (by omega) (by omega))) rfl ?_
    refine wl (y_nil rfl) rfl ?_
    refine wl (y_fld fl_219_4 rfl) rfl ?_
    refine a_store sz_3 rfl rfl rfl hS (by rw [rc_size h2']; omega) fun w hS => ?_
    rw [rs19 h2'] at hS
    refine wl_nil ?_
    refine wc_seq ?_
    refine wc_region ?_
    refine wl (y_move rfl) rfl ?_
    refine wl (y_assign rfl) rfl ?_
    refine wl (y_assign rfl) rfl ?_
    refine wl_nil ?_
    refine wc_ret ?_
    refine wret (vs := [_, _]) (.tmp rfl (.tmp rfl .nil)) ?_
    first
    | exact ⟨_, rfl, hb0, hS⟩
    | (refine ⟨_, rfl, ⟨(fr + 1) % 16, ring.set fr ⟨#[]⟩, Nat.mod_lt _ (by decide), h2', pop_ring h2 h1 hlt (by omega) h3, rfl⟩, ?_⟩
       have e2 : (((⟨m.room, m.all, m.popped + 1⟩ : Rcv).wait : Nat) : Int) = (m.wait : Int) - 1 := by (unfold Rcv.wait; simp only; omega)
       rw [e2]; exact hS)
end
end Go.Proofs.YtndahppmjdbifaaGreatDoor.Snd

set_option linter.unusedVariables false
set_option linter.unusedSimpArgs false
namespace Go.Proofs.YtndahppmjdbifaaGreatDoor.Lnk
open Go Go.Proofs Go.Proofs.YtndahppmjdbifaaGreatDoor.Eng Go.Proofs.YtndahppmjdbifaaGreatDoor.Snd

/-! ### layer 12: an end of a road -/
structure Lnk where
  ep : Nat
  s : Snd
  r : Rcv
  win : Int
  room : Int
  pas : Bool
def epc (n : Int) : Nat := (min (max n 0) 1099511627776).toNat
def Lnk.fresh (m : Lnk) (ep : Int) : Lnk := ⟨epc ep, Snd.new m.win 1125899906842624, Rcv.new m.room, m.win, m.room, m.pas⟩
def Lnk.new (ep win room : Int) (pas : Bool) : Lnk := ⟨epc ep, Snd.new win 1125899906842624, Rcv.new room, win, room, pas⟩
def Lnk.ok (m : Lnk) : Prop := m.ep ≤ 1099511627776 ∧ m.s.ok ∧ m.r.ok
theorem Lnk.new_ok (ep win room : Int) (pas : Bool) : (Lnk.new ep win room pas).ok := ⟨by unfold Lnk.new epc; simp only; omega, Snd.new_ok _ _, Rcv.new_ok _⟩
theorem Lnk.fresh_ok (m : Lnk) (ep : Int) : (m.fresh ep).ok := ⟨by unfold Lnk.fresh epc; simp only; omega, Snd.new_ok _ _, Rcv.new_ok _⟩
def lo (ps pr : Nat) (m : Lnk) : Obj := .cells #[.pointer (some ⟨ps, 0, none⟩), .pointer (some ⟨pr, 0, none⟩), .int .i64 m.ep, .int .i64 m.win, .int .i64 m.room, .bool m.pas] 165
def IsL (p : Nat) (m : Lnk) (H : Chunk) : Prop := ∃ ps pr Hs Hr, IsS ps m.s Hs ∧ IsRc pr m.r Hr ∧ H = (p, lo ps pr m) :: (Hs ++ Hr)
section
variable {M : Mem} {w : World} {Ls : List Chunk}
theorem lbegin_c {p : Nat} {a b : Value} {e win room : Int} {pas : Bool} (ep : Int) (hS : St M w ([(p, .cells #[a, b, .int .i64 e, .int .i64 win, .int .i64 room, .bool pas] 165)] :: Ls)) :
    CallsR Tryz.prog 137 [.pointer (some ⟨p, 0, none⟩), .int .i64 ep].toArray w fun v w' => ∃ H, IsL p (Lnk.new ep win room pas) H ∧ St M w' (H :: Ls) := by
  refine calls_of (c := _) (rs := _) (n := 24) Tryz.func137 rfl rfl rfl rfl rfl ?_
  refine wc_seq ?_
  refine wc_region ?_
  refine wl (y_move rfl) rfl ?_
  refine wl (y_move rfl) rfl ?_
  refine wl (y_max rfl rfl) rfl ?_
  refine wl ((y_min rfl rfl).val (u := .int .i64 (epc ep : Nat)) (congrArg (Value.int .i64) (by unfold epc; omega))) rfl ?_
  refine wl (y_nil rfl) rfl ?_
  refine wl (y_fld fl_165_1 rfl) rfl ?_
  refine a_store sz_3 rfl rfl rfl hS (Nat.le_of_ble_eq_true rfl) fun w hS => ?_
  refine wl_nil ?_
  simp only [List.setIfInBounds_toArray, List.set_cons_zero, List.set_cons_succ, Nat.zero_add, Nat.add_zero, cells_agg, setCells] at hS
  refine wc_draw (l0 := (lb 15 0)) (fun w => w.cell? ⟨p, 3, none⟩ = some (.int .i64 win) ∧ w.cell? ⟨p, 4, none⟩ = some (.int .i64 room)) [14] wide_ rfl rfl fun w hw => ?_
  replace hS := hS.same hw; clear hw
  refine dr_pure (i := 0) (lb 15 1) rfl rfl (by kernel_rfl) (fun w => y_move rfl) ?_
  refine dr_pure (i := 1) (lb 15 3) rfl rfl (by kernel_rfl) (fun w => y_move rfl) ?_
  refine dr_pure (i := 2) (lb 15 7) rfl rfl (by kernel_rfl) (fun w => y_nil rfl) ?_
  refine dr_pure (i := 3) (lb 15 15) rfl rfl (by kernel_rfl) (fun w => y_fld fl_165_2 rfl) ?_
  refine dr_pure (i := 6) (lb 15 79) rfl rfl (by kernel_rfl) (fun w => y_move rfl) ?_
  refine dr_pure (i := 7) (lb 15 207) rfl rfl (by kernel_rfl) (fun w => y_nil rfl) ?_
  refine dr_pure (i := 8) (lb 15 463) rfl rfl (by kernel_rfl) (fun w => y_fld fl_165_3 rfl) ?_
  refine dr_read (i := 4) (lb 15 479) rfl rfl (by kernel_rfl) ⟨hS.cell rfl, hS.cell rfl⟩ (fun w hS => y_load pl_3 rfl hS.1) ?_
  refine dr_read (i := 9) (lb 15 991) rfl rfl (by kernel_rfl) ⟨hS.cell rfl, hS.cell rfl⟩ (fun w hS => y_load pl_3 rfl hS.2) ?_
  refine dr_do (i := 5) (lb 15 1023) rfl (by kernel_rfl) ?_
  refine wl_call (.cons rfl (.cons rfl .nil)) (snew_c win 1125899906842624 hS) rfl ?_
  rintro _ w ⟨ps, Hs, rfl, hs, hS⟩
  refine wl_nil ⟨fun _ _ => ⟨hS.cell rfl, hS.cell rfl⟩, ?_⟩
  refine dr_do (i := 10) (lb 15 2047) rfl (by kernel_rfl) ?_
  refine wl_call (.cons rfl .nil) (cnew_c room hS) rfl ?_
  rintro _ w ⟨pr, Hr, rfl, hr, hS⟩
  refine wl_nil ⟨fun _ _ => ⟨hS.cell rfl, hS.cell rfl⟩, ?_⟩
  refine dr_pure (i := 11) (lb 15 4095) rfl rfl (by kernel_rfl) (fun w => y_build (is := [0, 1]) (xs := [_, _]) (out := [_, _]) plc_163 z_163 (.cons rfl (.cons rfl .nil)) rfl) ?_
  refine dr_pure (i := 12) (lb 15 8191) rfl rfl (by kernel_rfl) (fun w => y_nil rfl) ?_
  refine dr_pure (i := 13) (lb 15 16383) rfl rfl (by kernel_rfl) (fun w => y_fld fl_165_0 rfl) ?_
  refine dr_do (i := 14) (lb 15 32767) rfl (by kernel_rfl) ?_
  refine a_storeS (vs := [_, _]) sz_163 rfl rfl rfl rfl hS (Nat.le_of_ble_eq_true rfl) fun w hS => ?_
  refine wl_nil ⟨fun h => absurd (by decide) h, ?_⟩
  refine dr_done (by kernel_rfl) ?_
  simp only [List.setIfInBounds_toArray, List.set_cons_zero, List.set_cons_succ, Nat.zero_add, Nat.add_zero, cells_agg, setCells] at hS
  refine wretN (vs := []) .nil ?_
  exact ⟨_, ⟨ps, pr, Hs, Hr, hs, hr, rfl⟩, (by unfold lo Lnk.new; dsimp only; exact hS.keep)⟩
theorem lnew_c (ep win room : Int) (pas : Bool) (hS : St M w Ls) : CallsR Tryz.prog 109 [.int .i64 ep, .int .i64 win, .int .i64 room, .bool pas].toArray w fun v w' => ∃ p H, v = .pointer (some ⟨p, 0, none⟩) ∧ IsL p (Lnk.new ep win room pas) H ∧ St M w' (H :: Ls) := by
  refine calls_of (c := _) (rs := _) (n := 19) Tryz.func109 rfl rfl rfl rfl rfl ?_
  refine wc_seq ?_
  refine wc_region ?_
  refine wl (y_assign rfl) rfl ?_
  refine wl_nil ?_
  refine wc_seq ?_
  refine wc_region ?_
  refine wl (y_move rfl) rfl ?_
  refine wl (y_move rfl) rfl ?_
  refine wl (y_move rfl) rfl ?_
  refine wl (y_build (is := [2, 3, 4]) (xs := [_, _, _]) (out := [_, _, _, _, _, _]) plc_165 z_165 (.cons rfl (.cons rfl (.cons rfl .nil))) rfl) rfl ?_
  refine a_box rfl hS rfl fun b14 w hS => ?_
  refine wl (y_assign rfl) rfl ?_
  refine wl_nil ?_
  refine wc_seq ?_
  refine wc_region ?_
  refine wl (y_move rfl) rfl ?_
  refine wl (y_move rfl) rfl ?_
  refine wl_call (.cons rfl (.cons rfl .nil)) (lbegin_c ep hS) rfl ?_
  rintro _ w ⟨H, hl, hS⟩
  refine wl_nil ?_
  refine wc_seq ?_
  refine wc_region ?_
  refine wl (y_move rfl) rfl ?_
  refine wl (y_assign rfl) rfl ?_
  refine wl_nil ?_
  refine wc_ret ?_
  refine wret (vs := [_]) (.tmp rfl .nil) ?_
  exact ⟨_, _, rfl, hl, hS⟩
theorem lepoch_c {p : Nat} {m : Lnk} {H : Chunk} (hb : IsL p m H) (hS : St M w (H :: Ls)) : CallsR Tryz.prog 49 [.pointer (some ⟨p, 0, none⟩)].toArray w fun v w' => v = .int .i64 m.ep ∧ St M w' (H :: Ls) := by
  obtain ⟨ps, pr, Hs, Hr, hs, hr, rfl⟩ := hb
  unfold lo at hS ⊢
  refine calls_of (c := _) (rs := _) (n := 7) Tryz.func49 rfl rfl rfl rfl rfl ?_
  refine wc_seq ?_
  refine wc_region ?_
  refine wl (y_assign rfl) rfl ?_
  refine wl_nil ?_
  refine wc_seq ?_
  refine wc_region ?_
  refine wl (y_move rfl) rfl ?_
  refine wl (y_nil rfl) rfl ?_
  refine wl (y_fld fl_165_1 rfl) rfl ?_
  refine wl (y_load pl_3 rfl (hS.cell rfl)) rfl ?_
  refine wl (y_assign rfl) rfl ?_
  refine wl_nil ?_
  refine wc_ret ?_
  refine wret (vs := [_]) (.tmp rfl .nil) ?_
  exact ⟨rfl, hS⟩
theorem lwait_c {p : Nat} {m : Lnk} {H : Chunk} (hb : IsL p m H) (hS : St M w (H :: Ls)) : CallsR Tryz.prog 53 [.pointer (some ⟨p, 0, none⟩)].toArray w fun v w' => v = .int .i64 m.r.wait ∧ St M w' (H :: Ls) := by
  obtain ⟨ps, pr, Hs, Hr, hs, hr, rfl⟩ := hb
  unfold lo at hS ⊢
  replace hS := hS.un2
  refine calls_of (c := _) (rs := _) (n := 9) Tryz.func53 rfl rfl rfl rfl rfl ?_
  refine wc_seq ?_
  refine wc_region ?_
  refine wl (y_assign rfl) rfl ?_
  refine wl_nil ?_
  refine wc_seq ?_
  refine wc_region ?_
  refine wl (y_move rfl) rfl ?_
  refine wl (y_nil rfl) rfl ?_
  refine wl (y_fld fl_165_0 rfl) rfl ?_
  refine wl (y_fld fl_163_1 rfl) rfl ?_
  refine wl (y_load pl_161 rfl (hS.cell rfl)) rfl ?_
  refine wl_call (.cons rfl .nil) (cwait_c hr (hS.pull Hr)) rfl ?_
  rintro _ w ⟨rfl, hS⟩
  refine wl (y_assign rfl) rfl ?_
  refine wl_nil ?_
  refine wc_ret ?_
  refine wret (vs := [_]) (.tmp rfl .nil) ?_
  exact ⟨rfl, hS.keep⟩
theorem lunacked_c {p : Nat} {m : Lnk} {H : Chunk} (hb : IsL p m H) (hS : St M w (H :: Ls)) : CallsR Tryz.prog 54 [.pointer (some ⟨p, 0, none⟩)].toArray w fun v w' => v = .int .i64 (m.s.all.length - m.s.acked : Nat) ∧ St M w' (H :: Ls) := by
  obtain ⟨ps, pr, Hs, Hr, hs, hr, rfl⟩ := hb
  unfold lo at hS ⊢
  replace hS := hS.un2
  refine calls_of (c := _) (rs := _) (n := 9) Tryz.func54 rfl rfl rfl rfl rfl ?_
  refine wc_seq ?_
  refine wc_region ?_
  refine wl (y_assign rfl) rfl ?_
  refine wl_nil ?_
  refine wc_seq ?_
  refine wc_region ?_
  refine wl (y_move rfl) rfl ?_
  refine wl (y_nil rfl) rfl ?_
  refine wl (y_fld fl_165_0 rfl) rfl ?_
  refine wl (y_fld fl_163_0 rfl) rfl ?_
  refine wl (y_load pl_160 rfl (hS.cell rfl)) rfl ?_
  refine wl_call (.cons rfl .nil) (sunacked_c hs (hS.pull Hs)) rfl ?_
  rintro _ w ⟨rfl, hS⟩
  refine wl (y_assign rfl) rfl ?_
  refine wl_nil ?_
  refine wc_ret ?_
  refine wret (vs := [_]) (.tmp rfl .nil) ?_
  exact ⟨rfl, hS.keep⟩
def Lnk.offer (m : Lnk) (d : ByteArray) : Lnk := ⟨m.ep, m.s.offer d, m.r, m.win, m.room, m.pas⟩
def Lnk.pop (m : Lnk) : Lnk := ⟨m.ep, m.s, m.r.pop, m.win, m.room, m.pas⟩
theorem loffer_c {p : Nat} {m : Lnk} {H : Chunk} (d : ByteArray) (hm : m.ok) (hb : IsL p m H) (hS : St M w (H :: Ls)) : CallsR Tryz.prog 61 [.pointer (some ⟨p, 0, none⟩), .string d].toArray w fun v w' => ∃ H', v = .int .i64 m.s.offerE ∧ IsL p (m.offer d) H' ∧ St M w' (H' :: Ls) := by
  obtain ⟨ps, pr, Hs, Hr, hs, hr, rfl⟩ := hb
  unfold lo at hS
  replace hS := hS.un2
  refine calls_of (c := _) (rs := _) (n := 18) Tryz.func61 rfl rfl rfl rfl rfl ?_
  refine wc_seq ?_
  refine wc_region ?_
  refine wl (y_assign rfl) rfl ?_
  refine wl_nil ?_
  refine wc_seq ?_
  refine wc_region ?_
  refine wl (y_move rfl) rfl ?_
  refine wl (y_nil rfl) rfl ?_
  refine wl (y_fld fl_165_0 rfl) rfl ?_
  refine wl (y_fld fl_163_0 rfl) rfl ?_
  refine wl (y_load pl_160 rfl (hS.cell rfl)) rfl ?_
  refine wl (y_move rfl) rfl ?_
  refine wl_call (.cons rfl (.cons rfl .nil)) (soffer_c d hm.2.1 hs (hS.pull Hs)) rfl ?_
  rintro _ w ⟨k, Hs', rfl, hs, hS⟩
  refine wl (y_move rfl) rfl ?_
  refine wl (y_extract (vs := [_, _]) rfl rfl) rfl ?_
  refine wl (y_extract (vs := [_, _]) rfl rfl) rfl ?_
  refine wl (y_assign rfl) rfl ?_
  refine wl (y_assign rfl) rfl ?_
  refine wl_nil ?_
  refine wc_seq ?_
  refine wc_region ?_
  refine wl (y_move rfl) rfl ?_
  refine wl (y_assign rfl) rfl ?_
  refine wl_nil ?_
  refine wc_ret ?_
  refine wret (vs := [_]) (.tmp rfl .nil) ?_
  exact ⟨_, rfl, ⟨ps, pr, Hs', Hr, hs, hr, rfl⟩, (by unfold lo Lnk.offer; dsimp only; exact hS.keep)⟩
theorem lpop_c {p : Nat} {m : Lnk} {H : Chunk} (hm : m.ok) (hb : IsL p m H) (hS : St M w (H :: Ls)) : CallsR Tryz.prog 80 [.pointer (some ⟨p, 0, none⟩)].toArray w fun v w' => ∃ H', v = m.r.popV ∧ IsL p m.pop H' ∧ St M w' (H' :: Ls) := by
  obtain ⟨ps, pr, Hs, Hr, hs, hr, rfl⟩ := hb
  unfold lo at hS
  replace hS := hS.un2
  have hpv : ∃ d t, m.r.popV = .tuple [.string d, .bool t].toArray := by
    unfold Rcv.popV
    cases m.r.all[m.r.popped]? with
    | some d => exact ⟨d, true, rfl⟩
    | none => exact ⟨⟨#[]⟩, false, rfl⟩
  obtain ⟨d, t, hpv⟩ := hpv
  rw [hpv]
  refine calls_of (c := _) (rs := _) (n := 12) Tryz.func80 rfl rfl rfl rfl rfl ?_
  refine wc_seq ?_
  refine wc_region ?_
  refine wl (y_assign rfl) rfl ?_
  refine wl (y_assign rfl) rfl ?_
  refine wl_nil ?_
  refine wc_seq ?_
  refine wc_region ?_
  refine wl (y_move rfl) rfl ?_
  refine wl (y_nil rfl) rfl ?_
  refine wl (y_fld fl_165_0 rfl) rfl ?_
  refine wl (y_fld fl_163_1 rfl) rfl ?_
  refine wl (y_load pl_161 rfl (hS.cell rfl)) rfl ?_
  refine wl_call (.cons rfl .nil) (cpop_c hm.2.2 hr (hS.pull Hr)) rfl ?_
  rintro _ w ⟨Hr', rfl, hr, hS⟩
  rw [hpv]
  refine wl (y_extract (vs := [_, _]) rfl rfl) rfl ?_
  refine wl (y_extract (vs := [_, _]) rfl rfl) rfl ?_
  refine wl (y_assign rfl) rfl ?_
  refine wl (y_assign rfl) rfl ?_
  refine wl_nil ?_
  refine wc_ret ?_
  refine wret (vs := [_, _]) (.tmp rfl (.tmp rfl .nil)) ?_
  exact ⟨_, rfl, ⟨ps, pr, Hs, Hr', hs, hr, rfl⟩, (by unfold lo Lnk.pop; dsimp only; exact hS.keep)⟩
end
end Go.Proofs.YtndahppmjdbifaaGreatDoor.Lnk

set_option linter.unusedVariables false
set_option linter.unusedSimpArgs false
namespace Go.Proofs.YtndahppmjdbifaaGreatDoor.Lnk
open Go Go.Proofs Go.Proofs.YtndahppmjdbifaaGreatDoor.Eng Go.Proofs.YtndahppmjdbifaaGreatDoor.Snd Go.Proofs.YtndahppmjdbifaaGreatDoor.Fra

def frm (m : Lnk) (x : Nat × ByteArray) : Frm := ⟨m.ep, x.1, m.r.all.length, x.2⟩
@[irreducible] def Lnk.frames (m : Lnk) : List Frm := if m.ep = 0 then [] else if m.s.pieces = [] then [⟨m.ep, 0, m.r.all.length, ByteArray.empty⟩] else m.s.pieces.map (frm m)
section
variable {M : Mem} {w : World} {Ls : List Chunk}
theorem lframes_c {p : Nat} {m : Lnk} {H : Chunk} (hm : m.ok) (hb : IsL p m H) (hS : St M w (H :: Ls)) :
    CallsR Tryz.prog 62 [.pointer (some ⟨p, 0, none⟩)].toArray w fun v w' => ∃ H', Own 42 encF v m.frames H' ∧ St M w' (H' :: H :: Ls) := by
  obtain ⟨ps, pr, Hs, Hr, hs, hr, rfl⟩ := hb
  obtain ⟨hm1, hm2, hm3⟩ := hm
  have hpl := pieces_length m.s
  have hpl2 : m.s.pieces.length ≤ 16 := by
    obtain ⟨_, a2, _, _, _, a6⟩ := hm2
    omega
  unfold lo at hS ⊢
  replace hS := hS.un2
  unfold Lnk.frames
  refine calls_of (c := _) (rs := _) (n := 56) Tryz.func62 rfl rfl rfl rfl rfl ?_
  refine wc_seq ?_
  refine wc_region ?_
  refine wl (y_assign rfl) rfl ?_
  refine wl_nil ?_
  refine wc_seq ?_
  refine wc_seq ?_
  refine wc_region ?_
  refine wl (y_move rfl) rfl ?_
  refine wl (y_nil rfl) rfl ?_
  refine wl (y_fld fl_165_1 rfl) rfl ?_
  refine wl (y_load pl_3 rfl (hS.cell rfl)) rfl ?_
  refine wl (y_eql rfl rfl) rfl ?_
  refine wl_nil ?_
  refine wc_if rfl (fun hc11 => ?_) (fun hc11 => ?_)
  · try simp only [zq1, zq2, zq3, zq4, zq5, zq6, zq7] at hc11
    rw [if_pos (by omega)]
    refine wc_seq ?_
    refine wc_region ?_
    refine wl (y_assign rfl) rfl ?_
    refine wl_nil ?_
    refine wc_ret ?_
    refine wret (vs := [_]) (.tmp rfl .nil) ?_
    first
    | exact ⟨_, .nil, St.nil hS.keep⟩
    | exact ⟨_, ho1, hS.keep⟩
    | exact ⟨_, ho, hS.keep⟩
  · try simp only [zq1, zq2, zq3, zq4, zq5, zq6, zq7] at hc11
    rw [if_neg (by omega)]
    refine wc_skip ?_
    refine wc_seq ?_
    refine wc_region ?_
    refine wl (y_assign rfl) rfl ?_
    refine wl_nil ?_
    refine wc_seq ?_
    refine wc_region ?_
    refine wl (y_move rfl) rfl ?_
    refine wl (y_nil rfl) rfl ?_
    refine wl (y_fld fl_165_0 rfl) rfl ?_
    refine wl (y_fld fl_163_1 rfl) rfl ?_
    refine wl (y_load pl_161 rfl (hS.cell rfl)) rfl ?_
    refine wl_call (.cons rfl .nil) (cack_c hr (hS.pull Hr)) rfl ?_
    rintro _ w ⟨rfl, hS⟩
    refine wl (y_assign rfl) rfl ?_
    refine wl_nil ?_
    refine wc_seq ?_
    refine wc_seq ?_
    refine wc_region ?_
    refine wl (y_move rfl) rfl ?_
    refine wl (y_nil rfl) rfl ?_
    refine wl (y_fld fl_165_0 rfl) rfl ?_
    refine wl (y_fld fl_163_0 rfl) rfl ?_
    refine wl (y_load pl_160 rfl (hS.cell rfl)) rfl ?_
    refine wl_call (.cons rfl .nil) (spieces_c hm2 hs (hS.pull Hs)) rfl ?_
    rintro vp w ⟨Hp, hop, hS⟩
    obtain ⟨pa, pc, rfl⟩ := hop.slice
    refine wl (y_len_sl Tryz.underlying182 rfl) rfl ?_
    refine wl (y_move rfl) rfl ?_
    refine wl_nil ?_
    refine wc_block ?_
    refine wc_loop (α := Nat × Value × Chunk) (fun ⟨i, s, H⟩ => [(0, .pointer (some ⟨p, 0, none⟩)), (3, s), (4, .int .i64 m.r.all.length), (23, .slice pa m.s.pieces.length pc), (24, .int .i64 m.s.pieces.length), (25, .int .i64 i)]) (fun ⟨i, s, H⟩ w => i ≤ m.s.pieces.length ∧ Own 42 encF s ((m.s.pieces.take i).map (frm m)) H ∧ St M w (H :: Hp :: Hs :: Hr :: [(p, .cells #[.pointer (some ⟨ps, 0, none⟩), .pointer (some ⟨pr, 0, none⟩), .int .i64 m.ep, .int .i64 m.win, .int .i64 m.room, .bool m.pas] 165)] :: Ls)) (fun ⟨i, _, _⟩ => m.s.pieces.length - i) (0, .slice none 0 0, []) (sub_cons rfl (sub_cons rfl (sub_cons rfl (sub_cons rfl (sub_cons rfl (sub_cons rfl sub_nil)))))) ⟨by omega, .nil, St.nil hS.keep⟩ ?_
    clear hS
    rintro ⟨i, s, H⟩ w ⟨hi, ho, hS⟩
    refine wc_seq ?_
    refine wc_region ?_
    refine wl (y_lss rfl rfl) rfl ?_
    refine wl_nil ?_
    refine wc_seq ?_
    refine wc_if rfl (fun hc26 => ?_) (fun hc26 => ?_)
    · try simp only [zq1, zq2, zq3, zq4, zq5, zq6, zq7] at hc26
      refine wc_skip ?_
      refine wc_seq ?_
      refine wc_block ?_
      refine wc_seq ?_
      have hi' : i < m.s.pieces.length := by omega
      obtain ⟨x, hx⟩ : ∃ x, m.s.pieces[i]? = some x := ⟨_, List.getElem?_eq_getElem hi'⟩
      have htk : (m.s.pieces.take (i + 1)).map (frm m) = (m.s.pieces.take i).map (frm m) ++ [frm m x] := by rw [List.take_add_one, hx]; simp
      obtain ⟨bb, off, c', hse, hce⟩ := (hop.holds (hS.pull Hp)).at hx
      simp only [Value.slice.injEq] at hse
      have hSk := hS
      obtain ⟨rfl, _, rfl⟩ := hse
      replace hS := hSk
      obtain ⟨sa, sc, rfl⟩ := ho.slice
      refine wc_region ?_
      refine wl (y_ixa_sl Tryz.underlying182 sz_185 rfl rfl (by omega) (by omega)) rfl ?_
      refine wl (y_loadS st_185 sz_185 rfl (vs := encPc.f x) hce rfl) rfl ?_
      refine a_alloc z_185 hS rfl fun b6 w hS => ?_
      refine a_storeS (vs := [_, _]) sz_185 rfl rfl rfl rfl hS (Nat.le_of_ble_eq_true rfl) fun w hS => ?_
      refine wl_nil ?_
      refine wc_draw (l0 := (lb 14 0)) (fun w => w.cell? ⟨p, 2, none⟩ = some (.int .i64 m.ep) ∧ w.cell? ⟨b6, 0, none⟩ = some (.int .i64 x.1) ∧ w.cell? ⟨b6, 1, none⟩ = some (.string x.2)) [12] wide_ rfl rfl fun w hw => ?_
      replace hS := hS.same hw; clear hw
      refine dr_pure (i := 0) (lb 14 1) rfl rfl (by kernel_rfl) (fun w => y_move rfl) ?_
      refine dr_pure (i := 1) (lb 14 3) rfl rfl (by kernel_rfl) (fun w => y_move rfl) ?_
      refine dr_pure (i := 2) (lb 14 7) rfl rfl (by kernel_rfl) (fun w => y_nil rfl) ?_
      refine dr_pure (i := 3) (lb 14 15) rfl rfl (by kernel_rfl) (fun w => y_fld fl_165_1 rfl) ?_
      refine dr_pure (i := 5) (lb 14 47) rfl rfl (by kernel_rfl) (fun w => y_fld fl_185_0 rfl) ?_
      refine dr_pure (i := 7) (lb 14 175) rfl rfl (by kernel_rfl) (fun w => y_move rfl) ?_
      refine dr_pure (i := 8) (lb 14 431) rfl rfl (by kernel_rfl) (fun w => y_fld fl_185_1 rfl) ?_
      refine dr_read (i := 4) (lb 14 447) rfl rfl (by kernel_rfl) ⟨hS.cell rfl, hS.cell rfl, hS.cell rfl⟩ (fun w hS => y_load pl_3 rfl hS.1) ?_
      refine dr_read (i := 6) (lb 14 511) rfl rfl (by kernel_rfl) ⟨hS.cell rfl, hS.cell rfl, hS.cell rfl⟩ (fun w hS => y_load pl_3 rfl hS.2.1) ?_
      refine dr_read (i := 9) (lb 14 1023) rfl rfl (by kernel_rfl) ⟨hS.cell rfl, hS.cell rfl, hS.cell rfl⟩ (fun w hS => y_load pl_9 rfl hS.2.2) ?_
      refine dr_pure (i := 10) (lb 14 2047) rfl rfl (by kernel_rfl) (fun w => y_build (is := [0, 1, 2, 3]) (xs := [_, _, _, _]) (out := [_, _, _, _]) plc_42 z_42 (.cons rfl (.cons rfl (.cons rfl (.cons rfl .nil)))) rfl) ?_
      refine dr_do (i := 11) (lb 14 4095) rfl (by kernel_rfl) ?_
      refine a_bslice encF [frm m x] Tryz.underlying106 sz_42 z_42 rfl (.cons rfl .nil) rfl rfl rfl (by decide) hS rfl fun u Hu w hou hS => ?_
      refine wl_nil ⟨fun _ _ => ⟨hS.cell rfl, hS.cell rfl, hS.cell rfl⟩, ?_⟩
      refine dr_do (i := 12) (lb 14 8191) rfl (by kernel_rfl) ?_
      refine a_append Tryz.underlying106 Tryz.underlying106 sz_42 z_42 rfl by_42 (by decide) rfl rfl ho (hou.holds hS) hS (by simp; omega) rfl fun s1 H1 w ho1 hS => ?_
      rw [← htk] at ho1
      refine wl_nil ⟨fun h => absurd (by decide) h, ?_⟩
      refine dr_pure (i := 13) (lb 14 16383) rfl rfl (by kernel_rfl) (fun w => y_assign rfl) ?_
      refine dr_done (by kernel_rfl) ?_
      refine wc_region ?_
      refine wl (y_add rfl rfl (w64 (by omega) (by omega))) rfl ?_
      refine wl (y_move rfl) rfl ?_
      refine wl_nil ?_
      exact ⟨(i + 1, _, H1), by simp only; omega, sub_cons rfl (sub_cons rfl (sub_cons rfl (sub_cons rfl (sub_cons rfl (sub_cons rfl sub_nil))))), by omega, ho1, hS.keep⟩
    · try simp only [zq1, zq2, zq3, zq4, zq5, zq6, zq7] at hc26
      obtain rfl : i = m.s.pieces.length := by omega
      rw [List.take_length] at ho
      obtain ⟨sa, sc, rfl⟩ := ho.slice
      have hml : (m.s.pieces.map (frm m)).length = m.s.pieces.length := List.length_map _
      refine wc_exit ?_
      refine wc_seq ?_
      refine wc_seq ?_
      refine wc_region ?_
      refine wl (y_move rfl) rfl ?_
      refine wl (y_len_sl Tryz.underlying106 rfl) rfl ?_
      refine wl (y_eql rfl rfl) rfl ?_
      refine wl_nil ?_
      refine wc_if rfl (fun hc45 => ?_) (fun hc45 => ?_)
      · try simp only [zq1, zq2, zq3, zq4, zq5, zq6, zq7] at hc45
        have hnil : m.s.pieces = [] := List.length_eq_zero_iff.1 (by omega)
        rw [if_pos hnil]
        refine wc_region ?_
        refine wl (y_move rfl) rfl ?_
        refine wl (y_move rfl) rfl ?_
        refine wl (y_nil rfl) rfl ?_
        refine wl (y_fld fl_165_1 rfl) rfl ?_
        refine wl (y_load pl_3 rfl (hS.cell rfl)) rfl ?_
        refine wl (y_move rfl) rfl ?_
        refine wl (y_build (is := [0, 2]) (xs := [_, _]) (out := [_, _, _, _]) plc_42 z_42 (.cons rfl (.cons rfl .nil)) rfl) rfl ?_
        refine a_bslice encF [⟨m.ep, 0, m.r.all.length, ByteArray.empty⟩] Tryz.underlying106 sz_42 z_42 rfl (.cons rfl .nil) rfl rfl rfl (by decide) hS rfl fun u Hu w hou hS => ?_
        refine a_append Tryz.underlying106 Tryz.underlying106 sz_42 z_42 rfl by_42 (by decide) rfl rfl ho (hou.holds hS) hS (by simp; omega) rfl fun s1 H1 w ho1 hS => ?_
        rw [hnil, List.map_nil, List.nil_append] at ho1
        refine wl (y_assign rfl) rfl ?_
        refine wl_nil ?_
        refine wc_seq ?_
        refine wc_region ?_
        refine wl (y_move rfl) rfl ?_
        refine wl (y_assign rfl) rfl ?_
        refine wl_nil ?_
        refine wc_ret ?_
        refine wret (vs := [_]) (.tmp rfl .nil) ?_
        first
        | exact ⟨_, .nil, St.nil hS.keep⟩
        | exact ⟨_, ho1, hS.keep⟩
        | exact ⟨_, ho, hS.keep⟩
      · try simp only [zq1, zq2, zq3, zq4, zq5, zq6, zq7] at hc45
        rw [if_neg (fun h => hc45 (by rw [h]; rfl))]
        refine wc_skip ?_
        refine wc_seq ?_
        refine wc_region ?_
        refine wl (y_move rfl) rfl ?_
        refine wl (y_assign rfl) rfl ?_
        refine wl_nil ?_
        refine wc_ret ?_
        refine wret (vs := [_]) (.tmp rfl .nil) ?_
        first
        | exact ⟨_, .nil, St.nil hS.keep⟩
        | exact ⟨_, ho1, hS.keep⟩
        | exact ⟨_, ho, hS.keep⟩
end
end Go.Proofs.YtndahppmjdbifaaGreatDoor.Lnk

set_option linter.unusedVariables false
set_option linter.unusedSimpArgs false
namespace Go.Proofs.YtndahppmjdbifaaGreatDoor.Lnk
open Go Go.Proofs Go.Proofs.YtndahppmjdbifaaGreatDoor.Eng Go.Proofs.YtndahppmjdbifaaGreatDoor.Snd Go.Proofs.YtndahppmjdbifaaGreatDoor.Fra

def Lnk.hear2 (m : Lnk) (f : Frm) : Lnk := ⟨m.ep, m.s.ack f.ack, if f.seq = 0 then m.r else m.r.hear f.seq f.data, m.win, m.room, m.pas⟩
def Lnk.anew (m : Lnk) (f : Frm) : Bool := decide (f.ep > m.ep) && m.pas
def Lnk.hear (m : Lnk) (f : Frm) : Lnk := if f.ep < m.ep then m else if f.ep > m.ep then (if m.pas then (m.fresh f.ep).hear2 f else m) else m.hear2 f
section
variable {M : Mem} {w : World} {Ls : List Chunk}
theorem lhear_c {p : Nat} {m : Lnk} {H : Chunk} (f : Frm) (hm : m.ok) (hb : IsL p m H) (hS : St M w (H :: Ls)) :
    CallsR Tryz.prog 76 [.pointer (some ⟨p, 0, none⟩), fv f].toArray w fun v w' => ∃ H', v = .bool (m.anew f) ∧ IsL p (m.hear f) H' ∧ St M w' (H' :: Ls) := by
  have hb0 := hb
  obtain ⟨ps, pr, Hs, Hr, hs, hr, rfl⟩ := hb
  obtain ⟨hm1, hm2, hm3⟩ := hm
  have hS0 := hS
  unfold lo at hS
  replace hS := hS.un2
  rcases Int.lt_trichotomy f.ep m.ep with hlt | heq | hgt
  · have ha : m.anew f = false := by unfold Lnk.anew; rw [decide_eq_false (by omega)]; rfl
    have hq : m.hear f = m := by unfold Lnk.hear; rw [if_pos hlt]
    rw [ha, hq]
    refine calls_of (c := _) (rs := _) (n := 57) Tryz.func76 rfl rfl rfl rfl rfl ?_
    refine wc_seq ?_
    refine wc_region ?_
    refine a_box rfl hS rfl fun b3 w hS => ?_
    refine wl (y_assign rfl) rfl ?_
    refine wl_nil ?_
    refine wc_seq ?_
    refine wc_draw (l0 := (lb 8 0)) (fun w => w.cell? ⟨b3, 0, none⟩ = some (.int .i64 f.ep) ∧ w.cell? ⟨p, 2, none⟩ = some (.int .i64 m.ep)) [] wide_ rfl rfl fun w hw => ?_
    replace hS := hS.same hw; clear hw
    refine dr_pure (i := 0) (lb 8 1) rfl rfl (by kernel_rfl) (fun w => y_fld fl_42_0 rfl) ?_
    refine dr_pure (i := 2) (lb 8 5) rfl rfl (by kernel_rfl) (fun w => y_move rfl) ?_
    refine dr_pure (i := 3) (lb 8 13) rfl rfl (by kernel_rfl) (fun w => y_nil rfl) ?_
    refine dr_pure (i := 4) (lb 8 29) rfl rfl (by kernel_rfl) (fun w => y_fld fl_165_1 rfl) ?_
    refine dr_read (i := 1) (lb 8 31) rfl rfl (by kernel_rfl) ⟨hS.cell rfl, hS.cell rfl⟩ (fun w hS => y_load pl_3 rfl hS.1) ?_
    refine dr_read (i := 5) (lb 8 63) rfl rfl (by kernel_rfl) ⟨hS.cell rfl, hS.cell rfl⟩ (fun w hS => y_load pl_3 rfl hS.2) ?_
    refine dr_pure (i := 6) (lb 8 127) rfl rfl (by kernel_rfl) (fun w => y_gtr rfl rfl) ?_
    refine dr_pure (i := 7) (lb 8 255) rfl rfl (by kernel_rfl) (fun w => y_assign rfl) ?_
    refine dr_done (by kernel_rfl) ?_
    refine wc_seq ?_
    refine wc_seq ?_
    refine wc_draw (l0 := (lb 17 0)) (fun w => w.cell? ⟨b3, 0, none⟩ = some (.int .i64 f.ep) ∧ w.cell? ⟨p, 2, none⟩ = some (.int .i64 m.ep)) [] wide_ rfl rfl fun w hw => ?_
    replace hS := hS.same hw; clear hw
    refine dr_pure (i := 0) (lb 17 1) rfl rfl (by kernel_rfl) (fun w => y_fld fl_42_0 rfl) ?_
    refine dr_pure (i := 2) (lb 17 5) rfl rfl (by kernel_rfl) (fun w => y_move rfl) ?_
    refine dr_pure (i := 3) (lb 17 13) rfl rfl (by kernel_rfl) (fun w => y_nil rfl) ?_
    refine dr_pure (i := 4) (lb 17 29) rfl rfl (by kernel_rfl) (fun w => y_fld fl_165_1 rfl) ?_
    refine dr_read (i := 1) (lb 17 31) rfl rfl (by kernel_rfl) ⟨hS.cell rfl, hS.cell rfl⟩ (fun w hS => y_load pl_3 rfl hS.1) ?_
    refine dr_read (i := 5) (lb 17 63) rfl rfl (by kernel_rfl) ⟨hS.cell rfl, hS.cell rfl⟩ (fun w hS => y_load pl_3 rfl hS.2) ?_
    refine dr_pure (i := 6) (lb 17 127) rfl rfl (by kernel_rfl) (fun w => (y_lss rfl rfl).val (u := .bool true) (congrArg Value.bool (decide_eq_true (by omega)))) ?_
    refine dr_pure (i := 7) (lb 17 255) rfl rfl (by kernel_rfl) (fun w => y_move rfl) ?_
    refine dr_off (i := 8) (lb 17 511) rfl rfl (by kernel_rfl) rfl rfl rfl ?_
    refine dr_off (i := 9) (lb 17 1023) rfl rfl (by kernel_rfl) rfl rfl rfl ?_
    refine dr_offU (i := 10) (lb 17 2047) rfl rfl (by kernel_rfl) rfl rfl ?_
    refine dr_offU (i := 11) (lb 17 4095) rfl rfl (by kernel_rfl) rfl rfl ?_
    refine dr_offU (i := 12) (lb 17 8191) rfl rfl (by kernel_rfl) rfl rfl ?_
    refine dr_offU (i := 13) (lb 17 16383) rfl rfl (by kernel_rfl) rfl rfl ?_
    refine dr_offU (i := 14) (lb 17 32767) rfl rfl (by kernel_rfl) rfl rfl ?_
    refine dr_off (i := 15) (lb 17 65535) rfl rfl (by kernel_rfl) rfl rfl rfl ?_
    refine dr_pure (i := 16) (lb 17 131071) rfl rfl (by kernel_rfl) (fun w => y_pickT rfl rfl) ?_
    refine dr_done (by kernel_rfl) ?_
    refine wc_ifT rfl (rfl) ?_
    refine wc_seq ?_
    refine wc_region ?_
    refine wl (y_assign rfl) rfl ?_
    refine wl_nil ?_
    refine wc_ret ?_
    refine wret (vs := [_]) (.tmp rfl .nil) ?_
    exact ⟨_, rfl, hb0, (by unfold lo; exact hS.keep)⟩
  · have ha : m.anew f = false := by unfold Lnk.anew; rw [decide_eq_false (by omega)]; rfl
    have hq : m.hear f = m.hear2 f := by unfold Lnk.hear; rw [if_neg (by omega), if_neg (by omega)]
    rw [ha, hq]
    refine calls_of (c := _) (rs := _) (n := 57) Tryz.func76 rfl rfl rfl rfl rfl ?_
    refine wc_seq ?_
    refine wc_region ?_
    refine a_box rfl hS rfl fun b3 w hS => ?_
    refine wl (y_assign rfl) rfl ?_
    refine wl_nil ?_
    refine wc_seq ?_
    refine wc_draw (l0 := (lb 8 0)) (fun w => w.cell? ⟨b3, 0, none⟩ = some (.int .i64 f.ep) ∧ w.cell? ⟨p, 2, none⟩ = some (.int .i64 m.ep)) [] wide_ rfl rfl fun w hw => ?_
    replace hS := hS.same hw; clear hw
    refine dr_pure (i := 0) (lb 8 1) rfl rfl (by kernel_rfl) (fun w => y_fld fl_42_0 rfl) ?_
    refine dr_pure (i := 2) (lb 8 5) rfl rfl (by kernel_rfl) (fun w => y_move rfl) ?_
    refine dr_pure (i := 3) (lb 8 13) rfl rfl (by kernel_rfl) (fun w => y_nil rfl) ?_
    refine dr_pure (i := 4) (lb 8 29) rfl rfl (by kernel_rfl) (fun w => y_fld fl_165_1 rfl) ?_
    refine dr_read (i := 1) (lb 8 31) rfl rfl (by kernel_rfl) ⟨hS.cell rfl, hS.cell rfl⟩ (fun w hS => y_load pl_3 rfl hS.1) ?_
    refine dr_read (i := 5) (lb 8 63) rfl rfl (by kernel_rfl) ⟨hS.cell rfl, hS.cell rfl⟩ (fun w hS => y_load pl_3 rfl hS.2) ?_
    refine dr_pure (i := 6) (lb 8 127) rfl rfl (by kernel_rfl) (fun w => (y_gtr rfl rfl).val (u := .bool false) (congrArg Value.bool (decide_eq_false (by omega)))) ?_
    refine dr_pure (i := 7) (lb 8 255) rfl rfl (by kernel_rfl) (fun w => y_assign rfl) ?_
    refine dr_done (by kernel_rfl) ?_
    refine wc_seq ?_
    refine wc_seq ?_
    refine wc_draw (l0 := (lb 17 0)) (fun w => w.cell? ⟨b3, 0, none⟩ = some (.int .i64 f.ep) ∧ w.cell? ⟨p, 2, none⟩ = some (.int .i64 m.ep) ∧ w.cell? ⟨p, 5, none⟩ = some (.bool m.pas)) [] wide_ rfl rfl fun w hw => ?_
    replace hS := hS.same hw; clear hw
    refine dr_pure (i := 0) (lb 17 1) rfl rfl (by kernel_rfl) (fun w => y_fld fl_42_0 rfl) ?_
    refine dr_pure (i := 2) (lb 17 5) rfl rfl (by kernel_rfl) (fun w => y_move rfl) ?_
    refine dr_pure (i := 3) (lb 17 13) rfl rfl (by kernel_rfl) (fun w => y_nil rfl) ?_
    refine dr_pure (i := 4) (lb 17 29) rfl rfl (by kernel_rfl) (fun w => y_fld fl_165_1 rfl) ?_
    refine dr_read (i := 1) (lb 17 31) rfl rfl (by kernel_rfl) ⟨hS.cell rfl, hS.cell rfl, hS.cell rfl⟩ (fun w hS => y_load pl_3 rfl hS.1) ?_
    refine dr_read (i := 5) (lb 17 63) rfl rfl (by kernel_rfl) ⟨hS.cell rfl, hS.cell rfl, hS.cell rfl⟩ (fun w hS => y_load pl_3 rfl hS.2.1) ?_
    refine dr_pure (i := 6) (lb 17 127) rfl rfl (by kernel_rfl) (fun w => (y_lss rfl rfl).val (u := .bool false) (congrArg Value.bool (decide_eq_false (by omega)))) ?_
    refine dr_pure (i := 7) (lb 17 255) rfl rfl (by kernel_rfl) (fun w => y_move rfl) ?_
    refine dr_pureG (i := 8) (lb 17 511) rfl rfl (by kernel_rfl) rfl rfl (fun w => y_move rfl) ?_
    refine dr_pureG (i := 9) (lb 17 1023) rfl rfl (by kernel_rfl) rfl rfl (fun w => y_move rfl) ?_
    refine dr_off (i := 10) (lb 17 2047) rfl rfl (by kernel_rfl) rfl rfl rfl ?_
    refine dr_off (i := 11) (lb 17 4095) rfl rfl (by kernel_rfl) rfl rfl rfl ?_
    refine dr_off (i := 12) (lb 17 8191) rfl rfl (by kernel_rfl) rfl rfl rfl ?_
    refine dr_off (i := 13) (lb 17 16383) rfl rfl (by kernel_rfl) rfl rfl rfl ?_
    refine dr_off (i := 14) (lb 17 32767) rfl rfl (by kernel_rfl) rfl rfl rfl ?_
    refine dr_pureG (i := 15) (lb 17 65535) rfl rfl (by kernel_rfl) rfl rfl (fun w => y_pickF rfl rfl) ?_
    refine dr_pure (i := 16) (lb 17 131071) rfl rfl (by kernel_rfl) (fun w => y_pickF rfl rfl) ?_
    refine dr_done (by kernel_rfl) ?_
    refine wc_ifF rfl (rfl) ?_
    refine wc_skip ?_
    refine wc_seq ?_
    refine wc_seq ?_
    refine wc_region ?_
    refine wl (y_move rfl) rfl ?_
    refine wl_nil ?_
    refine wc_ifF rfl (rfl) ?_
    refine wc_skip ?_
    refine wc_seq ?_
    refine wc_draw (l0 := (lb 8 0)) (fun w => w.cell? ⟨p, 0, none⟩ = some (.pointer (some ⟨ps, 0, none⟩)) ∧ w.cell? ⟨b3, 2, none⟩ = some (.int .i64 f.ack)) [7] wide_ rfl rfl fun w hw => ?_
    replace hS := hS.same hw; clear hw
    refine dr_pure (i := 0) (lb 8 1) rfl rfl (by kernel_rfl) (fun w => y_move rfl) ?_
    refine dr_pure (i := 1) (lb 8 3) rfl rfl (by kernel_rfl) (fun w => y_nil rfl) ?_
    refine dr_pure (i := 2) (lb 8 7) rfl rfl (by kernel_rfl) (fun w => y_fld fl_165_0 rfl) ?_
    refine dr_pure (i := 3) (lb 8 15) rfl rfl (by kernel_rfl) (fun w => y_fld fl_163_0 rfl) ?_
    refine dr_pure (i := 5) (lb 8 47) rfl rfl (by kernel_rfl) (fun w => y_fld fl_42_2 rfl) ?_
    refine dr_read (i := 4) (lb 8 63) rfl rfl (by kernel_rfl) ⟨hS.cell rfl, hS.cell rfl⟩ (fun w hS => y_load pl_160 rfl hS.1) ?_
    refine dr_read (i := 6) (lb 8 127) rfl rfl (by kernel_rfl) ⟨hS.cell rfl, hS.cell rfl⟩ (fun w hS => y_load pl_3 rfl hS.2) ?_
    refine dr_do (i := 7) (lb 8 255) rfl (by kernel_rfl) ?_
    refine wl_call (.cons rfl (.cons rfl .nil)) (sack_c f.ack hm2 hs (hS.pull Hs)) rfl ?_
    rintro _ w ⟨k, Hs', rfl, hs, hS⟩
    refine wl_nil ⟨fun h => absurd (by decide) h, ?_⟩
    refine dr_done (by kernel_rfl) ?_
    refine wc_seq ?_
    refine wc_seq ?_
    refine wc_region ?_
    refine wl (y_fld fl_42_1 rfl) rfl ?_
    refine wl (y_load pl_3 rfl (hS.cell (v := .int .i64 f.seq) rfl)) rfl ?_
    refine wl (y_neq rfl rfl) rfl ?_
    refine wl_nil ?_
    refine wc_if rfl (fun hc45 => ?_) (fun hc45 => ?_)
    · try simp only [zq1, zq2, zq3, zq4, zq5, zq6, zq7] at hc45
      have he : m.hear2 f = ⟨m.ep, m.s.ack f.ack, m.r.hear f.seq f.data, m.win, m.room, m.pas⟩ := by unfold Lnk.hear2; rw [if_neg (by omega)]
      rw [he]
      refine wc_draw (l0 := (lb 10 0)) (fun w => w.cell? ⟨p, 1, none⟩ = some (.pointer (some ⟨pr, 0, none⟩)) ∧ w.cell? ⟨b3, 1, none⟩ = some (.int .i64 f.seq) ∧ w.cell? ⟨b3, 3, none⟩ = some (.string f.data)) [9] wide_ rfl rfl fun w hw => ?_
      replace hS := hS.same hw; clear hw
      refine dr_pure (i := 0) (lb 10 1) rfl rfl (by kernel_rfl) (fun w => y_move rfl) ?_
      refine dr_pure (i := 1) (lb 10 3) rfl rfl (by kernel_rfl) (fun w => y_nil rfl) ?_
      refine dr_pure (i := 2) (lb 10 7) rfl rfl (by kernel_rfl) (fun w => y_fld fl_165_0 rfl) ?_
      refine dr_pure (i := 3) (lb 10 15) rfl rfl (by kernel_rfl) (fun w => y_fld fl_163_1 rfl) ?_
      refine dr_pure (i := 5) (lb 10 47) rfl rfl (by kernel_rfl) (fun w => y_fld fl_42_1 rfl) ?_
      refine dr_pure (i := 7) (lb 10 175) rfl rfl (by kernel_rfl) (fun w => y_fld fl_42_3 rfl) ?_
      refine dr_read (i := 4) (lb 10 191) rfl rfl (by kernel_rfl) ⟨hS.cell rfl, hS.cell rfl, hS.cell rfl⟩ (fun w hS => y_load pl_161 rfl hS.1) ?_
      refine dr_read (i := 6) (lb 10 255) rfl rfl (by kernel_rfl) ⟨hS.cell rfl, hS.cell rfl, hS.cell rfl⟩ (fun w hS => y_load pl_3 rfl hS.2.1) ?_
      refine dr_read (i := 8) (lb 10 511) rfl rfl (by kernel_rfl) ⟨hS.cell rfl, hS.cell rfl, hS.cell rfl⟩ (fun w hS => y_load pl_9 rfl hS.2.2) ?_
      refine dr_do (i := 9) (lb 10 1023) rfl (by kernel_rfl) ?_
      refine wl_call (.cons rfl (.cons rfl (.cons rfl .nil))) (chear_c f.seq f.data hm3 hr (hS.pull Hr)) rfl ?_
      rintro _ w ⟨Hr', rfl, hr, hS⟩
      refine wl_nil ⟨fun h => absurd (by decide) h, ?_⟩
      refine dr_done (by kernel_rfl) ?_
      refine wc_seq ?_
      refine wc_region ?_
      refine wl (y_move rfl) rfl ?_
      refine wl (y_assign rfl) rfl ?_
      refine wl_nil ?_
      refine wc_ret ?_
      refine wret (vs := [_]) (.tmp rfl .nil) ?_
      first
      | exact ⟨_, rfl, ⟨ps, pr, Hs', Hr', hs, hr, rfl⟩, (by unfold lo; dsimp only; exact hS.keep)⟩
      | exact ⟨_, rfl, ⟨ps, pr, Hs', Hr, hs, hr, rfl⟩, (by unfold lo; dsimp only; exact hS.keep)⟩
    · try simp only [zq1, zq2, zq3, zq4, zq5, zq6, zq7] at hc45
      have he : m.hear2 f = ⟨m.ep, m.s.ack f.ack, m.r, m.win, m.room, m.pas⟩ := by unfold Lnk.hear2; rw [if_pos (by omega)]
      rw [he]
      refine wc_skip ?_
      refine wc_seq ?_
      refine wc_region ?_
      refine wl (y_move rfl) rfl ?_
      refine wl (y_assign rfl) rfl ?_
      refine wl_nil ?_
      refine wc_ret ?_
      refine wret (vs := [_]) (.tmp rfl .nil) ?_
      first
      | exact ⟨_, rfl, ⟨ps, pr, Hs', Hr', hs, hr, rfl⟩, (by unfold lo; dsimp only; exact hS.keep)⟩
      | exact ⟨_, rfl, ⟨ps, pr, Hs', Hr, hs, hr, rfl⟩, (by unfold lo; dsimp only; exact hS.keep)⟩
  · by_cases hpas : m.pas = true
    · have ha : m.anew f = true := by unfold Lnk.anew; rw [decide_eq_true (by omega), hpas]; rfl
      have hq : m.hear f = (m.fresh f.ep).hear2 f := by unfold Lnk.hear; rw [if_neg (by omega), if_pos (by omega), if_pos hpas]
      rw [ha, hq]
      refine calls_of (c := _) (rs := _) (n := 57) Tryz.func76 rfl rfl rfl rfl rfl ?_
      refine wc_seq ?_
      refine wc_region ?_
      refine a_box rfl hS rfl fun b3 w hS => ?_
      refine wl (y_assign rfl) rfl ?_
      refine wl_nil ?_
      refine wc_seq ?_
      refine wc_draw (l0 := (lb 8 0)) (fun w => w.cell? ⟨b3, 0, none⟩ = some (.int .i64 f.ep) ∧ w.cell? ⟨p, 2, none⟩ = some (.int .i64 m.ep)) [] wide_ rfl rfl fun w hw => ?_
      replace hS := hS.same hw; clear hw
      refine dr_pure (i := 0) (lb 8 1) rfl rfl (by kernel_rfl) (fun w => y_fld fl_42_0 rfl) ?_
      refine dr_pure (i := 2) (lb 8 5) rfl rfl (by kernel_rfl) (fun w => y_move rfl) ?_
      refine dr_pure (i := 3) (lb 8 13) rfl rfl (by kernel_rfl) (fun w => y_nil rfl) ?_
      refine dr_pure (i := 4) (lb 8 29) rfl rfl (by kernel_rfl) (fun w => y_fld fl_165_1 rfl) ?_
      refine dr_read (i := 1) (lb 8 31) rfl rfl (by kernel_rfl) ⟨hS.cell rfl, hS.cell rfl⟩ (fun w hS => y_load pl_3 rfl hS.1) ?_
      refine dr_read (i := 5) (lb 8 63) rfl rfl (by kernel_rfl) ⟨hS.cell rfl, hS.cell rfl⟩ (fun w hS => y_load pl_3 rfl hS.2) ?_
      refine dr_pure (i := 6) (lb 8 127) rfl rfl (by kernel_rfl) (fun w => (y_gtr rfl rfl).val (u := .bool true) (congrArg Value.bool (decide_eq_true (by omega)))) ?_
      refine dr_pure (i := 7) (lb 8 255) rfl rfl (by kernel_rfl) (fun w => y_assign rfl) ?_
      refine dr_done (by kernel_rfl) ?_
      refine wc_seq ?_
      refine wc_seq ?_
      refine wc_draw (l0 := (lb 17 0)) (fun w => w.cell? ⟨b3, 0, none⟩ = some (.int .i64 f.ep) ∧ w.cell? ⟨p, 2, none⟩ = some (.int .i64 m.ep) ∧ w.cell? ⟨p, 5, none⟩ = some (.bool m.pas)) [] wide_ rfl rfl fun w hw => ?_
      replace hS := hS.same hw; clear hw
      refine dr_pure (i := 0) (lb 17 1) rfl rfl (by kernel_rfl) (fun w => y_fld fl_42_0 rfl) ?_
      refine dr_pure (i := 2) (lb 17 5) rfl rfl (by kernel_rfl) (fun w => y_move rfl) ?_
      refine dr_pure (i := 3) (lb 17 13) rfl rfl (by kernel_rfl) (fun w => y_nil rfl) ?_
      refine dr_pure (i := 4) (lb 17 29) rfl rfl (by kernel_rfl) (fun w => y_fld fl_165_1 rfl) ?_
      refine dr_read (i := 1) (lb 17 31) rfl rfl (by kernel_rfl) ⟨hS.cell rfl, hS.cell rfl, hS.cell rfl⟩ (fun w hS => y_load pl_3 rfl hS.1) ?_
      refine dr_read (i := 5) (lb 17 63) rfl rfl (by kernel_rfl) ⟨hS.cell rfl, hS.cell rfl, hS.cell rfl⟩ (fun w hS => y_load pl_3 rfl hS.2.1) ?_
      refine dr_pure (i := 6) (lb 17 127) rfl rfl (by kernel_rfl) (fun w => (y_lss rfl rfl).val (u := .bool false) (congrArg Value.bool (decide_eq_false (by omega)))) ?_
      refine dr_pure (i := 7) (lb 17 255) rfl rfl (by kernel_rfl) (fun w => y_move rfl) ?_
      refine dr_pureG (i := 8) (lb 17 511) rfl rfl (by kernel_rfl) rfl rfl (fun w => y_move rfl) ?_
      refine dr_pureG (i := 9) (lb 17 1023) rfl rfl (by kernel_rfl) rfl rfl (fun w => y_move rfl) ?_
      refine dr_pureG (i := 10) (lb 17 2047) rfl rfl (by kernel_rfl) rfl rfl (fun w => y_move rfl) ?_
      refine dr_pureG (i := 11) (lb 17 4095) rfl rfl (by kernel_rfl) rfl rfl (fun w => y_nil rfl) ?_
      refine dr_pureG (i := 12) (lb 17 8191) rfl rfl (by kernel_rfl) rfl rfl (fun w => y_fld fl_165_4 rfl) ?_
      refine dr_readG (i := 13) (lb 17 16383) rfl rfl (by kernel_rfl) rfl rfl ⟨hS.cell rfl, hS.cell rfl, hS.cell rfl⟩ (fun w hS => y_load pl_4 rfl hS.2.2) ?_
      refine dr_pureG (i := 14) (lb 17 32767) rfl rfl (by kernel_rfl) rfl rfl (fun w => y_not rfl) ?_
      refine dr_pureG (i := 15) (lb 17 65535) rfl rfl (by kernel_rfl) rfl rfl (fun w => y_pickT rfl rfl) ?_
      refine dr_pure (i := 16) (lb 17 131071) rfl rfl (by kernel_rfl) (fun w => y_pickF rfl rfl) ?_
      refine dr_done (by kernel_rfl) ?_
      refine wc_ifF rfl (by rw [hpas]; rfl) ?_
      refine wc_skip ?_
      refine wc_seq ?_
      refine wc_seq ?_
      refine wc_region ?_
      refine wl (y_move rfl) rfl ?_
      refine wl_nil ?_
      refine wc_ifT rfl (rfl) ?_
      refine wc_region ?_
      refine wl (y_move rfl) rfl ?_
      refine wl (y_fld fl_42_0 rfl) rfl ?_
      refine wl (y_load pl_3 rfl (hS.cell (v := .int .i64 f.ep) rfl)) rfl ?_
      refine wl_call (.cons rfl (.cons rfl .nil)) (lbegin_c f.ep (hS.pull [(p, .cells #[.pointer (some ⟨ps, 0, none⟩), .pointer (some ⟨pr, 0, none⟩), .int .i64 m.ep, .int .i64 m.win, .int .i64 m.room, .bool m.pas] 165)])) rfl ?_
      rintro _ w ⟨H', hl, hS⟩
      obtain ⟨q, hn⟩ : ∃ q, q = Lnk.new f.ep m.win m.room m.pas := ⟨_, rfl⟩
      rw [← hn] at hl
      have hfr : m.fresh f.ep = q := by rw [hn]; rfl
      rw [hfr]
      obtain ⟨qm1, qm2, qm3⟩ : q.ok := by rw [hn]; exact Lnk.new_ok _ _ _ _
      obtain ⟨ps2, pr2, Hs2, Hr2, hs2, hr2, rfl⟩ := hl
      unfold lo at hS
      replace hS := hS.un2
      refine wl_nil ?_
      refine wc_seq ?_
      refine wc_draw (l0 := (lb 8 0)) (fun w => w.cell? ⟨p, 0, none⟩ = some (.pointer (some ⟨ps2, 0, none⟩)) ∧ w.cell? ⟨b3, 2, none⟩ = some (.int .i64 f.ack)) [7] wide_ rfl rfl fun w hw => ?_
      replace hS := hS.same hw; clear hw
      refine dr_pure (i := 0) (lb 8 1) rfl rfl (by kernel_rfl) (fun w => y_move rfl) ?_
      refine dr_pure (i := 1) (lb 8 3) rfl rfl (by kernel_rfl) (fun w => y_nil rfl) ?_
      refine dr_pure (i := 2) (lb 8 7) rfl rfl (by kernel_rfl) (fun w => y_fld fl_165_0 rfl) ?_
      refine dr_pure (i := 3) (lb 8 15) rfl rfl (by kernel_rfl) (fun w => y_fld fl_163_0 rfl) ?_
      refine dr_pure (i := 5) (lb 8 47) rfl rfl (by kernel_rfl) (fun w => y_fld fl_42_2 rfl) ?_
      refine dr_read (i := 4) (lb 8 63) rfl rfl (by kernel_rfl) ⟨hS.cell rfl, hS.cell rfl⟩ (fun w hS => y_load pl_160 rfl hS.1) ?_
      refine dr_read (i := 6) (lb 8 127) rfl rfl (by kernel_rfl) ⟨hS.cell rfl, hS.cell rfl⟩ (fun w hS => y_load pl_3 rfl hS.2) ?_
      refine dr_do (i := 7) (lb 8 255) rfl (by kernel_rfl) ?_
      refine wl_call (.cons rfl (.cons rfl .nil)) (sack_c f.ack qm2 hs2 (hS.pull Hs2)) rfl ?_
      rintro _ w ⟨k, Hs', rfl, hs2, hS⟩
      refine wl_nil ⟨fun h => absurd (by decide) h, ?_⟩
      refine dr_done (by kernel_rfl) ?_
      refine wc_seq ?_
      refine wc_seq ?_
      refine wc_region ?_
      refine wl (y_fld fl_42_1 rfl) rfl ?_
      refine wl (y_load pl_3 rfl (hS.cell (v := .int .i64 f.seq) rfl)) rfl ?_
      refine wl (y_neq rfl rfl) rfl ?_
      refine wl_nil ?_
      refine wc_if rfl (fun hc45 => ?_) (fun hc45 => ?_)
      · try simp only [zq1, zq2, zq3, zq4, zq5, zq6, zq7] at hc45
        have he : q.hear2 f = ⟨q.ep, q.s.ack f.ack, q.r.hear f.seq f.data, q.win, q.room, q.pas⟩ := by unfold Lnk.hear2; rw [if_neg (by omega)]
        rw [he]
        refine wc_draw (l0 := (lb 10 0)) (fun w => w.cell? ⟨p, 1, none⟩ = some (.pointer (some ⟨pr2, 0, none⟩)) ∧ w.cell? ⟨b3, 1, none⟩ = some (.int .i64 f.seq) ∧ w.cell? ⟨b3, 3, none⟩ = some (.string f.data)) [9] wide_ rfl rfl fun w hw => ?_
        replace hS := hS.same hw; clear hw
        refine dr_pure (i := 0) (lb 10 1) rfl rfl (by kernel_rfl) (fun w => y_move rfl) ?_
        refine dr_pure (i := 1) (lb 10 3) rfl rfl (by kernel_rfl) (fun w => y_nil rfl) ?_
        refine dr_pure (i := 2) (lb 10 7) rfl rfl (by kernel_rfl) (fun w => y_fld fl_165_0 rfl) ?_
        refine dr_pure (i := 3) (lb 10 15) rfl rfl (by kernel_rfl) (fun w => y_fld fl_163_1 rfl) ?_
        refine dr_pure (i := 5) (lb 10 47) rfl rfl (by kernel_rfl) (fun w => y_fld fl_42_1 rfl) ?_
        refine dr_pure (i := 7) (lb 10 175) rfl rfl (by kernel_rfl) (fun w => y_fld fl_42_3 rfl) ?_
        refine dr_read (i := 4) (lb 10 191) rfl rfl (by kernel_rfl) ⟨hS.cell rfl, hS.cell rfl, hS.cell rfl⟩ (fun w hS => y_load pl_161 rfl hS.1) ?_
        refine dr_read (i := 6) (lb 10 255) rfl rfl (by kernel_rfl) ⟨hS.cell rfl, hS.cell rfl, hS.cell rfl⟩ (fun w hS => y_load pl_3 rfl hS.2.1) ?_
        refine dr_read (i := 8) (lb 10 511) rfl rfl (by kernel_rfl) ⟨hS.cell rfl, hS.cell rfl, hS.cell rfl⟩ (fun w hS => y_load pl_9 rfl hS.2.2) ?_
        refine dr_do (i := 9) (lb 10 1023) rfl (by kernel_rfl) ?_
        refine wl_call (.cons rfl (.cons rfl (.cons rfl .nil))) (chear_c f.seq f.data qm3 hr2 (hS.pull Hr2)) rfl ?_
        rintro _ w ⟨Hr', rfl, hr2, hS⟩
        refine wl_nil ⟨fun h => absurd (by decide) h, ?_⟩
        refine dr_done (by kernel_rfl) ?_
        refine wc_seq ?_
        refine wc_region ?_
        refine wl (y_move rfl) rfl ?_
        refine wl (y_assign rfl) rfl ?_
        refine wl_nil ?_
        refine wc_ret ?_
        refine wret (vs := [_]) (.tmp rfl .nil) ?_
        first
        | exact ⟨_, rfl, ⟨ps2, pr2, Hs', Hr', hs2, hr2, rfl⟩, (by unfold lo; dsimp only; exact hS.keep)⟩
        | exact ⟨_, rfl, ⟨ps2, pr2, Hs', Hr2, hs2, hr2, rfl⟩, (by unfold lo; dsimp only; exact hS.keep)⟩
      · try simp only [zq1, zq2, zq3, zq4, zq5, zq6, zq7] at hc45
        have he : q.hear2 f = ⟨q.ep, q.s.ack f.ack, q.r, q.win, q.room, q.pas⟩ := by unfold Lnk.hear2; rw [if_pos (by omega)]
        rw [he]
        refine wc_skip ?_
        refine wc_seq ?_
        refine wc_region ?_
        refine wl (y_move rfl) rfl ?_
        refine wl (y_assign rfl) rfl ?_
        refine wl_nil ?_
        refine wc_ret ?_
        refine wret (vs := [_]) (.tmp rfl .nil) ?_
        first
        | exact ⟨_, rfl, ⟨ps2, pr2, Hs', Hr', hs2, hr2, rfl⟩, (by unfold lo; dsimp only; exact hS.keep)⟩
        | exact ⟨_, rfl, ⟨ps2, pr2, Hs', Hr2, hs2, hr2, rfl⟩, (by unfold lo; dsimp only; exact hS.keep)⟩
    · have ha : m.anew f = false := by unfold Lnk.anew; simp [hpas]
      have hq : m.hear f = m := by unfold Lnk.hear; rw [if_neg (by omega), if_pos (by omega), if_neg hpas]
      have hpf : m.pas = false := by simpa using hpas
      rw [ha, hq]
      refine calls_of (c := _) (rs := _) (n := 57) Tryz.func76 rfl rfl rfl rfl rfl ?_
      refine wc_seq ?_
      refine wc_region ?_
      refine a_box rfl hS rfl fun b3 w hS => ?_
      refine wl (y_assign rfl) rfl ?_
      refine wl_nil ?_
      refine wc_seq ?_
      refine wc_draw (l0 := (lb 8 0)) (fun w => w.cell? ⟨b3, 0, none⟩ = some (.int .i64 f.ep) ∧ w.cell? ⟨p, 2, none⟩ = some (.int .i64 m.ep)) [] wide_ rfl rfl fun w hw => ?_
      replace hS := hS.same hw; clear hw
      refine dr_pure (i := 0) (lb 8 1) rfl rfl (by kernel_rfl) (fun w => y_fld fl_42_0 rfl) ?_
      refine dr_pure (i := 2) (lb 8 5) rfl rfl (by kernel_rfl) (fun w => y_move rfl) ?_
      refine dr_pure (i := 3) (lb 8 13) rfl rfl (by kernel_rfl) (fun w => y_nil rfl) ?_
      refine dr_pure (i := 4) (lb 8 29) rfl rfl (by kernel_rfl) (fun w => y_fld fl_165_1 rfl) ?_
      refine dr_read (i := 1) (lb 8 31) rfl rfl (by kernel_rfl) ⟨hS.cell rfl, hS.cell rfl⟩ (fun w hS => y_load pl_3 rfl hS.1) ?_
      refine dr_read (i := 5) (lb 8 63) rfl rfl (by kernel_rfl) ⟨hS.cell rfl, hS.cell rfl⟩ (fun w hS => y_load pl_3 rfl hS.2) ?_
      refine dr_pure (i := 6) (lb 8 127) rfl rfl (by kernel_rfl) (fun w => (y_gtr rfl rfl).val (u := .bool true) (congrArg Value.bool (decide_eq_true (by omega)))) ?_
      refine dr_pure (i := 7) (lb 8 255) rfl rfl (by kernel_rfl) (fun w => y_assign rfl) ?_
      refine dr_done (by kernel_rfl) ?_
      refine wc_seq ?_
      refine wc_seq ?_
      refine wc_draw (l0 := (lb 17 0)) (fun w => w.cell? ⟨b3, 0, none⟩ = some (.int .i64 f.ep) ∧ w.cell? ⟨p, 2, none⟩ = some (.int .i64 m.ep) ∧ w.cell? ⟨p, 5, none⟩ = some (.bool m.pas)) [] wide_ rfl rfl fun w hw => ?_
      replace hS := hS.same hw; clear hw
      refine dr_pure (i := 0) (lb 17 1) rfl rfl (by kernel_rfl) (fun w => y_fld fl_42_0 rfl) ?_
      refine dr_pure (i := 2) (lb 17 5) rfl rfl (by kernel_rfl) (fun w => y_move rfl) ?_
      refine dr_pure (i := 3) (lb 17 13) rfl rfl (by kernel_rfl) (fun w => y_nil rfl) ?_
      refine dr_pure (i := 4) (lb 17 29) rfl rfl (by kernel_rfl) (fun w => y_fld fl_165_1 rfl) ?_
      refine dr_read (i := 1) (lb 17 31) rfl rfl (by kernel_rfl) ⟨hS.cell rfl, hS.cell rfl, hS.cell rfl⟩ (fun w hS => y_load pl_3 rfl hS.1) ?_
      refine dr_read (i := 5) (lb 17 63) rfl rfl (by kernel_rfl) ⟨hS.cell rfl, hS.cell rfl, hS.cell rfl⟩ (fun w hS => y_load pl_3 rfl hS.2.1) ?_
      refine dr_pure (i := 6) (lb 17 127) rfl rfl (by kernel_rfl) (fun w => (y_lss rfl rfl).val (u := .bool false) (congrArg Value.bool (decide_eq_false (by omega)))) ?_
      refine dr_pure (i := 7) (lb 17 255) rfl rfl (by kernel_rfl) (fun w => y_move rfl) ?_
      refine dr_pureG (i := 8) (lb 17 511) rfl rfl (by kernel_rfl) rfl rfl (fun w => y_move rfl) ?_
      refine dr_pureG (i := 9) (lb 17 1023) rfl rfl (by kernel_rfl) rfl rfl (fun w => y_move rfl) ?_
      refine dr_pureG (i := 10) (lb 17 2047) rfl rfl (by kernel_rfl) rfl rfl (fun w => y_move rfl) ?_
      refine dr_pureG (i := 11) (lb 17 4095) rfl rfl (by kernel_rfl) rfl rfl (fun w => y_nil rfl) ?_
      refine dr_pureG (i := 12) (lb 17 8191) rfl rfl (by kernel_rfl) rfl rfl (fun w => y_fld fl_165_4 rfl) ?_
      refine dr_readG (i := 13) (lb 17 16383) rfl rfl (by kernel_rfl) rfl rfl ⟨hS.cell rfl, hS.cell rfl, hS.cell rfl⟩ (fun w hS => y_load pl_4 rfl hS.2.2) ?_
      refine dr_pureG (i := 14) (lb 17 32767) rfl rfl (by kernel_rfl) rfl rfl (fun w => y_not rfl) ?_
      refine dr_pureG (i := 15) (lb 17 65535) rfl rfl (by kernel_rfl) rfl rfl (fun w => y_pickT rfl rfl) ?_
      refine dr_pure (i := 16) (lb 17 131071) rfl rfl (by kernel_rfl) (fun w => y_pickF rfl rfl) ?_
      refine dr_done (by kernel_rfl) ?_
      refine wc_ifT rfl (by rw [hpf]; rfl) ?_
      refine wc_seq ?_
      refine wc_region ?_
      refine wl (y_assign rfl) rfl ?_
      refine wl_nil ?_
      refine wc_ret ?_
      refine wret (vs := [_]) (.tmp rfl .nil) ?_
      exact ⟨_, rfl, hb0, (by unfold lo; exact hS.keep)⟩
end
end Go.Proofs.YtndahppmjdbifaaGreatDoor.Lnk

set_option linter.unusedVariables false
set_option linter.unusedSimpArgs false
namespace Go.Proofs.YtndahppmjdbifaaGreatDoor.Jnl
open Go Go.Proofs Go.Proofs.YtndahppmjdbifaaGreatDoor.Eng Go.Proofs.YtndahppmjdbifaaGreatDoor.Val Go.Proofs.YtndahppmjdbifaaGreatDoor.Rou

/-! ### rounds that are stored -/
structure RV where
  o : Int
  n : Int
  a : Option Addr
  l : Nat
  c : Nat
def RV.s (x : RV) : Value := .slice x.a x.l x.c
def encRV : Enc RV := ⟨3, fun x => [.int .i64 x.o, .int .i64 x.n, .slice x.a x.l x.c], fun _ => rfl, by simp [oneC]⟩
def RvR (M : Mem) (x : RV) (r : Rnd) : Prop := x.o = r.o ∧ x.n = r.n ∧ Rd M encU x.s r.ups ∧ r.ups.length ≤ 137438953472
inductive Rvs (M : Mem) : List RV → List Rnd → Prop
  | nil : Rvs M [] []
  | cons {x : RV} {r : Rnd} {xs : List RV} {rs : List Rnd} : RvR M x r → Rvs M xs rs → Rvs M (x :: xs) (r :: rs)
theorem RvR.mono {M M' : Mem} {x : RV} {r : Rnd} (h : RvR M x r) (hm : Mle M M') : RvR M' x r := ⟨h.1, h.2.1, h.2.2.1.mono hm, h.2.2.2⟩
theorem Rvs.mono {M M' : Mem} {xs : List RV} {rs : List Rnd} (h : Rvs M xs rs) (hm : Mle M M') : Rvs M' xs rs := by
  induction h with
  | nil => exact .nil
  | cons h _ ih => exact .cons (h.mono hm) ih
theorem Rvs.len {M : Mem} {xs : List RV} {rs : List Rnd} (h : Rvs M xs rs) : xs.length = rs.length := by
  induction h with
  | nil => rfl
  | cons _ _ ih => simp [ih]
theorem Rvs.at {M : Mem} {xs : List RV} {rs : List Rnd} (h : Rvs M xs rs) {i : Nat} {r : Rnd} (hr : rs[i]? = some r) : ∃ x, xs[i]? = some x ∧ RvR M x r := by
  induction h generalizing i with
  | nil => simp at hr
  | cons h _ ih =>
    cases i with
    | zero => simp at hr; subst hr; exact ⟨_, rfl, h⟩
    | succ i => simpa using ih (by simpa using hr)
theorem Rvs.append {M : Mem} {xs ys : List RV} {rs ts : List Rnd} (h : Rvs M xs rs) (h' : Rvs M ys ts) : Rvs M (xs ++ ys) (rs ++ ts) := by
  induction h with
  | nil => exact h'
  | cons h _ ih => exact .cons h ih
theorem Rvs.drop {M : Mem} {xs : List RV} {rs : List Rnd} (h : Rvs M xs rs) (k : Nat) : Rvs M (xs.drop k) (rs.drop k) := by
  induction h generalizing k with
  | nil => simpa using Rvs.nil
  | cons h h2 ih =>
    cases k with
    | zero => exact .cons h h2
    | succ k => exact ih k
theorem RvR.val {M : Mem} {x : RV} {r : Rnd} (h : RvR M x r) : Value.agg (encRV.f x).toArray = rvS r x.s := by
  obtain ⟨h1, h2, _⟩ := h
  unfold rvS RV.s encRV
  simp only [h1, h2]

/-! ### layer 13 -/
structure Jnl where
  origin : Int
  last : Nat
  l : List Rnd
def Jnl.new (origin last : Int) : Jnl := ⟨origin, (min (max last 1) 1099511627776).toNat, []⟩
def IsJ (M : Mem) (p : Nat) (m : Jnl) (H : Chunk) : Prop := ∃ xs s Hs, Own 48 encRV s xs Hs ∧ Rvs M xs m.l ∧ H = (p, .cells #[.int .i64 m.origin, .int .i64 m.last, s] 170) :: Hs
theorem IsJ.mono {M M' : Mem} {p : Nat} {m : Jnl} {H : Chunk} (h : IsJ M p m H) (hm : Mle M M') : IsJ M' p m H := by
  obtain ⟨xs, s, Hs, h1, h2, h3⟩ := h
  exact ⟨xs, s, Hs, h1, h2.mono hm, h3⟩
section
variable {M : Mem} {w : World} {Ls : List Chunk}
theorem jnew_c (origin last : Int) (hS : St M w Ls) : CallsR Tryz.prog 78 [.int .i64 origin, .int .i64 last].toArray w fun v w' => ∃ p H, v = .pointer (some ⟨p, 0, none⟩) ∧ IsJ M p (Jnl.new origin last) H ∧ St M w' (H :: Ls) := by
  refine calls_of (c := _) (rs := _) (n := 11) Tryz.func78 rfl rfl rfl rfl rfl ?_
  refine wc_seq ?_
  refine wc_region ?_
  refine wl (y_assign rfl) rfl ?_
  refine wl_nil ?_
  refine wc_seq ?_
  refine wc_region ?_
  refine wl (y_move rfl) rfl ?_
  refine wl (y_move rfl) rfl ?_
  refine wl (y_max rfl rfl) rfl ?_
  refine wl ((y_min rfl rfl).val (u := .int .i64 ((min (max last 1) 1099511627776).toNat : Nat)) (congrArg (Value.int .i64) (by omega))) rfl ?_
  refine wl (y_build (is := [0, 1]) (xs := [_, _]) (out := [_, _, _]) plc_170 z_170 (.cons rfl (.cons rfl .nil)) rfl) rfl ?_
  refine a_box rfl hS rfl fun b10 w hS => ?_
  refine wl (y_assign rfl) rfl ?_
  refine wl_nil ?_
  refine wc_ret ?_
  refine wret (vs := [_]) (.tmp rfl .nil) ?_
  exact ⟨_, _, rfl, ⟨[], .slice none 0 0, [], .nil, .nil, rfl⟩, hS⟩

theorem jat_c {p : Nat} {m : Jnl} {H : Chunk} (i : Nat) (hb : IsJ M p m H) (hS : St M w (H :: Ls)) :
    CallsR Tryz.prog 59 [.pointer (some ⟨p, 0, none⟩), .int .i64 i].toArray w fun v w' => ∃ M' s', Mle M M' ∧ Rd M' encU s' ((m.l[i]?).getD ⟨0, 0, []⟩).ups ∧ v = .tuple [rvS ((m.l[i]?).getD ⟨0, 0, []⟩) s', .bool (decide (i < m.l.length))].toArray ∧ IsJ M' p m H ∧ St M' w' (H :: Ls) := by
  have hb0 := hb
  obtain ⟨xs, s, Hs, ho, hr, rfl⟩ := hb
  have hlen := hr.len
  obtain ⟨sa, sc, rfl⟩ := ho.slice
  refine calls_of (c := _) (rs := _) (n := 26) Tryz.func59 rfl rfl rfl rfl rfl ?_
  refine wc_seq ?_
  refine wc_region ?_
  refine a_alloc z_48 hS rfl fun b4 w hS => ?_
  refine wl (y_assign rfl) rfl ?_
  refine wl_nil ?_
  refine wc_seq ?_
  refine wc_seq ?_
  refine wc_region ?_
  refine wl (y_move rfl) rfl ?_
  refine wl ((y_lss rfl rfl).val (u := .bool false) (congrArg Value.bool (decide_eq_false (by omega)))) rfl ?_
  refine wl (y_move rfl) rfl ?_
  refine wl_on rfl rfl ?_
  refine wl (y_move rfl) rfl ?_
  refine wl_on rfl rfl ?_
  refine wl (y_move rfl) rfl ?_
  refine wl_on rfl rfl ?_
  refine wl (y_nil rfl) rfl ?_
  refine wl_on rfl rfl ?_
  refine wl (y_fld fl_170_2 rfl) rfl ?_
  refine wl_on rfl rfl ?_
  refine wl (y_load pl_32 rfl (hS.cell rfl)) rfl ?_
  refine wl_on rfl rfl ?_
  refine wl (y_len_sl Tryz.underlying32 rfl) rfl ?_
  refine wl_on rfl rfl ?_
  refine wl (y_geq rfl rfl) rfl ?_
  refine wl (y_pickF rfl rfl) rfl ?_
  refine wl_nil ?_
  refine wc_if rfl (fun hc16 => ?_) (fun hc16 => ?_)
  · try simp only [zq1, zq2, zq3, zq4, zq5, zq6, zq7] at hc16
    have hn : m.l[i]? = none := List.getElem?_eq_none (by omega)
    rw [hn, decide_eq_false (by omega)]
    refine wc_seq ?_
    refine wc_region ?_
    refine wl (y_build (is := []) (xs := []) (out := [_, _, _]) plc_48 z_48 .nil rfl) rfl ?_
    refine a_storeS (vs := [_, _, _]) sz_48 rfl rfl rfl rfl hS (Nat.le_of_ble_eq_true rfl) fun w hS => ?_
    refine wl (y_assign rfl) rfl ?_
    refine wl_nil ?_
    refine wc_ret ?_
    refine wret (vs := [_, _]) (.cell rfl (loadVar_struct st_48 sz_48 (vs := [_, _, _]) rfl (hS.cells rfl)) (.tmp rfl .nil)) ?_
    first
    | exact ⟨M, _, Mle.refl _, Rd.nil, rfl, hb0, hS.keep⟩
    | exact ⟨M', _, hM, hs', rfl, hb0.mono hM, hS.keep⟩
  · try simp only [zq1, zq2, zq3, zq4, zq5, zq6, zq7] at hc16
    obtain ⟨r, hri⟩ : ∃ r, m.l[i]? = some r := ⟨_, List.getElem?_eq_getElem (by omega)⟩
    rw [hri, decide_eq_true (by omega)]
    obtain ⟨x, hx, hxr⟩ := hr.at hri
    obtain ⟨bb, off, c', hse, hce⟩ := (ho.holds (hS.pull Hs)).at hx
    simp only [Value.slice.injEq] at hse
    have hSk := hS
    obtain ⟨rfl, _, rfl⟩ := hse
    replace hS := hSk
    refine wc_skip ?_
    refine wc_seq ?_
    refine wc_region ?_
    refine wl (y_move rfl) rfl ?_
    refine wl (y_nil rfl) rfl ?_
    refine wl (y_fld fl_170_2 rfl) rfl ?_
    refine wl (y_load pl_32 rfl (hS.cell rfl)) rfl ?_
    refine wl (y_move rfl) rfl ?_
    refine wl (y_ixa_sl Tryz.underlying32 sz_48 rfl rfl (by omega) (by omega)) rfl ?_
    refine wl ((y_loadS st_48 sz_48 rfl (vs := encRV.f x) hce rfl).val hxr.val) rfl ?_
    refine wl_call (.cons rfl .nil) (rcopy_c r x.s hxr.2.2.2 hxr.2.2.1 hS) rfl ?_
    rintro _ w ⟨M', s', rfl, hM, hs', hS⟩
    obtain ⟨sa', sc', rfl⟩ := (hs'.holds hS).slice
    refine a_storeS (vs := [_, _, _]) sz_48 rfl rfl rfl rfl hS (Nat.le_of_ble_eq_true rfl) fun w hS => ?_
    refine wl (y_assign rfl) rfl ?_
    refine wl_nil ?_
    refine wc_ret ?_
    refine wret (vs := [_, _]) (.cell rfl (loadVar_struct st_48 sz_48 (vs := [_, _, _]) rfl (hS.cells rfl)) (.tmp rfl .nil)) ?_
    first
    | exact ⟨M, _, Mle.refl _, Rd.nil, rfl, hb0, hS.keep⟩
    | exact ⟨M', _, hM, hs', rfl, hb0.mono hM, hS.keep⟩

def behind (number : Int) (l : List Rnd) : List Rnd := l.filter fun r => decide (r.n > number)
theorem jfrom_c {p : Nat} {m : Jnl} {H : Chunk} (number : Int) (hl : m.l.length ≤ 137438953472) (hb : IsJ M p m H) (hS : St M w (H :: Ls)) :
    CallsR Tryz.prog 55 [.pointer (some ⟨p, 0, none⟩), .int .i64 number].toArray w fun v w' => ∃ M' ys H', Mle M M' ∧ Own 48 encRV v ys H' ∧ Rvs M' ys (behind number m.l) ∧ IsJ M' p m H ∧ St M' w' (H' :: H :: Ls) := by
  have hb0 := hb
  obtain ⟨xs, s, Hs, ho, hr, rfl⟩ := hb
  have hlen := hr.len
  obtain ⟨sa, sc, rfl⟩ := ho.slice
  refine calls_of (c := _) (rs := _) (n := 28) Tryz.func55 rfl rfl rfl rfl rfl ?_
  refine wc_seq ?_
  refine wc_region ?_
  refine wl (y_assign rfl) rfl ?_
  refine wl_nil ?_
  refine wc_seq ?_
  refine wc_region ?_
  refine wl (y_assign rfl) rfl ?_
  refine wl_nil ?_
  refine wc_seq ?_
  refine wc_seq ?_
  refine wc_region ?_
  refine wl (y_move rfl) rfl ?_
  refine wl (y_nil rfl) rfl ?_
  refine wl (y_fld fl_170_2 rfl) rfl ?_
  refine wl (y_load pl_32 rfl (hS.cell rfl)) rfl ?_
  refine wl (y_len_sl Tryz.underlying32 rfl) rfl ?_
  refine wl (y_move rfl) rfl ?_
  refine wl_nil ?_
  refine wc_block ?_
  refine wc_loop (α := Nat × Value × Chunk × Mem × List RV) (fun ⟨i, s, H1, M1, ys⟩ => [(1, .int .i64 number), (5, s), (11, .slice sa xs.length sc), (12, .int .i64 xs.length), (13, .int .i64 i)]) (fun ⟨i, s, H1, M1, ys⟩ w => i ≤ xs.length ∧ Mle M M1 ∧ Own 48 encRV s ys H1 ∧ ys.length ≤ i ∧ Rvs M1 ys (behind number (m.l.take i)) ∧ St M1 w (H1 :: ((p, .cells #[.int .i64 m.origin, .int .i64 m.last, .slice sa xs.length sc] 170) :: Hs) :: Ls)) (fun ⟨i, _, _, _, _⟩ => xs.length - i) (0, .slice none 0 0, [], M, []) (sub_cons rfl (sub_cons rfl (sub_cons rfl (sub_cons rfl (sub_cons rfl sub_nil))))) ⟨by omega, Mle.refl _, .nil, by simp, .nil, St.nil hS⟩ ?_
  clear hS
  rintro ⟨i, s, H1, M1, ys⟩ w ⟨hi, hM, hoy, hyl, hry, hS⟩
  refine wc_seq ?_
  refine wc_region ?_
  refine wl (y_lss rfl rfl) rfl ?_
  refine wl_nil ?_
  refine wc_seq ?_
  refine wc_if rfl (fun hc14 => ?_) (fun hc14 => ?_)
  · try simp only [zq1, zq2, zq3, zq4, zq5, zq6, zq7] at hc14
    refine wc_skip ?_
    refine wc_seq ?_
    refine wc_block ?_
    refine wc_seq ?_
    have hi' : i < xs.length := by omega
    obtain ⟨r, hri⟩ : ∃ r, m.l[i]? = some r := ⟨_, List.getElem?_eq_getElem (by omega)⟩
    obtain ⟨x, hx, hxr⟩ := (hr.mono hM).at hri
    obtain ⟨bb, off, c', hse, hce⟩ := (ho.holds (hS.pull Hs)).at hx
    simp only [Value.slice.injEq] at hse
    have hSk := hS
    obtain ⟨rfl, _, rfl⟩ := hse
    replace hS := hSk
    obtain ⟨ya, yc, rfl⟩ := hoy.slice
    have htk : behind number (m.l.take (i + 1)) = behind number (m.l.take i) ++ (if r.n > number then [r] else []) := by
      unfold behind
      rw [List.take_add_one, hri, List.filter_append]
      congr 1
      by_cases hc : r.n > number <;> simp [hc]
    refine wc_region ?_
    refine wl (y_ixa_sl Tryz.underlying32 sz_48 rfl rfl (by omega) (by omega)) rfl ?_
    refine wl ((y_loadS st_48 sz_48 rfl (vs := encRV.f x) hce rfl).val hxr.val) rfl ?_
    refine a_alloc z_48 hS rfl fun b7 w hS => ?_
    refine a_storeS (vs := [_, _, _]) sz_48 rfl rfl rfl rfl hS (Nat.le_of_ble_eq_true rfl) fun w hS => ?_
    refine wl_nil ?_
    refine wc_seq ?_
    refine wc_region ?_
    refine wl (y_fld fl_48_1 rfl) rfl ?_
    refine wl (y_load pl_3 rfl (hS.cell (v := .int .i64 r.n) rfl)) rfl ?_
    refine wl (y_move rfl) rfl ?_
    refine wl (y_gtr rfl rfl) rfl ?_
    refine wl_nil ?_
    refine wc_if rfl (fun hc20 => ?_) (fun hc20 => ?_)
    · try simp only [zq1, zq2, zq3, zq4, zq5, zq6, zq7] at hc20
      rw [if_pos hc20] at htk
      refine wc_region ?_
      refine wl (y_move rfl) rfl ?_
      refine wl (y_loadS st_48 sz_48 rfl (hS.cells (vs := [_, _, _]) rfl) rfl) rfl ?_
      refine wl_call (.cons rfl .nil) (rcopy_c r x.s hxr.2.2.2 hxr.2.2.1 hS) rfl ?_
      rintro _ w ⟨M', s', rfl, hM', hs', hS⟩
      obtain ⟨sa', sc', rfl⟩ := (hs'.holds hS).slice
      refine a_bslice encRV [⟨r.o, r.n, sa', r.ups.length, sc'⟩] Tryz.underlying32 sz_48 z_48 rfl (.cons rfl .nil) rfl rfl rfl (by decide) hS rfl fun u Hu w hou hS => ?_
      refine a_append Tryz.underlying32 Tryz.underlying32 sz_48 z_48 rfl by_48 (by decide) rfl rfl hoy (hou.holds hS) hS (by simp; omega) rfl fun s1 H2 w ho1 hS => ?_
      have hry2 : Rvs M' (ys ++ [⟨r.o, r.n, sa', r.ups.length, sc'⟩]) (behind number (m.l.take i) ++ [r]) := (hry.mono hM').append (.cons ⟨rfl, rfl, hs', hxr.2.2.2⟩ .nil)
      rw [← htk] at hry2
      refine wl (y_assign rfl) rfl ?_
      refine wl_nil ?_
      refine wc_region ?_
      refine wl (y_add rfl rfl (w64 (by omega) (by omega))) rfl ?_
      refine wl (y_move rfl) rfl ?_
      refine wl_nil ?_
      first
      | exact ⟨(i + 1, _, H2, M', _), by simp only; omega, sub_cons rfl (sub_cons rfl (sub_cons rfl (sub_cons rfl (sub_cons rfl sub_nil)))), by omega, hM.trans hM', ho1, by simp; omega, hry2, hS.keep⟩
      | exact ⟨(i + 1, _, H1, M1, ys), by simp only; omega, sub_cons rfl (sub_cons rfl (sub_cons rfl (sub_cons rfl (sub_cons rfl sub_nil)))), by omega, hM, hoy, by omega, by rw [htk]; exact hry, hS.keep⟩
    · try simp only [zq1, zq2, zq3, zq4, zq5, zq6, zq7] at hc20
      rw [if_neg hc20, List.append_nil] at htk
      refine wc_skip ?_
      refine wc_region ?_
      refine wl (y_add rfl rfl (w64 (by omega) (by omega))) rfl ?_
      refine wl (y_move rfl) rfl ?_
      refine wl_nil ?_
      first
      | exact ⟨(i + 1, _, H2, M', _), by simp only; omega, sub_cons rfl (sub_cons rfl (sub_cons rfl (sub_cons rfl (sub_cons rfl sub_nil)))), by omega, hM.trans hM', ho1, by simp; omega, hry2, hS.keep⟩
      | exact ⟨(i + 1, _, H1, M1, ys), by simp only; omega, sub_cons rfl (sub_cons rfl (sub_cons rfl (sub_cons rfl (sub_cons rfl sub_nil)))), by omega, hM, hoy, by omega, by rw [htk]; exact hry, hS.keep⟩
  · try simp only [zq1, zq2, zq3, zq4, zq5, zq6, zq7] at hc14
    obtain rfl : i = xs.length := by omega
    rw [hlen, List.take_length] at hry
    refine wc_exit ?_
    refine wc_seq ?_
    refine wc_region ?_
    refine wl (y_move rfl) rfl ?_
    refine wl (y_assign rfl) rfl ?_
    refine wl_nil ?_
    refine wc_ret ?_
    refine wret (vs := [_]) (.tmp rfl .nil) ?_
    exact ⟨M1, ys, H1, hM, hoy, hry, hb0.mono hM, hS⟩
end
end Go.Proofs.YtndahppmjdbifaaGreatDoor.Jnl

set_option linter.unusedVariables false
set_option linter.unusedSimpArgs false
namespace Go.Proofs.YtndahppmjdbifaaGreatDoor.Eng
open Go

/-! ### maps by strings -/
section
variable {β : Type}
def kvGet (k : ByteArray) : List (ByteArray × β) → Option β
  | [] => none
  | (a, x) :: l => if k = a then some x else kvGet k l
def kvSet (k : ByteArray) (x : β) : List (ByteArray × β) → List (ByteArray × β)
  | [] => [(k, x)]
  | (a, y) :: l => if k = a then (k, x) :: l else (a, y) :: kvSet k x l
def kvDel (k : ByteArray) : List (ByteArray × β) → List (ByteArray × β)
  | [] => []
  | (a, y) :: l => if k = a then l else (a, y) :: kvDel k l
inductive MapRep (f : β → Value) : List MapEntry → List (ByteArray × β) → Prop
  | nil : MapRep f [] []
  | cons {e : MapEntry} {k : ByteArray} {x : β} {es : List MapEntry} {kv : List (ByteArray × β)} : e.key = .string k → e.val = f x → MapRep f es kv → MapRep f (e :: es) ((k, x) :: kv)
theorem MapRep.len {f : β → Value} {es : List MapEntry} {kv : List (ByteArray × β)} (h : MapRep f es kv) : es.length = kv.length := by
  induction h with
  | nil => rfl
  | cons _ _ _ ih => simp [ih]
theorem bab_refl (k : ByteArray) : (k == k) = true := by
  show (k.data == k.data) = true
  simp
theorem bab_ne {k a : ByteArray} (h : ¬ k = a) : (k == a) = false := by
  show (k.data == a.data) = false
  rw [beq_eq_false_iff_ne]
  intro e
  exact h (by cases k; cases a; simp at e; subst e; rfl)
theorem sameNow_str {k a : ByteArray} : Instr.sameNow .string (.string k) (.string a) = some (decide (k = a)) := by
  simp only [Instr.sameNow]
  by_cases h : k = a
  · subst h; rw [bab_refl]; simp
  · rw [bab_ne h, decide_eq_false h]
theorem MapRep.miss {f : β → Value} {es : List MapEntry} {kv : List (ByteArray × β)} (h : MapRep f es kv) {k : ByteArray} (hk : kvGet k kv = none) (i : Nat) :
    Instr.findNow .string (.string k) es i = some none ∧ (∀ y, kvSet k y kv = kv ++ [(k, y)]) ∧ kvDel k kv = kv := by
  induction h generalizing i with
  | nil => exact ⟨rfl, fun _ => rfl, rfl⟩
  | @cons e a x es kv hke hv _ ih =>
    simp only [kvGet] at hk
    by_cases hc : k = a
    · rw [if_pos hc] at hk; cases hk
    · rw [if_neg hc] at hk
      obtain ⟨h1, h2, h3⟩ := ih hk (i + 1)
      refine ⟨?_, fun y => ?_, ?_⟩
      · unfold Instr.findNow
        rw [hke, sameNow_str, decide_eq_false hc]
        exact h1
      · simp only [kvSet, if_neg hc, h2 y, List.cons_append]
      · simp only [kvDel, if_neg hc, h3]
theorem MapRep.hit {f : β → Value} {es : List MapEntry} {kv : List (ByteArray × β)} (h : MapRep f es kv) {k : ByteArray} {x : β} (hk : kvGet k kv = some x) (i : Nat) :
    ∃ j e, Instr.findNow .string (.string k) es i = some (some (i + j, f x)) ∧ es[j]? = some e ∧ e.key = .string k ∧ (∀ y, MapRep f (es.modify j fun e => { e with key := .string k, val := f y }) (kvSet k y kv)) ∧ MapRep f (es.eraseIdx j) (kvDel k kv) := by
  induction h generalizing i with
  | nil => cases hk
  | @cons e a x' es kv hke hv ht ih =>
    simp only [kvGet] at hk
    by_cases hc : k = a
    · rw [if_pos hc] at hk
      cases hk
      subst hc
      refine ⟨0, e, ?_, rfl, hke, fun y => ?_, ?_⟩
      · unfold Instr.findNow
        rw [hke, sameNow_str, decide_eq_true rfl, hv]
        rfl
      · simp only [kvSet, if_true]
        exact .cons rfl rfl ht
      · simp only [kvDel, if_true]
        exact ht
    · rw [if_neg hc] at hk
      obtain ⟨j, e', h1, h2, h3, h4, h5⟩ := ih hk (i + 1)
      refine ⟨j + 1, e', ?_, h2, h3, fun y => ?_, ?_⟩
      · unfold Instr.findNow
        rw [hke, sameNow_str, decide_eq_false hc]
        simpa only [Nat.add_assoc, Nat.add_comm 1 j] using h1
      · simp only [kvSet, if_neg hc]
        exact .cons hke hv (h4 y)
      · simp only [kvDel, if_neg hc]
        exact .cons hke hv h5
theorem MapRep.push {f : β → Value} {es : List MapEntry} {kv : List (ByteArray × β)} (h : MapRep f es kv) (k : ByteArray) (y : β) (c : Nat) : MapRep f (es ++ [⟨.string k, f y, c⟩]) (kv ++ [(k, y)]) := by
  induction h with
  | nil => exact .cons rfl rfl .nil
  | cons h1 h2 _ ih => exact .cons h1 h2 ih
/-- a map of ours -/
def IsMap (f : β → Value) (p : Nat) (kv : List (ByteArray × β)) (H : Chunk) : Prop := ∃ es clock, MapRep f es kv ∧ H = [(p, .map es.toArray clock)]
end

section
variable {β : Type} {f : β → Value} {P : Program} {n : Nat} {E : Env} {w w' : World} {T : TypeId} {v : Value} {M : Mem} {Ls Ls' : List Chunk} {pos : String} {af : Array Edge} {d : Nat} {l : List Oper} {ops : Array Oper} {KE : Env → World → Prop}

theorem a_mkmap {U : TypeId} (f : β → Value) (hS : St M w Ls) (hd : Nat.blt d n = true)
    (h : ∀ p H w', IsMap f p [] H → St M w' (H :: Ls) → WL P n ops KE l ((d, .map (some p)) :: E) w') : WL P n ops KE (⟨some d, .makeMap U none, T, pos, af, none⟩ :: l) E w := by
  refine wl (v := .map (some w.heap.size)) (w' := World.with w (.map #[] 0)) ?_ hd (h _ _ _ ⟨[], 0, .nil, rfl⟩ (hS.new _))
  intro a ha d pos af g
  simp [execOp, Instr.makeMap, newObj, Bind.bind, Sem.bind, Pure.pure, Sem.run, World.with]

theorem findKey_run {K : TypeId} {k : ByteArray} {es : List MapEntry} {r : Option (Nat × Value)} (hK : P.underlying K = some .string) (h : Instr.findNow .string (.string k) es 0 = some r) : (Instr.findKey K (.string k) es).run P w = .ok r w := by
  simp [Instr.findKey, underlying, program, Bind.bind, Sem.bind, Pure.pure, Sem.run, hK, h]
theorem checkKey_run {K : TypeId} {k : ByteArray} {b : Bool} (hK : P.underlying K = some .string) : (Instr.checkKey b 10000 K (.string k)).run P w = .ok () w := by
  rw [show (10000 : Nat) = 9999 + 1 from rfl]
  unfold Instr.checkKey
  simp only [underlying, program, Bind.bind, Sem.bind, Sem.run, hK]
  rfl
theorem y_mget {x y : Operand} {U K V : TypeId} {p : Nat} {k : ByteArray} {kv : List (ByteArray × β)} {H : Chunk} {z : Value} (hU : P.underlying U = some (.map K V)) (hK : P.underlying K = some .string) (hz : Zero P V z) (hx : ev E x = some (.map (some p))) (hy : ev E y = some (.string k))
    (hb : IsMap f p kv H) (hS : St M w Ls) [Pull Ls H Ls'] : Y P E (.lookup U x y false) T w (((kvGet k kv).map f).getD z) w := by
  obtain ⟨es, clock, hr, rfl⟩ := hb
  have hh : w.heap[p]? = some (.map es.toArray clock) := (hS.pull [(p, .map es.toArray clock)]).has
  obtain ⟨zi, hz1, hz2⟩ := hz
  intro a ha d pos af g
  simp only [execOp, ev_sound ha hx, ev_sound ha hy]
  refine (Sem.run_bind_ok' (a := ((kvGet k kv).map f).getD z) (w' := w) ?_).trans rfl
  simp only [Instr.lookup, underlying, program, getObj, Bind.bind, Sem.bind, Pure.pure, Sem.run, hU, hh]
  refine (Sem.run_bind_ok' (checkKey_run hK)).trans ?_
  cases hg : kvGet k kv with
  | none =>
    refine (Sem.run_bind_ok' (findKey_run hK (hr.miss hg 0).1)).trans ?_
    simp [zeroValue, typeInfo, program, Bind.bind, Sem.bind, Pure.pure, Sem.run, hz1, hz2]
  | some x =>
    obtain ⟨j, e, h1, _⟩ := hr.hit hg 0
    refine (Sem.run_bind_ok' (findKey_run hK h1)).trans ?_
    simp [Bind.bind, Sem.bind, Pure.pure, Sem.run]
theorem y_mgetH {x y : Operand} {U K V : TypeId} {p : Nat} {k : ByteArray} {kv : List (ByteArray × β)} {es : List MapEntry} {clock : Nat} {z : Value} (hU : P.underlying U = some (.map K V)) (hK : P.underlying K = some .string) (hz : Zero P V z) (hx : ev E x = some (.map (some p))) (hy : ev E y = some (.string k))
    (hr : MapRep f es kv) (hh : w.heap[p]? = some (.map es.toArray clock)) : Y P E (.lookup U x y false) T w (((kvGet k kv).map f).getD z) w := by
  obtain ⟨zi, hz1, hz2⟩ := hz
  intro a ha d pos af g
  simp only [execOp, ev_sound ha hx, ev_sound ha hy]
  refine (Sem.run_bind_ok' (a := ((kvGet k kv).map f).getD z) (w' := w) ?_).trans rfl
  simp only [Instr.lookup, underlying, program, getObj, Bind.bind, Sem.bind, Pure.pure, Sem.run, hU, hh]
  refine (Sem.run_bind_ok' (checkKey_run hK)).trans ?_
  cases hg : kvGet k kv with
  | none =>
    refine (Sem.run_bind_ok' (findKey_run hK (hr.miss hg 0).1)).trans ?_
    simp [zeroValue, typeInfo, program, Bind.bind, Sem.bind, Pure.pure, Sem.run, hz1, hz2]
  | some x =>
    obtain ⟨j, e, h1, _⟩ := hr.hit hg 0
    refine (Sem.run_bind_ok' (findKey_run hK h1)).trans ?_
    simp [Bind.bind, Sem.bind, Pure.pure, Sem.run]
theorem y_mlen {x : Operand} {U K V : TypeId} {p : Nat} {kv : List (ByteArray × β)} {H : Chunk} (hU : P.underlying U = some (.map K V)) (hx : ev E x = some (.map (some p)))
    (hb : IsMap f p kv H) (hS : St M w Ls) [Pull Ls H Ls'] : Y P E (.call ⟨.builtin .len, #[x], #[U]⟩) T w (.int .i64 kv.length) w := by
  obtain ⟨es, clock, hr, rfl⟩ := hb
  have hh : w.heap[p]? = some (.map es.toArray clock) := (hS.pull [(p, .map es.toArray clock)]).has
  intro c ha d pos af g
  simp [execOp, Bind.bind, Sem.bind, Pure.pure, Sem.run, resolve, invoke, builtin, Builtin.len_, underlying, program, goInt, getObj, ev_sound ha hx, hU, hh, hr.len]
theorem setMap_run {p : Nat} {es es' : Array MapEntry} {c c' : Nat} {X : List Chunk} (hS : St M w ([(p, .map es c)] :: X)) :
    ∃ w', (setObj p (.map es' c')).run P w = .ok () w' ∧ St M w' ([(p, .map es' c')] :: X) := by
  have hh : w.heap[p]? = some (.map es c) := hS.has
  refine ⟨{ w with heap := w.heap.setIfInBounds p (.map es' c') }, ?_, ?_⟩
  · simp [setObj, Sem.run, hh]
  · refine St.upd (b := p) (o := .map es' c') (Ls := [(p, .map es c)] :: X) hS _ ?_ ⟨fun c hc => ?_, rfl, rfl, rfl⟩
    · obtain ⟨hlt, _⟩ := Array.getElem?_eq_some_iff.1 hh
      simp [hlt]
    · simp only []
      rw [Array.getElem?_setIfInBounds_ne (by omega)]
theorem x_mset {x y u : Operand} {U K V : TypeId} {p : Nat} {k : ByteArray} {kv : List (ByteArray × β)} {H : Chunk} {val : β} {ins : Bool} (hU : P.underlying U = some (.map K V)) (hK : P.underlying K = some .string) (hx : ev E x = some (.map (some p))) (hy : ev E y = some (.string k)) (hu : ev E u = some (f val))
    (hb : IsMap f p kv H) {X : List Chunk} (hS : St M w (H :: X)) :
    ∃ H' w', YS P E (if ins then .insert U x y u else .mapUpdate U x y u) T w w' ∧ IsMap f p (kvSet k val kv) H' ∧ St M w' (H' :: X) := by
  obtain ⟨es, clock, hr, rfl⟩ := hb
  have hh : w.heap[p]? = some (.map es.toArray clock) := hS.has
  cases hg : kvGet k kv with
  | none =>
    obtain ⟨h1, h2, _⟩ := hr.miss hg 0
    obtain ⟨w', e1, e2⟩ := setMap_run (P := P) (es' := (es ++ [(⟨.string k, f val, clock⟩ : MapEntry)]).toArray) (c' := clock + 1) hS
    refine ⟨_, w', ?_, ⟨_, _, by rw [h2 val]; exact hr.push k val clock, rfl⟩, e2⟩
    · intro a ha d pos af g
      have key : (Instr.mapUpdate U (.map (some p)) (.string k) (f val)).run P w = .ok () w' := by
        simp only [Instr.mapUpdate, underlying, program, getObj, Bind.bind, Sem.bind, Pure.pure, Sem.run, hU, hh]
        refine (Sem.run_bind_ok' (checkKey_run hK)).trans ?_
        refine (Sem.run_bind_ok' (findKey_run hK h1)).trans ?_
        simpa using e1
      cases ins <;> simp only [Bool.false_eq_true, if_false, if_true, execOp, ev_sound ha hx, ev_sound ha hy, ev_sound ha hu] <;> exact (Sem.run_bind_ok' key).trans rfl
    
  | some x0 =>
    obtain ⟨j, e, h1, h2, h3, h4, _⟩ := hr.hit hg 0
    obtain ⟨w', e1, e2⟩ := setMap_run (P := P) (es' := (es.modify j fun e => { e with key := .string k, val := f val }).toArray) (c' := clock) hS
    refine ⟨_, w', ?_, ⟨_, _, h4 val, rfl⟩, e2⟩
    intro a ha d pos af g
    have hkey : (((es.toArray[0 + j]?).map (·.key)).getD (.string k)) = .string k := by simp [h2, h3]
    have hsb : Instr.sameBits 10000 (.string k) (.string k) = true := by
      rw [show (10000 : Nat) = 9999 + 1 from rfl]
      simp only [Instr.sameBits, bab_refl]
    have key : (Instr.mapUpdate U (.map (some p)) (.string k) (f val)).run P w = .ok () w' := by
      simp only [Instr.mapUpdate, underlying, program, getObj, Bind.bind, Sem.bind, Pure.pure, Sem.run, hU, hh]
      refine (Sem.run_bind_ok' (checkKey_run hK)).trans ?_
      refine (Sem.run_bind_ok' (findKey_run hK h1)).trans ?_
      simp only [Nat.zero_add] at hkey
      simp only [Nat.zero_add, hkey, Instr.keyThatStays, hsb, if_true, Pure.pure, Sem.bind]
      simpa using e1
    cases ins <;> simp only [Bool.false_eq_true, if_false, if_true, execOp, ev_sound ha hx, ev_sound ha hy, ev_sound ha hu] <;> exact (Sem.run_bind_ok' key).trans rfl
theorem a_mset {x y u : Operand} {U K V : TypeId} {p : Nat} {k : ByteArray} {kv : List (ByteArray × β)} {H : Chunk} {val : β} (hU : P.underlying U = some (.map K V)) (hK : P.underlying K = some .string) (hx : ev E x = some (.map (some p))) (hy : ev E y = some (.string k)) (hu : ev E u = some (f val))
    (hb : IsMap f p kv H) (hS : St M w Ls) [Pull Ls H Ls'] (h : ∀ H' w', IsMap f p (kvSet k val kv) H' → St M w' (H' :: Ls') → WL P n ops KE l E w') : WL P n ops KE (⟨none, .mapUpdate U x y u, T, pos, af, none⟩ :: l) E w := by
  obtain ⟨H', w', e1, e2, e3⟩ := x_mset (T := T) (ins := false) hU hK hx hy hu hb (hS.pull H)
  exact wls e1 (h H' w' e2 e3)
theorem x_mdel {x y : Operand} {U K V S : TypeId} {p : Nat} {k : ByteArray} {kv : List (ByteArray × β)} {H : Chunk} (hU : P.underlying U = some (.map K V)) (hK : P.underlying K = some .string) (hx : ev E x = some (.map (some p))) (hy : ev E y = some (.string k))
    (hb : IsMap f p kv H) {X : List Chunk} (hS : St M w (H :: X)) :
    ∃ H' w', Y P E (.call ⟨.builtin .delete, #[x, y], #[U, S]⟩) T w (.tuple #[]) w' ∧ IsMap f p (kvDel k kv) H' ∧ St M w' (H' :: X) := by
  obtain ⟨es, clock, hr, rfl⟩ := hb
  have hh : w.heap[p]? = some (.map es.toArray clock) := hS.has
  have fin : ∀ {es' : Array MapEntry} {r : Option (Nat × Value)} {w' : World}, Instr.findNow .string (.string k) es 0 = some r → (setObj p (.map es' clock)).run P w = .ok () w' → (match r with | some (i, _) => es.toArray.eraseIdxIfInBounds i | none => es.toArray) = es' → Y P E (.call ⟨.builtin .delete, #[x, y], #[U, S]⟩) T w (.tuple #[]) w' := by
    intro es' r w' h1 h2 h3 a ha d pos af g
    have key : (Builtin.delete_ #[U, S] T #[.map (some p), .string k]).run P w = .ok (.tuple #[]) w' := by
      simp only [Builtin.delete_, underlying, program, getObj, Bind.bind, Sem.bind, Pure.pure, Sem.run, List.getElem?_toArray, List.getElem?_cons_zero, List.getElem?_cons_succ, hU, hh]
      refine (Sem.run_bind_ok' (checkKey_run hK)).trans ?_
      refine (Sem.run_bind_ok' (findKey_run hK h1)).trans ?_
      subst h3
      cases r with
      | none => exact (Sem.run_bind_ok' h2).trans rfl
      | some q => exact (Sem.run_bind_ok' h2).trans rfl
    simp only [execOp, resolve, invoke, builtin, Bind.bind, Pure.pure, Sem.bind, List.map_toArray, List.map_cons, List.map_nil, ev_sound ha hx, ev_sound ha hy]
    exact (Sem.run_bind_ok' key).trans rfl
  cases hg : kvGet k kv with
  | none =>
    obtain ⟨h1, _, h3⟩ := hr.miss hg 0
    obtain ⟨w', e1, e2⟩ := setMap_run (P := P) (es' := es.toArray) (c' := clock) hS
    exact ⟨_, w', fin h1 e1 rfl, ⟨_, _, by rw [h3]; exact hr, rfl⟩, e2⟩
  | some x0 =>
    obtain ⟨j, e, h1, h2, h3, _, h5⟩ := hr.hit hg 0
    obtain ⟨w', e1, e2⟩ := setMap_run (P := P) (es' := (es.eraseIdx j).toArray) (c' := clock) hS
    refine ⟨_, w', fin h1 e1 ?_, ⟨_, _, h5, rfl⟩, e2⟩
    obtain ⟨hlt, _⟩ := List.getElem?_eq_some_iff.1 h2
    simp [Array.eraseIdxIfInBounds, hlt]
theorem a_mdel {x y : Operand} {U K V S : TypeId} {p : Nat} {k : ByteArray} {kv : List (ByteArray × β)} {H : Chunk} (hU : P.underlying U = some (.map K V)) (hK : P.underlying K = some .string) (hx : ev E x = some (.map (some p))) (hy : ev E y = some (.string k))
    (hb : IsMap f p kv H) (hS : St M w Ls) [Pull Ls H Ls'] (h : ∀ H' w', IsMap f p (kvDel k kv) H' → St M w' (H' :: Ls') → WL P n ops KE l E w') : WL P n ops KE (⟨none, .call ⟨.builtin .delete, #[x, y], #[U, S]⟩, T, pos, af, none⟩ :: l) E w := by
  obtain ⟨H', w', e1, e2, e3⟩ := x_mdel (T := T) (S := S) hU hK hx hy hb (hS.pull H)
  exact wln e1 (h H' w' e2 e3)
end

/-! ### two operations that may come up now -/
section
variable {P : Program} {n : Nat} {ops : Array Oper} {S : World → Prop} {ds : List Nat} {KE : Env → World → Prop} {E : Env} {w w' : World} {l l' : Array Bool} {fuel : Nat}
theorem dr_one {i : Nat} {o : Oper} (hi : ops[i]? = some o) {a : Act} (hn : Ok n a) (ha : has a E)
    (h : WL P n ops (fun E' w' => (i ∉ ds → S w → S w') ∧ DR P n ops S ds KE fuel (l.setIfInBounds i true) E' w') [o] E w) :
    wpOp P ops (PostN n KE) i (fun a' w' => (i ∉ ds → S w → S w') ∧ wpD P ops (PostN n KE) S ds fuel (l.setIfInBounds i true) a' w') a w := by
  have h2 := h a hn ha
  simp only [wpList] at h2
  unfold wpOp
  simp only [hi]
  have post : ∀ a' w', PostN n (fun E' w' => (i ∉ ds → S w → S w') ∧ DR P n ops S ds KE fuel (l.setIfInBounds i true) E' w') .normal a' w' → ((i ∉ ds → S w → S w') ∧ wpD P ops (PostN n KE) S ds fuel (l.setIfInBounds i true) a' w') := by
    intro a' w' hq
    obtain ⟨g1, E', g2, g3, g4⟩ := hq
    exact ⟨g3, g4 a' g1 g2⟩
  split at h2
  · rename_i hw
    rw [if_pos hw]
    rcases h2 with h2 | ⟨_, _, _, h2⟩
    · left
      refine Oper.wp_mono post ?_
      unfold Oper.wp at h2 ⊢
      generalize (execOp a.eval o).run P w = r at h2 ⊢
      cases r with
      | ok nx w' =>
        cases nx <;> simp only [Oper.upon] at h2 ⊢ <;> exact h2
      | halt x w' => cases x <;> simp only [Oper.upon] at h2 ⊢ <;> exact h2
    · exact h2.elim
  · rename_i hw
    rw [if_neg hw]
    exact post _ _ h2
theorem dr_do2 {i j : Nat} {o u : Oper} (l1 l2 : Array Bool) (hi : ops[i]? = some o) (hj : ops[j]? = some u) (hc : (Region.ready .any ops l == [i, j] && l.setIfInBounds i true == l1 && l.setIfInBounds j true == l2) = true)
    (h1 : WL P n ops (fun E' w' => (i ∉ ds → S w → S w') ∧ DR P n ops S ds KE fuel l1 E' w') [o] E w)
    (h2 : WL P n ops (fun E' w' => (j ∉ ds → S w → S w') ∧ DR P n ops S ds KE fuel l2 E' w') [u] E w) : DR P n ops S ds KE (fuel + 1) l E w := by
  intro a hn ha
  simp only [Bool.and_eq_true, beq_iff_eq] at hc
  obtain ⟨⟨hr, rfl⟩, rfl⟩ := hc
  refine ⟨fun h0 => (by rw [hr] at h0; cases h0), fun k hk => ?_⟩
  rw [hr] at hk
  simp only [List.mem_cons, List.not_mem_nil, or_false] at hk
  rcases hk with rfl | rfl
  · exact dr_one hi hn ha h1
  · exact dr_one hj hn ha h2
theorem DR.sub {E' : Env} (hs : Sub E' E) (h : DR P n ops S ds KE fuel l E' w) : DR P n ops S ds KE fuel l E w := fun a hn ha => h a hn (has_sub hs ha)
theorem dr_cases {s : Nat} {t : Bool} (hb : Env.get E s = some (.bool t)) (hT : t = true → DR P n ops S ds KE fuel l ((s, .bool true) :: E) w) (hF : t = false → DR P n ops S ds KE fuel l ((s, .bool false) :: E) w) : DR P n ops S ds KE fuel l E w := by
  cases t
  · exact DR.sub (sub_cons hb fun _ _ h => h) (hF rfl)
  · exact DR.sub (sub_cons hb fun _ _ h => h) (hT rfl)
end
end Go.Proofs.YtndahppmjdbifaaGreatDoor.Eng

set_option linter.unusedVariables false
set_option linter.unusedSimpArgs false
namespace Go.Proofs.YtndahppmjdbifaaGreatDoor.Jnl
open Go Go.Proofs Go.Proofs.YtndahppmjdbifaaGreatDoor.Eng Go.Proofs.YtndahppmjdbifaaGreatDoor.Val Go.Proofs.YtndahppmjdbifaaGreatDoor.Rou

def Jnl.next (m : Jnl) (ups : List Upd) : Rnd := ⟨m.origin, m.l.length + 1, ups⟩
@[irreducible] def Jnl.addE (m : Jnl) (ups : List Upd) : Nat := if m.l.length = m.last then 8 else mayR (m.next ups)
def Jnl.add (m : Jnl) (ups : List Upd) : Jnl := if m.addE ups = 0 then ⟨m.origin, m.last, m.l ++ [m.next ups]⟩ else m
section
variable {M : Mem} {w : World} {Ls : List Chunk}
theorem jadd_c {p : Nat} {m : Jnl} {H : Chunk} (ups : List Upd) (s0 : Value) (hu : Rd M encU s0 ups) (hul : ups.length ≤ 137438953472) (hl : m.l.length ≤ 137438953472) (hb : IsJ M p m H) (hS : St M w (H :: Ls)) :
    CallsR Tryz.prog 148 [.pointer (some ⟨p, 0, none⟩), s0].toArray w fun v w' => ∃ M' s' H', Mle M M' ∧ Rd M' encU s' (if m.addE ups = 0 then ups else []) ∧ v = .tuple [rvS (if m.addE ups = 0 then m.next ups else ⟨0, 0, []⟩) s', .int .i64 (m.addE ups)].toArray ∧ IsJ M' p (m.add ups) H' ∧ St M' w' (H' :: Ls) := by
  have hb0 := hb
  have hu0 := hu
  obtain ⟨xs, s, Hs, ho, hr, rfl⟩ := hb
  have hlen := hr.len
  obtain ⟨sa, sc, rfl⟩ := ho.slice
  obtain ⟨ua, uc, rfl⟩ := (hu.holds hS).slice
  refine calls_of (c := _) (rs := _) (n := 50) Tryz.func148 rfl rfl rfl rfl rfl ?_
  refine wc_seq ?_
  refine wc_region ?_
  refine a_alloc z_48 hS rfl fun b4 w hS => ?_
  refine wl (y_assign rfl) rfl ?_
  refine wl_nil ?_
  refine wc_seq ?_
  refine wc_seq ?_
  refine wc_draw (l0 := (lb 10 0)) (fun w => w.cell? ⟨p, 2, none⟩ = some (.slice sa xs.length sc) ∧ w.cell? ⟨p, 1, none⟩ = some (.int .i64 m.last)) [] wide_ rfl rfl fun w hw => ?_
  replace hS := hS.same hw; clear hw
  refine dr_pure (i := 0) (lb 10 1) rfl rfl (by kernel_rfl) (fun w => y_move rfl) ?_
  refine dr_pure (i := 1) (lb 10 3) rfl rfl (by kernel_rfl) (fun w => y_nil rfl) ?_
  refine dr_pure (i := 2) (lb 10 7) rfl rfl (by kernel_rfl) (fun w => y_fld fl_170_2 rfl) ?_
  refine dr_pure (i := 5) (lb 10 39) rfl rfl (by kernel_rfl) (fun w => y_move rfl) ?_
  refine dr_pure (i := 6) (lb 10 103) rfl rfl (by kernel_rfl) (fun w => y_nil rfl) ?_
  refine dr_pure (i := 7) (lb 10 231) rfl rfl (by kernel_rfl) (fun w => y_fld fl_170_1 rfl) ?_
  refine dr_read (i := 3) (lb 10 239) rfl rfl (by kernel_rfl) ⟨hS.cell rfl, hS.cell rfl⟩ (fun w hS => y_load pl_32 rfl hS.1) ?_
  refine dr_pure (i := 4) (lb 10 255) rfl rfl (by kernel_rfl) (fun w => y_len_sl Tryz.underlying32 rfl) ?_
  refine dr_read (i := 8) (lb 10 511) rfl rfl (by kernel_rfl) ⟨hS.cell rfl, hS.cell rfl⟩ (fun w hS => y_load pl_3 rfl hS.2) ?_
  refine dr_pure (i := 9) (lb 10 1023) rfl rfl (by kernel_rfl) (fun w => y_eql rfl rfl) ?_
  refine dr_done (by kernel_rfl) ?_
  refine wc_if rfl (fun hc17 => ?_) (fun hc17 => ?_)
  · try simp only [zq1, zq2, zq3, zq4, zq5, zq6, zq7] at hc17
    have he : m.addE ups = 8 := by unfold Jnl.addE; rw [if_pos (by omega)]
    have hq : m.add ups = m := by unfold Jnl.add; rw [if_neg (by omega)]
    rw [hq, he, if_neg (by decide), if_neg (by decide)]
    refine wc_seq ?_
    refine wc_region ?_
    refine wl (y_build (is := []) (xs := []) (out := [_, _, _]) plc_48 z_48 .nil rfl) rfl ?_
    refine a_storeS (vs := [_, _, _]) sz_48 rfl rfl rfl rfl hS (Nat.le_of_ble_eq_true rfl) fun w hS => ?_
    refine wl (y_assign rfl) rfl ?_
    refine wl_nil ?_
    refine wc_ret ?_
    refine wret (vs := [_, _]) (.cell rfl (loadVar_struct st_48 sz_48 (vs := [_, _, _]) rfl (hS.cells rfl)) (.tmp rfl .nil)) ?_
    first
    | exact ⟨M, _, _, Mle.refl _, Rd.nil, rfl, hb0, hS.keep⟩
    | (simp only [List.setIfInBounds_toArray, List.set_cons_zero, List.set_cons_succ, Nat.zero_add, Nat.add_zero, cells_agg, setCells] at hS
       exact ⟨M2, _, _, hM1.trans hM2, hs3, rfl, ⟨_, _, _, ho2, ((hr.mono hM1).append (.cons (x := ⟨m.origin, (m.next ups).n, sa1, ups.length, sc1⟩) (r := m.next ups) ⟨rfl, rfl, hs1, hul⟩ .nil)).mono hM2, rfl⟩, hS.keep⟩)
  · try simp only [zq1, zq2, zq3, zq4, zq5, zq6, zq7] at hc17
    have he : m.addE ups = mayR (m.next ups) := by unfold Jnl.addE; rw [if_neg (by omega)]
    refine wc_skip ?_
    refine wc_seq ?_
    refine wc_draw (l0 := (lb 14 0)) (fun w => w.cell? ⟨p, 0, none⟩ = some (.int .i64 m.origin) ∧ w.cell? ⟨p, 2, none⟩ = some (.slice sa xs.length sc)) [13] wide_ rfl rfl fun w hw => ?_
    replace hS := hS.same hw; clear hw
    refine dr_pure (i := 0) (lb 14 1) rfl rfl (by kernel_rfl) (fun w => y_move rfl) ?_
    refine dr_pure (i := 1) (lb 14 3) rfl rfl (by kernel_rfl) (fun w => y_nil rfl) ?_
    refine dr_pure (i := 2) (lb 14 7) rfl rfl (by kernel_rfl) (fun w => y_fld fl_170_0 rfl) ?_
    refine dr_pure (i := 4) (lb 14 23) rfl rfl (by kernel_rfl) (fun w => y_move rfl) ?_
    refine dr_pure (i := 5) (lb 14 55) rfl rfl (by kernel_rfl) (fun w => y_nil rfl) ?_
    refine dr_pure (i := 6) (lb 14 119) rfl rfl (by kernel_rfl) (fun w => y_fld fl_170_2 rfl) ?_
    refine dr_pure (i := 10) (lb 14 1143) rfl rfl (by kernel_rfl) (fun w => y_move rfl) ?_
    refine dr_read (i := 3) (lb 14 1151) rfl rfl (by kernel_rfl) ⟨hS.cell rfl, hS.cell rfl⟩ (fun w hS => y_load pl_3 rfl hS.1) ?_
    refine dr_read (i := 7) (lb 14 1279) rfl rfl (by kernel_rfl) ⟨hS.cell rfl, hS.cell rfl⟩ (fun w hS => y_load pl_32 rfl hS.2) ?_
    refine dr_pure (i := 8) (lb 14 1535) rfl rfl (by kernel_rfl) (fun w => y_len_sl Tryz.underlying32 rfl) ?_
    refine dr_pure (i := 9) (lb 14 2047) rfl rfl (by kernel_rfl) (fun w => (y_add rfl rfl (w64 (by omega) (by omega))).val (congrArg (Value.int .i64) (show (xs.length : Int) + 1 = (m.next ups).n by rw [hlen]; rfl))) ?_
    refine dr_pure (i := 11) (lb 14 4095) rfl rfl (by kernel_rfl) (fun w => y_build (is := [0, 1, 2]) (xs := [_, _, _]) (out := [_, _, _]) plc_48 z_48 (.cons rfl (.cons rfl (.cons rfl .nil))) rfl) ?_
    refine dr_do (i := 12) (lb 14 8191) rfl (by kernel_rfl) ?_
    refine a_alloc z_48 hS rfl fun b6 w hS => ?_
    refine wl_nil ⟨fun _ _ => ⟨hS.cell rfl, hS.cell rfl⟩, ?_⟩
    refine dr_do (i := 13) (lb 14 16383) rfl (by kernel_rfl) ?_
    refine a_storeS (vs := [_, _, _]) sz_48 rfl rfl rfl rfl hS (Nat.le_of_ble_eq_true rfl) fun w hS => ?_
    refine wl_nil ⟨fun h => absurd (by decide) h, ?_⟩
    refine dr_done (by kernel_rfl) ?_
    refine wc_seq ?_
    refine wc_seq ?_
    refine wc_region ?_
    refine wl (y_loadS st_48 sz_48 rfl (hS.cells (vs := [_, _, _]) rfl) rfl) rfl ?_
    refine wl_call (.cons rfl .nil) (rmay_c (m.next ups) _ hu0 hS) rfl ?_
    rintro _ w ⟨rfl, hS⟩
    refine wl (y_assign rfl) rfl ?_
    refine wl_nil ?_
    refine wc_seq ?_
    refine wc_region ?_
    refine wl (y_move rfl) rfl ?_
    refine wl (y_neq rfl rfl) rfl ?_
    refine wl_nil ?_
    refine wc_if rfl (fun hc34 => ?_) (fun hc34 => ?_)
    · try simp only [zq1, zq2, zq3, zq4, zq5, zq6, zq7] at hc34
      rw [he, if_neg (by omega), if_neg (by omega)]
      have hq : m.add ups = m := by unfold Jnl.add; rw [if_neg (by omega)]
      rw [hq]
      refine wc_seq ?_
      refine wc_region ?_
      refine wl (y_build (is := []) (xs := []) (out := [_, _, _]) plc_48 z_48 .nil rfl) rfl ?_
      refine wl (y_move rfl) rfl ?_
      refine a_storeS (vs := [_, _, _]) sz_48 rfl rfl rfl rfl hS (Nat.le_of_ble_eq_true rfl) fun w hS => ?_
      refine wl (y_assign rfl) rfl ?_
      refine wl_nil ?_
      refine wc_ret ?_
      refine wret (vs := [_, _]) (.cell rfl (loadVar_struct st_48 sz_48 (vs := [_, _, _]) rfl (hS.cells rfl)) (.tmp rfl .nil)) ?_
      first
      | exact ⟨M, _, _, Mle.refl _, Rd.nil, rfl, hb0, hS.keep⟩
      | (simp only [List.setIfInBounds_toArray, List.set_cons_zero, List.set_cons_succ, Nat.zero_add, Nat.add_zero, cells_agg, setCells] at hS
         exact ⟨M2, _, _, hM1.trans hM2, hs3, rfl, ⟨_, _, _, ho2, ((hr.mono hM1).append (.cons (x := ⟨m.origin, (m.next ups).n, sa1, ups.length, sc1⟩) (r := m.next ups) ⟨rfl, rfl, hs1, hul⟩ .nil)).mono hM2, rfl⟩, hS.keep⟩)
    · try simp only [zq1, zq2, zq3, zq4, zq5, zq6, zq7] at hc34
      have hz : m.addE ups = 0 := by omega
      rw [if_pos hz, if_pos hz, hz]
      have hq : m.add ups = ⟨m.origin, m.last, m.l ++ [m.next ups]⟩ := by unfold Jnl.add; rw [if_pos hz]
      rw [hq]
      refine wc_skip ?_
      refine wc_seq ?_
      refine wc_draw (l0 := (lb 12 0)) (fun w => w.cell? ⟨p, 2, none⟩ = some (.slice sa xs.length sc) ∧ CellsAt w b6 0 [.int .i64 m.origin, .int .i64 (m.next ups).n, .slice ua ups.length uc]) [8, 11] wide_ rfl rfl fun w hw => ?_
      replace hS := hS.same hw; clear hw
      refine dr_pure (i := 0) (lb 12 1) rfl rfl (by kernel_rfl) (fun w => y_move rfl) ?_
      refine dr_pure (i := 1) (lb 12 3) rfl rfl (by kernel_rfl) (fun w => y_move rfl) ?_
      refine dr_pure (i := 2) (lb 12 7) rfl rfl (by kernel_rfl) (fun w => y_nil rfl) ?_
      refine dr_pure (i := 3) (lb 12 15) rfl rfl (by kernel_rfl) (fun w => y_fld fl_170_2 rfl) ?_
      refine dr_read (i := 4) (lb 12 31) rfl rfl (by kernel_rfl) ⟨hS.cell rfl, hS.cells rfl⟩ (fun w hS => y_load pl_32 rfl hS.1) ?_
      refine dr_read (i := 5) (lb 12 63) rfl rfl (by kernel_rfl) ⟨hS.cell rfl, hS.cells rfl⟩ (fun w hS => y_loadS st_48 sz_48 rfl hS.2 rfl) ?_
      refine dr_do (i := 6) (lb 12 127) rfl (by kernel_rfl) ?_
      refine wl_call (.cons rfl .nil) (rcopy_c (m.next ups) _ hul hu0 hS) rfl ?_
      rintro _ w ⟨M1, s1, rfl, hM1, hs1, hS⟩
      obtain ⟨sa1, sc1, rfl⟩ := (hs1.holds hS).slice
      refine wl_nil ⟨fun _ _ => ⟨hS.cell rfl, hS.cells rfl⟩, ?_⟩
      refine dr_do (i := 7) (lb 12 255) rfl (by kernel_rfl) ?_
      refine a_bslice encRV [⟨m.origin, (m.next ups).n, sa1, ups.length, sc1⟩] Tryz.underlying32 sz_48 z_48 rfl (.cons rfl .nil) rfl rfl rfl (by decide) hS rfl fun u Hu w hou hS => ?_
      refine wl_nil ⟨fun _ _ => ⟨hS.cell rfl, hS.cells rfl⟩, ?_⟩
      refine dr_do (i := 8) (lb 12 511) rfl (by kernel_rfl) ?_
      refine a_append Tryz.underlying32 Tryz.underlying32 sz_48 z_48 rfl by_48 (by decide) rfl rfl ho (hou.holds hS) hS (by simp; omega) rfl fun s2 H2 w ho2 hS => ?_
      obtain ⟨sa2, sc2, rfl⟩ := ho2.slice
      refine wl_nil ⟨fun h => absurd (by decide) h, ?_⟩
      refine dr_pure (i := 9) (lb 12 1023) rfl rfl (by kernel_rfl) (fun w => y_nil rfl) ?_
      refine dr_pure (i := 10) (lb 12 2047) rfl rfl (by kernel_rfl) (fun w => y_fld fl_170_2 rfl) ?_
      refine dr_do (i := 11) (lb 12 4095) rfl (by kernel_rfl) ?_
      refine a_store sz_32 rfl rfl rfl hS (Nat.le_of_ble_eq_true rfl) fun w hS => ?_
      refine wl_nil ⟨fun h => absurd (by decide) h, ?_⟩
      refine dr_done (by kernel_rfl) ?_
      refine wc_seq ?_
      refine wc_region ?_
      refine wl (y_loadS st_48 sz_48 rfl (hS.cells (vs := [_, _, _]) rfl) rfl) rfl ?_
      refine wl_call (.cons rfl .nil) (rcopy_c (m.next ups) _ hul (hu0.mono hM1) hS) rfl ?_
      rintro _ w ⟨M2, s3, rfl, hM2, hs3, hS⟩
      obtain ⟨sa3, sc3, rfl⟩ := (hs3.holds hS).slice
      refine a_storeS (vs := [_, _, _]) sz_48 rfl rfl rfl rfl hS (Nat.le_of_ble_eq_true rfl) fun w hS => ?_
      refine wl (y_assign rfl) rfl ?_
      refine wl_nil ?_
      refine wc_ret ?_
      refine wret (vs := [_, _]) (.cell rfl (loadVar_struct st_48 sz_48 (vs := [_, _, _]) rfl (hS.cells rfl)) (.tmp rfl .nil)) ?_
      first
      | exact ⟨M, _, _, Mle.refl _, Rd.nil, rfl, hb0, hS.keep⟩
      | (simp only [List.setIfInBounds_toArray, List.set_cons_zero, List.set_cons_succ, Nat.zero_add, Nat.add_zero, cells_agg, setCells] at hS
         exact ⟨M2, _, _, hM1.trans hM2, hs3, rfl, ⟨_, _, _, ho2, ((hr.mono hM1).append (.cons (x := ⟨m.origin, (m.next ups).n, sa1, ups.length, sc1⟩) (r := m.next ups) ⟨rfl, rfl, hs1, hul⟩ .nil)).mono hM2, rfl⟩, hS.keep⟩)
end
end Go.Proofs.YtndahppmjdbifaaGreatDoor.Jnl

set_option linter.unusedVariables false
set_option linter.unusedSimpArgs false
namespace Go.Proofs.YtndahppmjdbifaaGreatDoor.Cli
open Go Go.Proofs Go.Proofs.YtndahppmjdbifaaGreatDoor.Eng Go.Proofs.YtndahppmjdbifaaGreatDoor.Pre Go.Proofs.YtndahppmjdbifaaGreatDoor.Val Go.Proofs.YtndahppmjdbifaaGreatDoor.Rou Go.Proofs.YtndahppmjdbifaaGreatDoor.Jnl Go.Proofs.YtndahppmjdbifaaGreatDoor.Snd

structure Cli where
  origin : Int
  mtu : Int
  push : Nat
  known : List Rnd
  pending : List Rnd
  opn : List Upd
def Cli.new (j : Jnl) (origin mtu push : Int) : Cli := ⟨origin, mtu, (min (max push 1) 16).toNat, [], behind 0 j.l, []⟩
@[irreducible] def Cli.updE (m : Cli) (u : Upd) : Nat :=
  if mayU u ≠ 0 then mayU u else if fits [u] m.mtu = false then 3 else if fits (m.opn ++ [u]) m.mtu = false then 7 else 0
def Cli.upd (m : Cli) (u : Upd) : Cli := if m.updE u = 0 then { m with opn := m.opn ++ [u] } else m
@[irreducible] def Cli.pushE (m : Cli) (j : Jnl) : Nat :=
  if m.opn.length = 0 then 11 else if m.pending.length ≥ m.push then 7 else j.addE m.opn
def Cli.pushR (m : Cli) (j : Jnl) : Rnd := if m.pushE j = 0 then j.next m.opn else ⟨0, 0, []⟩
def Cli.pushC (m : Cli) (j : Jnl) : Cli := if m.pushE j = 0 then { m with opn := [], pending := m.pending ++ [j.next m.opn] } else m
def Cli.pushJ (m : Cli) (j : Jnl) : Jnl := if m.pushE j = 0 then j.add m.opn else j
@[irreducible] def Cli.takE (m : Cli) (r : Rnd) : Nat :=
  if r.o = m.origin then (match m.pending with | [] => 10 | x :: _ => if x.n = r.n then 0 else 10) else 0
def Cli.take (m : Cli) (r : Rnd) : Cli := if m.takE r = 0 then { m with known := m.known ++ [r], pending := if r.o = m.origin then m.pending.tail else m.pending } else m
def Cli.resume (m : Cli) (j : Jnl) : Cli := { m with known := [], opn := [], pending := behind 0 j.l }

abbrev cliO (jp : Nat) (m : Cli) (sk sp so : Value) : Obj := .cells #[.pointer (some ⟨jp, 0, none⟩), .int .i64 m.origin, .int .i64 m.mtu, .int .i64 m.push, sk, sp, so] 168
def IsC (M : Mem) (p jp : Nat) (m : Cli) (H : Chunk) : Prop :=
  ∃ xs sk Hk ys sp Hp so, Own 48 encRV sk xs Hk ∧ Rvs M xs m.known ∧ Own 48 encRV sp ys Hp ∧ Rvs M ys m.pending ∧ Rd M encU so m.opn ∧ H = (p, cliO jp m sk sp so) :: (Hk ++ Hp)
theorem IsC.mono {M M' : Mem} {p jp : Nat} {m : Cli} {H : Chunk} (h : IsC M p jp m H) (hm : Mle M M') : IsC M' p jp m H := by
  obtain ⟨xs, sk, Hk, ys, sp, Hp, so, h1, h2, h3, h4, h5, h6⟩ := h
  exact ⟨xs, sk, Hk, ys, sp, Hp, so, h1, h2.mono hm, h3, h4.mono hm, h5.mono hm, h6⟩
section
variable {M : Mem} {w : World} {Ls : List Chunk}
theorem cnew_c {jp : Nat} {j : Jnl} {H : Chunk} (origin mtu push : Int) (hl : j.l.length ≤ 137438953472) (hb : IsJ M jp j H) (hS : St M w (H :: Ls)) :
    CallsR Tryz.prog 79 [.pointer (some ⟨jp, 0, none⟩), .int .i64 origin, .int .i64 mtu, .int .i64 push].toArray w fun v w' => ∃ M' p Hc, v = .pointer (some ⟨p, 0, none⟩) ∧ Mle M M' ∧ IsC M' p jp (Cli.new j origin mtu push) Hc ∧ IsJ M' jp j H ∧ St M' w' (Hc :: H :: Ls) := by
  refine calls_of (c := _) (rs := _) (n := 19) Tryz.func79 rfl rfl rfl rfl rfl ?_
  refine wc_seq ?_
  refine wc_region ?_
  refine wl (y_assign rfl) rfl ?_
  refine wl_nil ?_
  refine wc_seq ?_
  refine wc_region ?_
  refine wl (y_move rfl) rfl ?_
  refine wl (y_move rfl) rfl ?_
  refine wl (y_move rfl) rfl ?_
  refine wl (y_move rfl) rfl ?_
  refine wl (y_max rfl rfl) rfl ?_
  refine wl ((y_min rfl rfl).val (u := .int .i64 ((min (max push 1) 16).toNat : Nat)) (congrArg (Value.int .i64) (by omega))) rfl ?_
  refine wl (y_move rfl) rfl ?_
  refine wl_call (.cons rfl (.cons rfl .nil)) (jfrom_c 0 hl hb hS) rfl ?_
  rintro v w ⟨M1, ys, Hp, hM, hoy, hry, hb1, hS⟩
  obtain ⟨ya, yc, rfl⟩ := hoy.slice
  refine wl (y_build (is := [0, 1, 2, 3, 5]) (xs := [_, _, _, _, _]) (out := [_, _, _, _, _, _, _]) plc_168 z_168 (.cons rfl (.cons rfl (.cons rfl (.cons rfl (.cons rfl .nil))))) rfl) rfl ?_
  refine a_box rfl hS rfl fun b18 w hS => ?_
  refine wl (y_assign rfl) rfl ?_
  refine wl_nil ?_
  refine wc_ret ?_
  refine wret (vs := [_]) (.tmp rfl .nil) ?_
  exact ⟨M1, _, _, rfl, hM, ⟨[], .slice none 0 0, [], ys, _, Hp, .slice none 0 0, .nil, .nil, hoy, hry, .nil, rfl⟩, hb1, hS.cons⟩
theorem copies_c (l : List Rnd) (xs : List RV) (s : Value) {Hx : Chunk} (hl : l.length ≤ 137438953472) (hx : Own 48 encRV s xs Hx) (hr : Rvs M xs l) (hS : St M w (Hx :: Ls)) :
    CallsR Tryz.prog 117 [s].toArray w fun v w' => ∃ M' ys H', Mle M M' ∧ Own 48 encRV v ys H' ∧ Rvs M' ys l ∧ St M' w' (H' :: Hx :: Ls) := by
  have hlen := hr.len
  obtain ⟨sa, sc, rfl⟩ := hx.slice
  refine calls_of (c := _) (rs := _) (n := 19) Tryz.func117 rfl rfl rfl rfl rfl ?_
  refine wc_seq ?_
  refine wc_region ?_
  refine wl (y_assign rfl) rfl ?_
  refine wl_nil ?_
  refine wc_seq ?_
  refine wc_region ?_
  refine wl (y_assign rfl) rfl ?_
  refine wl_nil ?_
  refine wc_seq ?_
  refine wc_seq ?_
  refine wc_region ?_
  refine wl (y_move rfl) rfl ?_
  refine wl (y_len_sl Tryz.underlying32 rfl) rfl ?_
  refine wl (y_move rfl) rfl ?_
  refine wl_nil ?_
  refine wc_block ?_
  refine wc_loop (α := Nat × Value × Chunk × Mem × List RV) (fun ⟨i, s, H1, M1, ys⟩ => [(3, s), (6, .slice sa xs.length sc), (7, .int .i64 xs.length), (8, .int .i64 i)]) (fun ⟨i, s, H1, M1, ys⟩ w => i ≤ xs.length ∧ Mle M M1 ∧ Own 48 encRV s ys H1 ∧ ys.length ≤ i ∧ Rvs M1 ys (l.take i) ∧ St M1 w (H1 :: Hx :: Ls)) (fun ⟨i, _, _, _, _⟩ => xs.length - i) (0, .slice none 0 0, [], M, []) (sub_cons rfl (sub_cons rfl (sub_cons rfl (sub_cons rfl sub_nil)))) ⟨by omega, Mle.refl _, .nil, by simp, .nil, St.nil hS⟩ ?_
  clear hS
  rintro ⟨i, s, H1, M1, ys⟩ w ⟨hi, hM, hoy, hyl, hry, hS⟩
  refine wc_seq ?_
  refine wc_region ?_
  refine wl (y_lss rfl rfl) rfl ?_
  refine wl_nil ?_
  refine wc_seq ?_
  refine wc_if rfl (fun hc9 => ?_) (fun hc9 => ?_)
  · try simp only [zq1, zq2, zq3, zq4, zq5, zq6, zq7] at hc9
    refine wc_skip ?_
    refine wc_seq ?_
    refine wc_block ?_
    refine wc_seq ?_
    have hi' : i < xs.length := by omega
    obtain ⟨r, hri⟩ : ∃ r, l[i]? = some r := ⟨_, List.getElem?_eq_getElem (by omega)⟩
    obtain ⟨x, hx', hxr⟩ := (hr.mono hM).at hri
    obtain ⟨bb, off, c', hse, hce⟩ := (hx.holds (hS.pull Hx)).at hx'
    simp only [Value.slice.injEq] at hse
    have hSk := hS
    obtain ⟨rfl, _, rfl⟩ := hse
    replace hS := hSk
    obtain ⟨ya, yc, rfl⟩ := hoy.slice
    have htk : l.take (i + 1) = l.take i ++ [r] := by rw [List.take_add_one, hri]; rfl
    refine wc_region ?_
    refine wl (y_ixa_sl Tryz.underlying32 sz_48 rfl rfl (by omega) (by omega)) rfl ?_
    refine wl ((y_loadS st_48 sz_48 rfl (vs := encRV.f x) hce rfl).val hxr.val) rfl ?_
    refine a_alloc z_48 hS rfl fun b5 w hS => ?_
    refine a_storeS (vs := [_, _, _]) sz_48 rfl rfl rfl rfl hS (Nat.le_of_ble_eq_true rfl) fun w hS => ?_
    refine wl_nil ?_
    refine wc_region ?_
    refine wl (y_move rfl) rfl ?_
    refine wl (y_loadS st_48 sz_48 rfl (hS.cells (vs := [_, _, _]) rfl) rfl) rfl ?_
    refine wl_call (.cons rfl .nil) (rcopy_c r x.s hxr.2.2.2 hxr.2.2.1 hS) rfl ?_
    rintro _ w ⟨M', s', rfl, hM', hs', hS⟩
    obtain ⟨sa', sc', rfl⟩ := (hs'.holds hS).slice
    refine a_bslice encRV [⟨r.o, r.n, sa', r.ups.length, sc'⟩] Tryz.underlying32 sz_48 z_48 rfl (.cons rfl .nil) rfl rfl rfl (by decide) hS rfl fun u Hu w hou hS => ?_
    refine a_append Tryz.underlying32 Tryz.underlying32 sz_48 z_48 rfl by_48 (by decide) rfl rfl hoy (hou.holds hS) hS (by simp; omega) rfl fun s1 H2 w ho1 hS => ?_
    have hry2 : Rvs M' (ys ++ [⟨r.o, r.n, sa', r.ups.length, sc'⟩]) (l.take i ++ [r]) := (hry.mono hM').append (.cons ⟨rfl, rfl, hs', hxr.2.2.2⟩ .nil)
    rw [← htk] at hry2
    refine wl (y_assign rfl) rfl ?_
    refine wl_nil ?_
    refine wc_region ?_
    refine wl (y_add rfl rfl (w64 (by omega) (by omega))) rfl ?_
    refine wl (y_move rfl) rfl ?_
    refine wl_nil ?_
    exact ⟨(i + 1, _, H2, M', _), by simp only; omega, sub_cons rfl (sub_cons rfl (sub_cons rfl (sub_cons rfl sub_nil))), by omega, hM.trans hM', ho1, by simp; omega, hry2, hS.keep⟩
  · try simp only [zq1, zq2, zq3, zq4, zq5, zq6, zq7] at hc9
    obtain rfl : i = xs.length := by omega
    rw [hlen, List.take_length] at hry
    refine wc_exit ?_
    refine wc_seq ?_
    refine wc_region ?_
    refine wl (y_move rfl) rfl ?_
    refine wl (y_assign rfl) rfl ?_
    refine wl_nil ?_
    refine wc_ret ?_
    refine wret (vs := [_]) (.tmp rfl .nil) ?_
    exact ⟨M1, ys, H1, hM, hoy, hry, hS⟩
theorem cknown_c {p jp : Nat} {m : Cli} {H : Chunk} (hl : m.known.length ≤ 137438953472) (hb : IsC M p jp m H) (hS : St M w (H :: Ls)) :
    CallsR Tryz.prog 50 [.pointer (some ⟨p, 0, none⟩)].toArray w fun v w' => ∃ M' ys H', Mle M M' ∧ Own 48 encRV v ys H' ∧ Rvs M' ys m.known ∧ IsC M' p jp m H ∧ St M' w' (H' :: H :: Ls) := by
  have hb0 := hb
  obtain ⟨xs, sk, Hk, ys, sp, Hp, so, h1, h2, h3, h4, h5, rfl⟩ := hb
  replace hS := hS.un2
  refine calls_of (c := _) (rs := _) (n := 8) Tryz.func50 rfl rfl rfl rfl rfl ?_
  refine wc_seq ?_
  refine wc_region ?_
  refine wl (y_assign rfl) rfl ?_
  refine wl_nil ?_
  refine wc_seq ?_
  refine wc_region ?_
  refine wl (y_move rfl) rfl ?_
  refine wl (y_nil rfl) rfl ?_
  refine wl (y_fld fl_168_4 rfl) rfl ?_
  refine wl (y_load pl_32 rfl (hS.cell (v := sk) rfl)) rfl ?_
  refine wl_call (.cons rfl .nil) (copies_c m.known xs sk hl h1 h2 (hS.pull Hk)) rfl ?_
  rintro v w ⟨M', zs, Hz, hM, ho, hr, hS⟩
  refine wl (y_assign rfl) rfl ?_
  refine wl_nil ?_
  refine wc_ret ?_
  refine wret (vs := [_]) (.tmp rfl .nil) ?_
  exact ⟨M', zs, Hz, hM, ho, hr, hb0.mono hM, hS.keep⟩
theorem cpending_c {p jp : Nat} {m : Cli} {H : Chunk} (hl : m.pending.length ≤ 137438953472) (hb : IsC M p jp m H) (hS : St M w (H :: Ls)) :
    CallsR Tryz.prog 51 [.pointer (some ⟨p, 0, none⟩)].toArray w fun v w' => ∃ M' ys H', Mle M M' ∧ Own 48 encRV v ys H' ∧ Rvs M' ys m.pending ∧ IsC M' p jp m H ∧ St M' w' (H' :: H :: Ls) := by
  have hb0 := hb
  obtain ⟨xs, sk, Hk, ys, sp, Hp, so, h1, h2, h3, h4, h5, rfl⟩ := hb
  replace hS := hS.un2
  refine calls_of (c := _) (rs := _) (n := 8) Tryz.func51 rfl rfl rfl rfl rfl ?_
  refine wc_seq ?_
  refine wc_region ?_
  refine wl (y_assign rfl) rfl ?_
  refine wl_nil ?_
  refine wc_seq ?_
  refine wc_region ?_
  refine wl (y_move rfl) rfl ?_
  refine wl (y_nil rfl) rfl ?_
  refine wl (y_fld fl_168_5 rfl) rfl ?_
  refine wl (y_load pl_32 rfl (hS.cell (v := sp) rfl)) rfl ?_
  refine wl_call (.cons rfl .nil) (copies_c m.pending ys sp hl h3 h4 (hS.pull Hp)) rfl ?_
  rintro v w ⟨M', zs, Hz, hM, ho, hr, hS⟩
  refine wl (y_assign rfl) rfl ?_
  refine wl_nil ?_
  refine wc_ret ?_
  refine wret (vs := [_]) (.tmp rfl .nil) ?_
  exact ⟨M', zs, Hz, hM, ho, hr, hb0.mono hM, hS.keep⟩
theorem copen_c {p jp : Nat} {m : Cli} {H : Chunk} (hl : m.opn.length ≤ 137438953472) (hb : IsC M p jp m H) (hS : St M w (H :: Ls)) :
    CallsR Tryz.prog 52 [.pointer (some ⟨p, 0, none⟩)].toArray w fun v w' => ∃ H', Own 59 encU v m.opn H' ∧ St M w' (H' :: H :: Ls) := by
  obtain ⟨xs, sk, Hk, ys, sp, Hp, so, h1, h2, h3, h4, h5, rfl⟩ := hb
  replace hS := hS.un2
  refine calls_of (c := _) (rs := _) (n := 9) Tryz.func52 rfl rfl rfl rfl rfl ?_
  refine wc_seq ?_
  refine wc_region ?_
  refine wl (y_assign rfl) rfl ?_
  refine wl_nil ?_
  refine wc_seq ?_
  refine wc_region ?_
  refine a_bslice encU [] (vs := []) (ps := []) Tryz.underlying46 sz_59 z_59 rfl .nil rfl rfl rfl (by decide) hS rfl fun u Hu w hou hS => ?_
  refine wl (y_move rfl) rfl ?_
  refine wl (y_nil rfl) rfl ?_
  refine wl (y_fld fl_168_6 rfl) rfl ?_
  refine wl (y_load pl_46 rfl (hS.cell (v := so) rfl)) rfl ?_
  refine a_append Tryz.underlying46 Tryz.underlying46 sz_59 z_59 rfl by_59 (by decide) rfl rfl hou (h5.holds hS) hS (by simp; omega) rfl fun s1 H2 w ho1 hS => ?_
  rw [List.nil_append] at ho1
  refine wl (y_assign rfl) rfl ?_
  refine wl_nil ?_
  refine wc_ret ?_
  refine wret (vs := [_]) (.tmp rfl .nil) ?_
  exact ⟨_, ho1, hS.keep⟩
theorem cconf_c {p jp : Nat} {m : Cli} {H : Chunk} (hb : IsC M p jp m H) (hS : St M w (H :: Ls)) :
    CallsR Tryz.prog 107 [.pointer (some ⟨p, 0, none⟩)].toArray w fun v w' => v = .bool (decide (m.pending = [] ∧ m.opn = [])) ∧ St M w' (H :: Ls) := by
  obtain ⟨xs, sk, Hk, ys, sp, Hp, so, h1, h2, h3, h4, h5, rfl⟩ := hb
  have hSH := hS
  replace hS := hS.un2
  have e4 := h4.len
  obtain ⟨pa, pc, rfl⟩ := h3.slice
  obtain ⟨oa, oc, rfl⟩ := (h5.holds hS).slice
  have fin : ∀ b : Bool, (b = true ↔ (ys.length : Int) = 0 ∧ (m.opn.length : Int) = 0) → b = decide (m.pending = [] ∧ m.opn = []) := by
    intro b hb
    rw [Bool.eq_iff_iff, hb, decide_eq_true_iff, ← List.length_eq_zero_iff, ← List.length_eq_zero_iff]
    omega
  refine calls_of (c := _) (rs := _) (n := 17) Tryz.func107 rfl rfl rfl rfl rfl ?_
  refine wc_seq ?_
  refine wc_region ?_
  refine wl (y_assign rfl) rfl ?_
  refine wl_nil ?_
  refine wc_seq ?_
  refine wc_region ?_
  refine wl (y_move rfl) rfl ?_
  refine wl (y_nil rfl) rfl ?_
  refine wl (y_fld fl_168_5 rfl) rfl ?_
  refine wl (y_load pl_32 rfl (hS.cell (v := .slice pa ys.length pc) rfl)) rfl ?_
  refine wl (y_len_sl Tryz.underlying32 rfl) rfl ?_
  refine wl (y_eql rfl rfl) rfl ?_
  refine wl (y_move rfl) rfl ?_
  refine wl_cases (s := 9) rfl (fun hg9 => ?_) (fun hg9 => ?_)
  · try simp only [zq1, zq2, zq3, zq4, zq5, zq6, zq7] at hg9
    refine wl_on rfl rfl ?_
    refine wl (y_move rfl) rfl ?_
    refine wl_on rfl rfl ?_
    refine wl (y_nil rfl) rfl ?_
    refine wl_on rfl rfl ?_
    refine wl (y_fld fl_168_6 rfl) rfl ?_
    refine wl_on rfl rfl ?_
    refine wl (y_load pl_46 rfl (hS.cell (v := .slice oa m.opn.length oc) rfl)) rfl ?_
    refine wl_on rfl rfl ?_
    refine wl (y_len_sl Tryz.underlying46 rfl) rfl ?_
    refine wl_on rfl rfl ?_
    refine wl (y_eql rfl rfl) rfl ?_
    refine wl (y_pickT rfl rfl) rfl ?_
    refine wl (y_assign rfl) rfl ?_
    refine wl_nil ?_
    refine wc_ret ?_
    refine wret (vs := [_]) (.tmp rfl .nil) ?_
    exact ⟨congrArg Value.bool (fin _ (by first | (rw [decide_eq_true_iff]; omega) | (simp only [Bool.false_eq_true, false_iff]; omega))), hS.keep⟩
  · try simp only [zq1, zq2, zq3, zq4, zq5, zq6, zq7] at hg9
    refine wl_off rfl rfl rfl rfl ?_
    refine wl_off rfl rfl rfl rfl ?_
    refine wl_off rfl rfl rfl rfl ?_
    refine wl_off rfl rfl rfl rfl ?_
    refine wl_off rfl rfl rfl rfl ?_
    refine wl_off rfl rfl rfl rfl ?_
    refine wl (y_pickF rfl rfl) rfl ?_
    refine wl (y_assign rfl) rfl ?_
    refine wl_nil ?_
    refine wc_ret ?_
    refine wret (vs := [_]) (.tmp rfl .nil) ?_
    exact ⟨congrArg Value.bool (fin _ (by first | (rw [decide_eq_true_iff]; omega) | (simp only [Bool.false_eq_true, false_iff]; omega))), hS.keep⟩
theorem cseen_c {p jp : Nat} {m : Cli} {H : Chunk} (hl : m.known.length + m.pending.length ≤ 137438953472) (hb : IsC M p jp m H) (hS : St M w (H :: Ls)) :
    CallsR Tryz.prog 144 [.pointer (some ⟨p, 0, none⟩)].toArray w fun v w' => ∃ ys H', Own 48 encRV v ys H' ∧ Rvs M ys (m.known ++ m.pending) ∧ St M w' (H' :: H :: Ls) := by
  obtain ⟨xs, sk, Hk, ys, sp, Hp, so, h1, h2, h3, h4, h5, rfl⟩ := hb
  replace hS := hS.un2
  have e2 := h2.len
  have e4 := h4.len
  refine calls_of (c := _) (rs := _) (n := 14) Tryz.func144 rfl rfl rfl rfl rfl ?_
  refine wc_seq ?_
  refine wc_region ?_
  refine wl (y_assign rfl) rfl ?_
  refine wl_nil ?_
  refine wc_seq ?_
  refine wc_draw (l0 := (lb 12 0)) (fun w => w.cell? ⟨p, 4, none⟩ = some sk ∧ w.cell? ⟨p, 5, none⟩ = some sp) [11] wide_ rfl rfl fun w hw => ?_
  replace hS := hS.same hw; clear hw
  refine dr_pure (i := 1) (lb 12 2) rfl rfl (by kernel_rfl) (fun w => y_move rfl) ?_
  refine dr_pure (i := 2) (lb 12 6) rfl rfl (by kernel_rfl) (fun w => y_nil rfl) ?_
  refine dr_pure (i := 3) (lb 12 14) rfl rfl (by kernel_rfl) (fun w => y_fld fl_168_4 rfl) ?_
  refine dr_pure (i := 6) (lb 12 78) rfl rfl (by kernel_rfl) (fun w => y_move rfl) ?_
  refine dr_pure (i := 7) (lb 12 206) rfl rfl (by kernel_rfl) (fun w => y_nil rfl) ?_
  refine dr_pure (i := 8) (lb 12 462) rfl rfl (by kernel_rfl) (fun w => y_fld fl_168_5 rfl) ?_
  refine dr_read (i := 4) (lb 12 478) rfl rfl (by kernel_rfl) ⟨hS.cell rfl, hS.cell rfl⟩ (fun w hS => y_load pl_32 rfl hS.1) ?_
  refine dr_read (i := 9) (lb 12 990) rfl rfl (by kernel_rfl) ⟨hS.cell rfl, hS.cell rfl⟩ (fun w hS => y_load pl_32 rfl hS.2) ?_
  refine dr_do (i := 0) (lb 12 991) rfl (by kernel_rfl) ?_
  refine a_bslice encRV [] (vs := []) (ps := []) Tryz.underlying32 sz_48 z_48 rfl .nil rfl rfl rfl (by decide) hS rfl fun u Hu w hou hS => ?_
  refine wl_nil ⟨fun _ _ => ⟨hS.cell rfl, hS.cell rfl⟩, ?_⟩
  refine dr_do (i := 5) (lb 12 1023) rfl (by kernel_rfl) ?_
  refine a_append Tryz.underlying32 Tryz.underlying32 sz_48 z_48 rfl by_48 (by decide) rfl rfl hou (h1.holds (hS.pull Hk)) hS (by simp; omega) rfl fun s1 H1 w ho1 hS => ?_
  rw [List.nil_append] at ho1
  refine wl_nil ⟨fun _ _ => ⟨hS.cell rfl, hS.cell rfl⟩, ?_⟩
  refine dr_do (i := 10) (lb 12 2047) rfl (by kernel_rfl) ?_
  refine a_append Tryz.underlying32 Tryz.underlying32 sz_48 z_48 rfl by_48 (by decide) rfl rfl ho1 (h3.holds (hS.pull Hp)) hS (by omega) rfl fun s2 H2 w ho2 hS => ?_
  refine wl_nil ⟨fun _ _ => ⟨hS.cell rfl, hS.cell rfl⟩, ?_⟩
  refine dr_pure (i := 11) (lb 12 4095) rfl rfl (by kernel_rfl) (fun w => y_assign rfl) ?_
  refine dr_done (by kernel_rfl) ?_
  refine wc_ret ?_
  refine wret (vs := [_]) (.tmp rfl .nil) ?_
  exact ⟨_, _, ho2, h2.append h4, hS.keep⟩
end
end Go.Proofs.YtndahppmjdbifaaGreatDoor.Cli

set_option linter.unusedVariables false
set_option linter.unusedSimpArgs false
namespace Go.Proofs.YtndahppmjdbifaaGreatDoor.Cli
open Go Go.Proofs Go.Proofs.YtndahppmjdbifaaGreatDoor.Eng Go.Proofs.YtndahppmjdbifaaGreatDoor.Pre Go.Proofs.YtndahppmjdbifaaGreatDoor.Val Go.Proofs.YtndahppmjdbifaaGreatDoor.Rou Go.Proofs.YtndahppmjdbifaaGreatDoor.Jnl Go.Proofs.YtndahppmjdbifaaGreatDoor.Snd
section
variable {M : Mem} {w : World} {Ls : List Chunk}
theorem cupd_c (hG : Bits M) (u : Upd) {p jp : Nat} {m : Cli} {H : Chunk} (hmt : 0 ≤ m.mtu ∧ m.mtu ≤ 1400) (hl : m.opn.length ≤ 13743895) (hb : IsC M p jp m H) (hS : St M w (H :: Ls)) :
    CallsR Tryz.prog 88 [.pointer (some ⟨p, 0, none⟩), uv u].toArray w fun v w' => ∃ M' H', Mle M M' ∧ v = .int .i64 (m.updE u) ∧ IsC M' p jp (m.upd u) H' ∧ St M' w' (H' :: Ls) := by
  have hb0 := hb
  obtain ⟨xs, sk, Hk, ys, sp, Hp, so, h1, h2, h3, h4, h5, rfl⟩ := hb
  replace hS := hS.un2
  obtain ⟨oa, oc, rfl⟩ := (h5.holds hS).slice
  refine calls_of (c := _) (rs := _) (n := 40) Tryz.func88 rfl rfl rfl rfl rfl ?_
  refine wc_seq ?_
  refine wc_region ?_
  refine a_box rfl hS rfl fun b3 w hS => ?_
  refine wl (y_assign rfl) rfl ?_
  refine wl_nil ?_
  refine wc_seq ?_
  refine wc_seq ?_
  refine wc_region ?_
  refine wl ((y_loadS st_59 sz_59 rfl (vs := encU.f u) (hS.cells rfl) rfl).val (show _ = uv u from rfl)) rfl ?_
  refine wl_call (.cons rfl .nil) (may_c u hS) rfl ?_
  rintro _ w ⟨rfl, hS⟩
  refine wl (y_assign rfl) rfl ?_
  refine wl_nil ?_
  refine wc_seq ?_
  refine wc_region ?_
  refine wl (y_move rfl) rfl ?_
  refine wl (y_neq rfl rfl) rfl ?_
  refine wl_nil ?_
  refine wc_if rfl (fun hc10 => ?_) (fun hc10 => ?_)
  · try simp only [zq1, zq2, zq3, zq4, zq5, zq6, zq7] at hc10
    have he : m.updE u = mayU u := by unfold Cli.updE; rw [if_pos (by omega)]
    have hq : m.upd u = m := by unfold Cli.upd; rw [if_neg (by omega)]
    rw [he, hq]
    refine wc_seq ?_
    refine wc_region ?_
    refine wl (y_move rfl) rfl ?_
    refine wl (y_assign rfl) rfl ?_
    refine wl_nil ?_
    refine wc_ret ?_
    refine wret (vs := [_]) (.tmp rfl .nil) ?_
    first
    | exact ⟨M, _, Mle.refl _, rfl, hb0, hS.keep⟩
    | exact ⟨M1, _, hM1, rfl, hb0.mono hM1, hS.keep⟩
    | exact ⟨M2, _, hM1.trans hM2, rfl, hb0.mono (hM1.trans hM2), hS.keep⟩
    | (simp only [List.setIfInBounds_toArray, List.set_cons_zero, List.set_cons_succ, Nat.zero_add, Nat.add_zero, cells_agg, setCells] at hS
       exact ⟨M2, _, hM1.trans hM2, rfl, ⟨xs, sk, Hk, ys, sp, Hp, _, h1, h2.mono (hM1.trans hM2), h3, h4.mono (hM1.trans hM2), hr5, rfl⟩, hS.keep⟩)
  · try simp only [zq1, zq2, zq3, zq4, zq5, zq6, zq7] at hc10
    have hm0 : mayU u = 0 := by omega
    refine wc_skip ?_
    refine wc_seq ?_
    refine wc_seq ?_
    refine wc_draw (l0 := (lb 8 0)) (fun w => CellsAt w b3 0 (encU.f u) ∧ w.cell? ⟨p, 2, none⟩ = some (.int .i64 m.mtu)) [6] wide_ rfl rfl fun w hw => ?_
    replace hS := hS.same hw; clear hw
    refine dr_pure (i := 2) (lb 8 4) rfl rfl (by kernel_rfl) (fun w => y_move rfl) ?_
    refine dr_pure (i := 3) (lb 8 12) rfl rfl (by kernel_rfl) (fun w => y_nil rfl) ?_
    refine dr_pure (i := 4) (lb 8 28) rfl rfl (by kernel_rfl) (fun w => y_fld fl_168_2 rfl) ?_
    refine dr_read (i := 0) (lb 8 29) rfl rfl (by kernel_rfl) ⟨hS.cells rfl, hS.cell rfl⟩ (fun w hS => (y_loadS st_59 sz_59 rfl hS.1 rfl).val (show _ = uv u from rfl)) ?_
    refine dr_read (i := 5) (lb 8 61) rfl rfl (by kernel_rfl) ⟨hS.cells rfl, hS.cell rfl⟩ (fun w hS => y_load pl_3 rfl hS.2) ?_
    refine dr_do (i := 1) (lb 8 63) rfl (by kernel_rfl) ?_
    refine a_bslice encU [u] Tryz.underlying46 sz_59 z_59 rfl (.cons rfl .nil) rfl rfl rfl (by decide) hS rfl fun u1 Hu w hou hS => ?_
    obtain ⟨M1, hM1, hHu, hS⟩ := hS.freeze
    have hru := hou.rd hHu
    obtain ⟨ua, uc, rfl⟩ := (hru.holds hS).slice
    refine wl_nil ⟨fun _ _ => ⟨hS.cells rfl, hS.cell rfl⟩, ?_⟩
    refine dr_do (i := 6) (lb 8 127) rfl (by kernel_rfl) ?_
    refine wl_call (.cons rfl (.cons rfl .nil)) (fits_c (hG.mono hM1) [u] m.mtu _ (by omega) hru hS) rfl ?_
    rintro _ w ⟨rfl, hS⟩
    refine wl_nil ⟨fun _ _ => ⟨hS.cells rfl, hS.cell rfl⟩, ?_⟩
    refine dr_pure (i := 7) (lb 8 255) rfl rfl (by kernel_rfl) (fun w => y_not rfl) ?_
    refine dr_done (by kernel_rfl) ?_
    refine wc_if rfl (fun hc19 => ?_) (fun hc19 => ?_)
    · try simp only [zq1, zq2, zq3, zq4, zq5, zq6, zq7] at hc19
      have he : m.updE u = 3 := by unfold Cli.updE; rw [if_neg (by omega), if_pos (by simpa using hc19)]
      have hq : m.upd u = m := by unfold Cli.upd; rw [if_neg (by omega)]
      rw [he, hq]
      refine wc_seq ?_
      refine wc_region ?_
      refine wl (y_assign rfl) rfl ?_
      refine wl_nil ?_
      refine wc_ret ?_
      refine wret (vs := [_]) (.tmp rfl .nil) ?_
      first
      | exact ⟨M, _, Mle.refl _, rfl, hb0, hS.keep⟩
      | exact ⟨M1, _, hM1, rfl, hb0.mono hM1, hS.keep⟩
      | exact ⟨M2, _, hM1.trans hM2, rfl, hb0.mono (hM1.trans hM2), hS.keep⟩
      | (simp only [List.setIfInBounds_toArray, List.set_cons_zero, List.set_cons_succ, Nat.zero_add, Nat.add_zero, cells_agg, setCells] at hS
         exact ⟨M2, _, hM1.trans hM2, rfl, ⟨xs, sk, Hk, ys, sp, Hp, _, h1, h2.mono (hM1.trans hM2), h3, h4.mono (hM1.trans hM2), hr5, rfl⟩, hS.keep⟩)
    · try simp only [zq1, zq2, zq3, zq4, zq5, zq6, zq7] at hc19
      refine wc_skip ?_
      refine wc_seq ?_
      refine wc_draw (l0 := (lb 10 0)) (fun w => w.cell? ⟨p, 6, none⟩ = some (.slice oa m.opn.length oc) ∧ CellsAt w b3 0 (encU.f u)) [9] wide_ rfl rfl fun w hw => ?_
      replace hS := hS.same hw; clear hw
      refine dr_pure (i := 1) (lb 10 2) rfl rfl (by kernel_rfl) (fun w => y_move rfl) ?_
      refine dr_pure (i := 2) (lb 10 6) rfl rfl (by kernel_rfl) (fun w => y_nil rfl) ?_
      refine dr_pure (i := 3) (lb 10 14) rfl rfl (by kernel_rfl) (fun w => y_fld fl_168_6 rfl) ?_
      refine dr_read (i := 4) (lb 10 30) rfl rfl (by kernel_rfl) ⟨hS.cell rfl, hS.cells rfl⟩ (fun w hS => y_load pl_46 rfl hS.1) ?_
      refine dr_read (i := 6) (lb 10 94) rfl rfl (by kernel_rfl) ⟨hS.cell rfl, hS.cells rfl⟩ (fun w hS => (y_loadS st_59 sz_59 rfl hS.2 rfl).val (show _ = uv u from rfl)) ?_
      refine dr_do2 (i := 0) (j := 7) (lb 10 95) (lb 10 222) rfl rfl (by kernel_rfl) ?_ ?_
      ·  -- 0 first
        refine a_bslice encU [] (vs := []) (ps := []) Tryz.underlying46 sz_59 z_59 rfl .nil rfl rfl rfl (by decide) hS rfl fun u2 H2 w ho2 hS => ?_
        refine wl_nil ⟨fun _ _ => ⟨hS.cell rfl, hS.cells rfl⟩, ?_⟩
        refine dr_do2 (i := 5) (j := 7) (lb 10 127) (lb 10 223) rfl rfl (by kernel_rfl) ?_ ?_
        ·  -- 5 first
          refine a_append Tryz.underlying46 Tryz.underlying46 sz_59 z_59 rfl by_59 (by decide) rfl rfl ho2 ((h5.mono hM1).holds hS) hS (by simp; omega) rfl fun s3 H3 w ho3 hS => ?_
          rw [List.nil_append] at ho3
          refine wl_nil ⟨fun _ _ => ⟨hS.cell rfl, hS.cells rfl⟩, ?_⟩
          refine dr_do (i := 7) (lb 10 255) rfl (by kernel_rfl) ?_
          refine a_bslice encU [u] Tryz.underlying46 sz_59 z_59 rfl (.cons rfl .nil) rfl rfl rfl (by decide) hS rfl fun u4 H4 w ho4 hS => ?_
          refine wl_nil ⟨fun _ _ => ⟨hS.cell rfl, hS.cells rfl⟩, ?_⟩
          refine dr_do (i := 8) (lb 10 511) rfl (by kernel_rfl) ?_
          refine a_append Tryz.underlying46 Tryz.underlying46 sz_59 z_59 rfl by_59 (by decide) rfl rfl ho3 (ho4.holds (hS.pull H4)) hS (by simp; omega) rfl fun s5 H5 w ho5 hS => ?_
          refine wl_nil ⟨fun _ _ => ⟨hS.cell rfl, hS.cells rfl⟩, ?_⟩
          refine dr_pure (i := 9) (lb 10 1023) rfl rfl (by kernel_rfl) (fun w => y_assign rfl) ?_
          refine dr_done (by kernel_rfl) ?_
          obtain ⟨M2, hM2, hH5, hS⟩ := hS.freeze
          have hr5 := ho5.rd hH5
          obtain ⟨ma, mc, rfl⟩ := (hr5.holds hS).slice
          refine wc_seq ?_
          refine wc_seq ?_
          refine wc_region ?_
          refine wl (y_move rfl) rfl ?_
          refine wl (y_move rfl) rfl ?_
          refine wl (y_nil rfl) rfl ?_
          refine wl (y_fld fl_168_2 rfl) rfl ?_
          refine wl (y_load pl_3 rfl (hS.cell (v := .int .i64 m.mtu) rfl)) rfl ?_
          refine wl_call (.cons rfl (.cons rfl .nil)) (fits_c ((hG.mono hM1).mono hM2) (m.opn ++ [u]) m.mtu _ (by omega) hr5 hS) rfl ?_
          rintro _ w ⟨rfl, hS⟩
          refine wl (y_not rfl) rfl ?_
          refine wl_nil ?_
          refine wc_if rfl (fun hc35 => ?_) (fun hc35 => ?_)
          · try simp only [zq1, zq2, zq3, zq4, zq5, zq6, zq7] at hc35
            have he : m.updE u = 7 := by unfold Cli.updE; rw [if_neg (by omega), if_neg (by simpa using hc19), if_pos (by simpa using hc35)]
            have hq : m.upd u = m := by unfold Cli.upd; rw [if_neg (by omega)]
            rw [he, hq]
            refine wc_seq ?_
            refine wc_region ?_
            refine wl (y_assign rfl) rfl ?_
            refine wl_nil ?_
            refine wc_ret ?_
            refine wret (vs := [_]) (.tmp rfl .nil) ?_
            first
            | exact ⟨M, _, Mle.refl _, rfl, hb0, hS.keep⟩
            | exact ⟨M1, _, hM1, rfl, hb0.mono hM1, hS.keep⟩
            | exact ⟨M2, _, hM1.trans hM2, rfl, hb0.mono (hM1.trans hM2), hS.keep⟩
            | (simp only [List.setIfInBounds_toArray, List.set_cons_zero, List.set_cons_succ, Nat.zero_add, Nat.add_zero, cells_agg, setCells] at hS
               exact ⟨M2, _, hM1.trans hM2, rfl, ⟨xs, sk, Hk, ys, sp, Hp, _, h1, h2.mono (hM1.trans hM2), h3, h4.mono (hM1.trans hM2), hr5, rfl⟩, hS.keep⟩)
          · try simp only [zq1, zq2, zq3, zq4, zq5, zq6, zq7] at hc35
            have he : m.updE u = 0 := by unfold Cli.updE; rw [if_neg (by omega), if_neg (by simpa using hc19), if_neg (by simpa using hc35)]
            have hq : m.upd u = { m with opn := m.opn ++ [u] } := by unfold Cli.upd; rw [if_pos he]
            rw [he, hq]
            refine wc_skip ?_
            refine wc_seq ?_
            refine wc_region ?_
            refine wl (y_move rfl) rfl ?_
            refine wl (y_move rfl) rfl ?_
            refine wl (y_nil rfl) rfl ?_
            refine wl (y_fld fl_168_6 rfl) rfl ?_
            refine a_store sz_46 rfl rfl rfl hS (Nat.le_of_ble_eq_true rfl) fun w hS => ?_
            refine wl_nil ?_
            refine wc_seq ?_
            refine wc_region ?_
            refine wl (y_assign rfl) rfl ?_
            refine wl_nil ?_
            refine wc_ret ?_
            refine wret (vs := [_]) (.tmp rfl .nil) ?_
            first
            | exact ⟨M, _, Mle.refl _, rfl, hb0, hS.keep⟩
            | exact ⟨M1, _, hM1, rfl, hb0.mono hM1, hS.keep⟩
            | exact ⟨M2, _, hM1.trans hM2, rfl, hb0.mono (hM1.trans hM2), hS.keep⟩
            | (simp only [List.setIfInBounds_toArray, List.set_cons_zero, List.set_cons_succ, Nat.zero_add, Nat.add_zero, cells_agg, setCells] at hS
               exact ⟨M2, _, hM1.trans hM2, rfl, ⟨xs, sk, Hk, ys, sp, Hp, _, h1, h2.mono (hM1.trans hM2), h3, h4.mono (hM1.trans hM2), hr5, rfl⟩, hS.keep⟩)
        ·  -- 7 first
          refine a_bslice encU [u] Tryz.underlying46 sz_59 z_59 rfl (.cons rfl .nil) rfl rfl rfl (by decide) hS rfl fun u4 H4 w ho4 hS => ?_
          refine wl_nil ⟨fun _ _ => ⟨hS.cell rfl, hS.cells rfl⟩, ?_⟩
          refine dr_do (i := 5) (lb 10 255) rfl (by kernel_rfl) ?_
          refine a_append Tryz.underlying46 Tryz.underlying46 sz_59 z_59 rfl by_59 (by decide) rfl rfl ho2 ((h5.mono hM1).holds hS) hS (by simp; omega) rfl fun s3 H3 w ho3 hS => ?_
          rw [List.nil_append] at ho3
          refine wl_nil ⟨fun _ _ => ⟨hS.cell rfl, hS.cells rfl⟩, ?_⟩
          refine dr_do (i := 8) (lb 10 511) rfl (by kernel_rfl) ?_
          refine a_append Tryz.underlying46 Tryz.underlying46 sz_59 z_59 rfl by_59 (by decide) rfl rfl ho3 (ho4.holds (hS.pull H4)) hS (by simp; omega) rfl fun s5 H5 w ho5 hS => ?_
          refine wl_nil ⟨fun _ _ => ⟨hS.cell rfl, hS.cells rfl⟩, ?_⟩
          refine dr_pure (i := 9) (lb 10 1023) rfl rfl (by kernel_rfl) (fun w => y_assign rfl) ?_
          refine dr_done (by kernel_rfl) ?_
          obtain ⟨M2, hM2, hH5, hS⟩ := hS.freeze
          have hr5 := ho5.rd hH5
          obtain ⟨ma, mc, rfl⟩ := (hr5.holds hS).slice
          refine wc_seq ?_
          refine wc_seq ?_
          refine wc_region ?_
          refine wl (y_move rfl) rfl ?_
          refine wl (y_move rfl) rfl ?_
          refine wl (y_nil rfl) rfl ?_
          refine wl (y_fld fl_168_2 rfl) rfl ?_
          refine wl (y_load pl_3 rfl (hS.cell (v := .int .i64 m.mtu) rfl)) rfl ?_
          refine wl_call (.cons rfl (.cons rfl .nil)) (fits_c ((hG.mono hM1).mono hM2) (m.opn ++ [u]) m.mtu _ (by omega) hr5 hS) rfl ?_
          rintro _ w ⟨rfl, hS⟩
          refine wl (y_not rfl) rfl ?_
          refine wl_nil ?_
          refine wc_if rfl (fun hc35 => ?_) (fun hc35 => ?_)
          · try simp only [zq1, zq2, zq3, zq4, zq5, zq6, zq7] at hc35
            have he : m.updE u = 7 := by unfold Cli.updE; rw [if_neg (by omega), if_neg (by simpa using hc19), if_pos (by simpa using hc35)]
            have hq : m.upd u = m := by unfold Cli.upd; rw [if_neg (by omega)]
            rw [he, hq]
            refine wc_seq ?_
            refine wc_region ?_
            refine wl (y_assign rfl) rfl ?_
            refine wl_nil ?_
            refine wc_ret ?_
            refine wret (vs := [_]) (.tmp rfl .nil) ?_
            first
            | exact ⟨M, _, Mle.refl _, rfl, hb0, hS.keep⟩
            | exact ⟨M1, _, hM1, rfl, hb0.mono hM1, hS.keep⟩
            | exact ⟨M2, _, hM1.trans hM2, rfl, hb0.mono (hM1.trans hM2), hS.keep⟩
            | (simp only [List.setIfInBounds_toArray, List.set_cons_zero, List.set_cons_succ, Nat.zero_add, Nat.add_zero, cells_agg, setCells] at hS
               exact ⟨M2, _, hM1.trans hM2, rfl, ⟨xs, sk, Hk, ys, sp, Hp, _, h1, h2.mono (hM1.trans hM2), h3, h4.mono (hM1.trans hM2), hr5, rfl⟩, hS.keep⟩)
          · try simp only [zq1, zq2, zq3, zq4, zq5, zq6, zq7] at hc35
            have he : m.updE u = 0 := by unfold Cli.updE; rw [if_neg (by omega), if_neg (by simpa using hc19), if_neg (by simpa using hc35)]
            have hq : m.upd u = { m with opn := m.opn ++ [u] } := by unfold Cli.upd; rw [if_pos he]
            rw [he, hq]
            refine wc_skip ?_
            refine wc_seq ?_
            refine wc_region ?_
            refine wl (y_move rfl) rfl ?_
            refine wl (y_move rfl) rfl ?_
            refine wl (y_nil rfl) rfl ?_
            refine wl (y_fld fl_168_6 rfl) rfl ?_
            refine a_store sz_46 rfl rfl rfl hS (Nat.le_of_ble_eq_true rfl) fun w hS => ?_
            refine wl_nil ?_
            refine wc_seq ?_
            refine wc_region ?_
            refine wl (y_assign rfl) rfl ?_
            refine wl_nil ?_
            refine wc_ret ?_
            refine wret (vs := [_]) (.tmp rfl .nil) ?_
            first
            | exact ⟨M, _, Mle.refl _, rfl, hb0, hS.keep⟩
            | exact ⟨M1, _, hM1, rfl, hb0.mono hM1, hS.keep⟩
            | exact ⟨M2, _, hM1.trans hM2, rfl, hb0.mono (hM1.trans hM2), hS.keep⟩
            | (simp only [List.setIfInBounds_toArray, List.set_cons_zero, List.set_cons_succ, Nat.zero_add, Nat.add_zero, cells_agg, setCells] at hS
               exact ⟨M2, _, hM1.trans hM2, rfl, ⟨xs, sk, Hk, ys, sp, Hp, _, h1, h2.mono (hM1.trans hM2), h3, h4.mono (hM1.trans hM2), hr5, rfl⟩, hS.keep⟩)
      ·  -- 7 first
        refine a_bslice encU [u] Tryz.underlying46 sz_59 z_59 rfl (.cons rfl .nil) rfl rfl rfl (by decide) hS rfl fun u4 H4 w ho4 hS => ?_
        refine wl_nil ⟨fun _ _ => ⟨hS.cell rfl, hS.cells rfl⟩, ?_⟩
        refine dr_do (i := 0) (lb 10 223) rfl (by kernel_rfl) ?_
        refine a_bslice encU [] (vs := []) (ps := []) Tryz.underlying46 sz_59 z_59 rfl .nil rfl rfl rfl (by decide) hS rfl fun u2 H2 w ho2 hS => ?_
        refine wl_nil ⟨fun _ _ => ⟨hS.cell rfl, hS.cells rfl⟩, ?_⟩
        refine dr_do (i := 5) (lb 10 255) rfl (by kernel_rfl) ?_
        refine a_append Tryz.underlying46 Tryz.underlying46 sz_59 z_59 rfl by_59 (by decide) rfl rfl ho2 ((h5.mono hM1).holds hS) hS (by simp; omega) rfl fun s3 H3 w ho3 hS => ?_
        rw [List.nil_append] at ho3
        refine wl_nil ⟨fun _ _ => ⟨hS.cell rfl, hS.cells rfl⟩, ?_⟩
        refine dr_do (i := 8) (lb 10 511) rfl (by kernel_rfl) ?_
        refine a_append Tryz.underlying46 Tryz.underlying46 sz_59 z_59 rfl by_59 (by decide) rfl rfl ho3 (ho4.holds (hS.pull H4)) hS (by simp; omega) rfl fun s5 H5 w ho5 hS => ?_
        refine wl_nil ⟨fun _ _ => ⟨hS.cell rfl, hS.cells rfl⟩, ?_⟩
        refine dr_pure (i := 9) (lb 10 1023) rfl rfl (by kernel_rfl) (fun w => y_assign rfl) ?_
        refine dr_done (by kernel_rfl) ?_
        obtain ⟨M2, hM2, hH5, hS⟩ := hS.freeze
        have hr5 := ho5.rd hH5
        obtain ⟨ma, mc, rfl⟩ := (hr5.holds hS).slice
        refine wc_seq ?_
        refine wc_seq ?_
        refine wc_region ?_
        refine wl (y_move rfl) rfl ?_
        refine wl (y_move rfl) rfl ?_
        refine wl (y_nil rfl) rfl ?_
        refine wl (y_fld fl_168_2 rfl) rfl ?_
        refine wl (y_load pl_3 rfl (hS.cell (v := .int .i64 m.mtu) rfl)) rfl ?_
        refine wl_call (.cons rfl (.cons rfl .nil)) (fits_c ((hG.mono hM1).mono hM2) (m.opn ++ [u]) m.mtu _ (by omega) hr5 hS) rfl ?_
        rintro _ w ⟨rfl, hS⟩
        refine wl (y_not rfl) rfl ?_
        refine wl_nil ?_
        refine wc_if rfl (fun hc35 => ?_) (fun hc35 => ?_)
        · try simp only [zq1, zq2, zq3, zq4, zq5, zq6, zq7] at hc35
          have he : m.updE u = 7 := by unfold Cli.updE; rw [if_neg (by omega), if_neg (by simpa using hc19), if_pos (by simpa using hc35)]
          have hq : m.upd u = m := by unfold Cli.upd; rw [if_neg (by omega)]
          rw [he, hq]
          refine wc_seq ?_
          refine wc_region ?_
          refine wl (y_assign rfl) rfl ?_
          refine wl_nil ?_
          refine wc_ret ?_
          refine wret (vs := [_]) (.tmp rfl .nil) ?_
          first
          | exact ⟨M, _, Mle.refl _, rfl, hb0, hS.keep⟩
          | exact ⟨M1, _, hM1, rfl, hb0.mono hM1, hS.keep⟩
          | exact ⟨M2, _, hM1.trans hM2, rfl, hb0.mono (hM1.trans hM2), hS.keep⟩
          | (simp only [List.setIfInBounds_toArray, List.set_cons_zero, List.set_cons_succ, Nat.zero_add, Nat.add_zero, cells_agg, setCells] at hS
             exact ⟨M2, _, hM1.trans hM2, rfl, ⟨xs, sk, Hk, ys, sp, Hp, _, h1, h2.mono (hM1.trans hM2), h3, h4.mono (hM1.trans hM2), hr5, rfl⟩, hS.keep⟩)
        · try simp only [zq1, zq2, zq3, zq4, zq5, zq6, zq7] at hc35
          have he : m.updE u = 0 := by unfold Cli.updE; rw [if_neg (by omega), if_neg (by simpa using hc19), if_neg (by simpa using hc35)]
          have hq : m.upd u = { m with opn := m.opn ++ [u] } := by unfold Cli.upd; rw [if_pos he]
          rw [he, hq]
          refine wc_skip ?_
          refine wc_seq ?_
          refine wc_region ?_
          refine wl (y_move rfl) rfl ?_
          refine wl (y_move rfl) rfl ?_
          refine wl (y_nil rfl) rfl ?_
          refine wl (y_fld fl_168_6 rfl) rfl ?_
          refine a_store sz_46 rfl rfl rfl hS (Nat.le_of_ble_eq_true rfl) fun w hS => ?_
          refine wl_nil ?_
          refine wc_seq ?_
          refine wc_region ?_
          refine wl (y_assign rfl) rfl ?_
          refine wl_nil ?_
          refine wc_ret ?_
          refine wret (vs := [_]) (.tmp rfl .nil) ?_
          first
          | exact ⟨M, _, Mle.refl _, rfl, hb0, hS.keep⟩
          | exact ⟨M1, _, hM1, rfl, hb0.mono hM1, hS.keep⟩
          | exact ⟨M2, _, hM1.trans hM2, rfl, hb0.mono (hM1.trans hM2), hS.keep⟩
          | (simp only [List.setIfInBounds_toArray, List.set_cons_zero, List.set_cons_succ, Nat.zero_add, Nat.add_zero, cells_agg, setCells] at hS
             exact ⟨M2, _, hM1.trans hM2, rfl, ⟨xs, sk, Hk, ys, sp, Hp, _, h1, h2.mono (hM1.trans hM2), h3, h4.mono (hM1.trans hM2), hr5, rfl⟩, hS.keep⟩)
end
end Go.Proofs.YtndahppmjdbifaaGreatDoor.Cli

set_option linter.unusedVariables false
set_option linter.unusedSimpArgs false
namespace Go.Proofs.YtndahppmjdbifaaGreatDoor.Cli
open Go Go.Proofs Go.Proofs.YtndahppmjdbifaaGreatDoor.Eng Go.Proofs.YtndahppmjdbifaaGreatDoor.Pre Go.Proofs.YtndahppmjdbifaaGreatDoor.Val Go.Proofs.YtndahppmjdbifaaGreatDoor.Rou Go.Proofs.YtndahppmjdbifaaGreatDoor.Jnl Go.Proofs.YtndahppmjdbifaaGreatDoor.Snd
section
variable {M : Mem} {w : World} {Ls : List Chunk}
theorem cpush_c {p jp : Nat} {m : Cli} {j : Jnl} {H Hj : Chunk} (hpl : m.pending.length ≤ 137438953) (hjl : j.l.length ≤ 137438953472) (hl : m.opn.length ≤ 13743895) (hb : IsC M p jp m H) (hj : IsJ M jp j Hj) (hS : St M w (H :: Hj :: Ls)) :
    CallsR Tryz.prog 91 [.pointer (some ⟨p, 0, none⟩)].toArray w fun v w' => ∃ M' s' H' Hj', Mle M M' ∧ Rd M' encU s' (m.pushR j).ups ∧ v = .tuple [rvS (m.pushR j) s', .int .i64 (m.pushE j)].toArray ∧ IsC M' p jp (m.pushC j) H' ∧ IsJ M' jp (m.pushJ j) Hj' ∧ St M' w' (H' :: Hj' :: Ls) := by
  have hb0 := hb
  obtain ⟨xs, sk, Hk, ys, sp, Hp, so, h1, h2, h3, h4, h5, rfl⟩ := hb
  have e4 := h4.len
  replace hS := hS.un2
  obtain ⟨oa, oc, rfl⟩ := (h5.holds hS).slice
  obtain ⟨pa, pc, rfl⟩ := h3.slice
  have hne : ∀ e : Nat, m.pushE j = e → e ≠ 0 → m.pushR j = ⟨0, 0, []⟩ ∧ m.pushC j = m ∧ m.pushJ j = j := by
    intro e he h0
    unfold Cli.pushR Cli.pushC Cli.pushJ
    rw [if_neg (by omega), if_neg (by omega), if_neg (by omega)]
    exact ⟨rfl, rfl, rfl⟩
  refine calls_of (c := _) (rs := _) (n := 57) Tryz.func91 rfl rfl rfl rfl rfl ?_
  refine wc_seq ?_
  refine wc_region ?_
  refine a_alloc z_48 hS rfl fun b2 w hS => ?_
  refine wl (y_assign rfl) rfl ?_
  refine wl_nil ?_
  refine wc_seq ?_
  refine wc_block ?_
  refine wc_seq ?_
  refine wc_region ?_
  refine wl (y_move rfl) rfl ?_
  refine wl (y_nil rfl) rfl ?_
  refine wl (y_fld fl_168_6 rfl) rfl ?_
  refine wl (y_load pl_46 rfl (hS.cell (v := .slice oa m.opn.length oc) rfl)) rfl ?_
  refine wl (y_len_sl Tryz.underlying46 rfl) rfl ?_
  refine wl (y_eql rfl rfl) rfl ?_
  refine wl (y_assign rfl) rfl ?_
  refine wl_nil ?_
  refine wc_if rfl (fun hc6 => ?_) (fun hc6 => ?_)
  · try simp only [zq1, zq2, zq3, zq4, zq5, zq6, zq7] at hc6
    have he : m.pushE j = 11 := by unfold Cli.pushE; rw [if_pos (by omega)]
    obtain ⟨q1, q2, q3⟩ := hne _ he (by decide)
    rw [he, q1, q2, q3]
    refine wc_seq ?_
    refine wc_region ?_
    refine wl (y_build (is := []) (xs := []) (out := [_, _, _]) plc_48 z_48 .nil rfl) rfl ?_
    refine a_storeS (vs := [_, _, _]) sz_48 rfl rfl rfl rfl hS (Nat.le_of_ble_eq_true rfl) fun w hS => ?_
    refine wl (y_assign rfl) rfl ?_
    refine wl_nil ?_
    refine wc_ret ?_
    refine wret (vs := [_, _]) (.cell rfl (loadVar_struct st_48 sz_48 (vs := [_, _, _]) rfl (hS.cells rfl)) (.tmp rfl .nil)) ?_
    first
    | exact ⟨M, _, _, _, Mle.refl _, Rd.nil, rfl, hb0, hj, hS.keep⟩
    | exact ⟨M1, _, _, _, hM1, Rd.nil, rfl, hb0.mono hM1, hj1, hS.keep⟩
    | (simp only [List.setIfInBounds_toArray, List.set_cons_zero, List.set_cons_succ, Nat.zero_add, Nat.add_zero, cells_agg, setCells] at hS
       exact ⟨M2, _, _, _, hM1.trans hM2, hs1.mono hM2, rfl, ⟨_, _, _, _, _, _, _, h1, h2.mono (hM1.trans hM2), ho3, ((h4.mono hM1).mono hM2).append (.cons (x := ⟨(j.next m.opn).o, (j.next m.opn).n, sa2, m.opn.length, sc2⟩) ⟨rfl, rfl, hs2, show m.opn.length ≤ 137438953472 by omega⟩ .nil), Rd.nil (a := none) (c := 0), rfl⟩, hj1.mono hM2, hS.keep⟩)
  · try simp only [zq1, zq2, zq3, zq4, zq5, zq6, zq7] at hc6
    refine wc_seq ?_
    refine wc_draw (l0 := (lb 11 0)) (fun w => w.cell? ⟨p, 5, none⟩ = some (.slice pa ys.length pc) ∧ w.cell? ⟨p, 3, none⟩ = some (.int .i64 m.push)) [] wide_ rfl rfl fun w hw => ?_
    replace hS := hS.same hw; clear hw
    refine dr_pure (i := 0) (lb 11 1) rfl rfl (by kernel_rfl) (fun w => y_move rfl) ?_
    refine dr_pure (i := 1) (lb 11 3) rfl rfl (by kernel_rfl) (fun w => y_nil rfl) ?_
    refine dr_pure (i := 2) (lb 11 7) rfl rfl (by kernel_rfl) (fun w => y_fld fl_168_5 rfl) ?_
    refine dr_pure (i := 5) (lb 11 39) rfl rfl (by kernel_rfl) (fun w => y_move rfl) ?_
    refine dr_pure (i := 6) (lb 11 103) rfl rfl (by kernel_rfl) (fun w => y_nil rfl) ?_
    refine dr_pure (i := 7) (lb 11 231) rfl rfl (by kernel_rfl) (fun w => y_fld fl_168_3 rfl) ?_
    refine dr_read (i := 3) (lb 11 239) rfl rfl (by kernel_rfl) ⟨hS.cell rfl, hS.cell rfl⟩ (fun w hS => y_load pl_32 rfl hS.1) ?_
    refine dr_pure (i := 4) (lb 11 255) rfl rfl (by kernel_rfl) (fun w => y_len_sl Tryz.underlying32 rfl) ?_
    refine dr_read (i := 8) (lb 11 511) rfl rfl (by kernel_rfl) ⟨hS.cell rfl, hS.cell rfl⟩ (fun w hS => y_load pl_3 rfl hS.2) ?_
    refine dr_pure (i := 9) (lb 11 1023) rfl rfl (by kernel_rfl) (fun w => y_geq rfl rfl) ?_
    refine dr_pure (i := 10) (lb 11 2047) rfl rfl (by kernel_rfl) (fun w => y_assign rfl) ?_
    refine dr_done (by kernel_rfl) ?_
    refine wc_if rfl (fun hc14 => ?_) (fun hc14 => ?_)
    · try simp only [zq1, zq2, zq3, zq4, zq5, zq6, zq7] at hc14
      have he : m.pushE j = 7 := by unfold Cli.pushE; rw [if_neg (by omega), if_pos (by omega)]
      obtain ⟨q1, q2, q3⟩ := hne _ he (by decide)
      rw [he, q1, q2, q3]
      refine wc_seq ?_
      refine wc_region ?_
      refine wl (y_build (is := []) (xs := []) (out := [_, _, _]) plc_48 z_48 .nil rfl) rfl ?_
      refine a_storeS (vs := [_, _, _]) sz_48 rfl rfl rfl rfl hS (Nat.le_of_ble_eq_true rfl) fun w hS => ?_
      refine wl (y_assign rfl) rfl ?_
      refine wl_nil ?_
      refine wc_ret ?_
      refine wret (vs := [_, _]) (.cell rfl (loadVar_struct st_48 sz_48 (vs := [_, _, _]) rfl (hS.cells rfl)) (.tmp rfl .nil)) ?_
      first
      | exact ⟨M, _, _, _, Mle.refl _, Rd.nil, rfl, hb0, hj, hS.keep⟩
      | exact ⟨M1, _, _, _, hM1, Rd.nil, rfl, hb0.mono hM1, hj1, hS.keep⟩
      | (simp only [List.setIfInBounds_toArray, List.set_cons_zero, List.set_cons_succ, Nat.zero_add, Nat.add_zero, cells_agg, setCells] at hS
         exact ⟨M2, _, _, _, hM1.trans hM2, hs1.mono hM2, rfl, ⟨_, _, _, _, _, _, _, h1, h2.mono (hM1.trans hM2), ho3, ((h4.mono hM1).mono hM2).append (.cons (x := ⟨(j.next m.opn).o, (j.next m.opn).n, sa2, m.opn.length, sc2⟩) ⟨rfl, rfl, hs2, show m.opn.length ≤ 137438953472 by omega⟩ .nil), Rd.nil (a := none) (c := 0), rfl⟩, hj1.mono hM2, hS.keep⟩)
    · try simp only [zq1, zq2, zq3, zq4, zq5, zq6, zq7] at hc14
      have hea : m.pushE j = j.addE m.opn := by unfold Cli.pushE; rw [if_neg (by omega), if_neg (by omega)]
      refine wc_skip ?_
      refine wc_seq ?_
      refine wc_draw (l0 := (lb 15 0)) (fun w => w.cell? ⟨p, 0, none⟩ = some (.pointer (some ⟨jp, 0, none⟩)) ∧ w.cell? ⟨p, 6, none⟩ = some (.slice oa m.opn.length oc)) [13, 14] wide_ rfl rfl fun w hw => ?_
      replace hS := hS.same hw; clear hw
      refine dr_pure (i := 0) (lb 15 1) rfl rfl (by kernel_rfl) (fun w => y_move rfl) ?_
      refine dr_pure (i := 1) (lb 15 3) rfl rfl (by kernel_rfl) (fun w => y_nil rfl) ?_
      refine dr_pure (i := 2) (lb 15 7) rfl rfl (by kernel_rfl) (fun w => y_fld fl_168_0 rfl) ?_
      refine dr_pure (i := 4) (lb 15 23) rfl rfl (by kernel_rfl) (fun w => y_move rfl) ?_
      refine dr_pure (i := 5) (lb 15 55) rfl rfl (by kernel_rfl) (fun w => y_nil rfl) ?_
      refine dr_pure (i := 6) (lb 15 119) rfl rfl (by kernel_rfl) (fun w => y_fld fl_168_6 rfl) ?_
      refine dr_read (i := 3) (lb 15 127) rfl rfl (by kernel_rfl) ⟨hS.cell rfl, hS.cell rfl⟩ (fun w hS => y_load pl_93 rfl hS.1) ?_
      refine dr_read (i := 7) (lb 15 255) rfl rfl (by kernel_rfl) ⟨hS.cell rfl, hS.cell rfl⟩ (fun w hS => y_load pl_46 rfl hS.2) ?_
      refine dr_do2 (i := 8) (j := 12) (lb 15 511) (lb 15 4351) rfl rfl (by kernel_rfl) ?_ ?_
      ·  -- 8 first
        refine wl_call (.cons rfl (.cons rfl .nil)) (jadd_c m.opn _ h5 (by omega) hjl hj (hS.pull Hj)) rfl ?_
        rintro _ w ⟨M1, s1, Hj1, hM1, hs1, rfl, hj1, hS⟩
        obtain ⟨sa1, sc1, rfl⟩ := (hs1.holds hS).slice
        refine wl_nil ⟨fun _ _ => ⟨hS.cell rfl, hS.cell rfl⟩, ?_⟩
        refine dr_pure (i := 9) (lb 15 1023) rfl rfl (by kernel_rfl) (fun w => y_move rfl) ?_
        refine dr_pure (i := 10) (lb 15 2047) rfl rfl (by kernel_rfl) (fun w => y_extract (vs := [_, _]) rfl rfl) ?_
        refine dr_pure (i := 11) (lb 15 4095) rfl rfl (by kernel_rfl) (fun w => y_extract (vs := [_, _]) rfl rfl) ?_
        refine dr_do (i := 12) (lb 15 8191) rfl (by kernel_rfl) ?_
        refine a_alloc z_48 hS rfl fun b4 w hS => ?_
        refine wl_nil ⟨fun _ _ => ⟨hS.cell rfl, hS.cell rfl⟩, ?_⟩
        refine dr_do (i := 13) (lb 15 16383) rfl (by kernel_rfl) ?_
        refine a_storeS (vs := [_, _, _]) sz_48 rfl rfl rfl rfl hS (Nat.le_of_ble_eq_true rfl) fun w hS => ?_
        refine wl_nil ⟨fun h => absurd (by decide) h, ?_⟩
        refine dr_pure (i := 14) (lb 15 32767) rfl rfl (by kernel_rfl) (fun w => y_assign rfl) ?_
        refine dr_done (by kernel_rfl) ?_
        refine wc_seq ?_
        refine wc_seq ?_
        refine wc_region ?_
        refine wl (y_move rfl) rfl ?_
        refine wl (y_neq rfl rfl) rfl ?_
        refine wl_nil ?_
        refine wc_if rfl (fun hc39 => ?_) (fun hc39 => ?_)
        · try simp only [zq1, zq2, zq3, zq4, zq5, zq6, zq7] at hc39
          obtain ⟨q1, q2, q3⟩ := hne _ hea (by omega)
          have hja : j.add m.opn = j := by unfold Jnl.add; rw [if_neg (by omega)]
          rw [hja] at hj1
          rw [hea, q1, q2, q3]
          refine wc_seq ?_
          refine wc_region ?_
          refine wl (y_build (is := []) (xs := []) (out := [_, _, _]) plc_48 z_48 .nil rfl) rfl ?_
          refine wl (y_move rfl) rfl ?_
          refine a_storeS (vs := [_, _, _]) sz_48 rfl rfl rfl rfl hS (Nat.le_of_ble_eq_true rfl) fun w hS => ?_
          refine wl (y_assign rfl) rfl ?_
          refine wl_nil ?_
          refine wc_ret ?_
          refine wret (vs := [_, _]) (.cell rfl (loadVar_struct st_48 sz_48 (vs := [_, _, _]) rfl (hS.cells rfl)) (.tmp rfl .nil)) ?_
          first
          | exact ⟨M, _, _, _, Mle.refl _, Rd.nil, rfl, hb0, hj, hS.keep⟩
          | exact ⟨M1, _, _, _, hM1, Rd.nil, rfl, hb0.mono hM1, hj1, hS.keep⟩
          | (simp only [List.setIfInBounds_toArray, List.set_cons_zero, List.set_cons_succ, Nat.zero_add, Nat.add_zero, cells_agg, setCells] at hS
             exact ⟨M2, _, _, _, hM1.trans hM2, hs1.mono hM2, rfl, ⟨_, _, _, _, _, _, _, h1, h2.mono (hM1.trans hM2), ho3, ((h4.mono hM1).mono hM2).append (.cons (x := ⟨(j.next m.opn).o, (j.next m.opn).n, sa2, m.opn.length, sc2⟩) ⟨rfl, rfl, hs2, show m.opn.length ≤ 137438953472 by omega⟩ .nil), Rd.nil (a := none) (c := 0), rfl⟩, hj1.mono hM2, hS.keep⟩)
        · try simp only [zq1, zq2, zq3, zq4, zq5, zq6, zq7] at hc39
          have hz : j.addE m.opn = 0 := by omega
          rw [if_pos hz] at hs1
          rw [if_pos hz, if_pos hz] at hS
          have q1 : m.pushR j = j.next m.opn := by unfold Cli.pushR; rw [if_pos (by omega)]
          have q2 : m.pushC j = { m with opn := [], pending := m.pending ++ [j.next m.opn] } := by unfold Cli.pushC; rw [if_pos (by omega)]
          have q3 : m.pushJ j = j.add m.opn := by unfold Cli.pushJ; rw [if_pos (by omega)]
          rw [hea, q1, q2, q3, hz]
          refine wc_skip ?_
          refine wc_seq ?_
          refine wc_region ?_
          refine wl (y_move rfl) rfl ?_
          refine wl (y_nil rfl) rfl ?_
          refine wl (y_fld fl_168_6 rfl) rfl ?_
          refine a_store sz_46 rfl rfl rfl hS (Nat.le_of_ble_eq_true rfl) fun w hS => ?_
          refine wl_nil ?_
          refine wc_seq ?_
          refine wc_draw (l0 := (lb 12 0)) (fun w => w.cell? ⟨p, 5, none⟩ = some (.slice pa ys.length pc) ∧ CellsAt w b4 0 [.int .i64 (j.next m.opn).o, .int .i64 (j.next m.opn).n, .slice sa1 m.opn.length sc1]) [8, 11] wide_ rfl rfl fun w hw => ?_
          replace hS := hS.same hw; clear hw
          refine dr_pure (i := 0) (lb 12 1) rfl rfl (by kernel_rfl) (fun w => y_move rfl) ?_
          refine dr_pure (i := 1) (lb 12 3) rfl rfl (by kernel_rfl) (fun w => y_move rfl) ?_
          refine dr_pure (i := 2) (lb 12 7) rfl rfl (by kernel_rfl) (fun w => y_nil rfl) ?_
          refine dr_pure (i := 3) (lb 12 15) rfl rfl (by kernel_rfl) (fun w => y_fld fl_168_5 rfl) ?_
          refine dr_read (i := 4) (lb 12 31) rfl rfl (by kernel_rfl) ⟨hS.cell rfl, hS.cells rfl⟩ (fun w hS => y_load pl_32 rfl hS.1) ?_
          refine dr_read (i := 5) (lb 12 63) rfl rfl (by kernel_rfl) ⟨hS.cell rfl, hS.cells rfl⟩ (fun w hS => y_loadS st_48 sz_48 rfl hS.2 rfl) ?_
          refine dr_do (i := 6) (lb 12 127) rfl (by kernel_rfl) ?_
          refine wl_call (.cons rfl .nil) (rcopy_c (j.next m.opn) (.slice sa1 m.opn.length sc1) (show m.opn.length ≤ 137438953472 by omega) hs1 hS) rfl ?_
          rintro _ w ⟨M2, s2, rfl, hM2, hs2, hS⟩
          obtain ⟨sa2, sc2, rfl⟩ := (hs2.holds hS).slice
          refine wl_nil ⟨fun _ _ => ⟨hS.cell rfl, hS.cells rfl⟩, ?_⟩
          refine dr_do (i := 7) (lb 12 255) rfl (by kernel_rfl) ?_
          refine a_bslice encRV [⟨(j.next m.opn).o, (j.next m.opn).n, sa2, m.opn.length, sc2⟩] Tryz.underlying32 sz_48 z_48 rfl (.cons rfl .nil) rfl rfl rfl (by decide) hS rfl fun u Hu w hou hS => ?_
          refine wl_nil ⟨fun _ _ => ⟨hS.cell rfl, hS.cells rfl⟩, ?_⟩
          refine dr_do (i := 8) (lb 12 511) rfl (by kernel_rfl) ?_
          refine a_append Tryz.underlying32 Tryz.underlying32 sz_48 z_48 rfl by_48 (by decide) rfl rfl h3 (hou.holds hS) hS (by simp; omega) rfl fun s3 H3 w ho3 hS => ?_
          obtain ⟨sa3, sc3, rfl⟩ := ho3.slice
          refine wl_nil ⟨fun h => absurd (by decide) h, ?_⟩
          refine dr_pure (i := 9) (lb 12 1023) rfl rfl (by kernel_rfl) (fun w => y_nil rfl) ?_
          refine dr_pure (i := 10) (lb 12 2047) rfl rfl (by kernel_rfl) (fun w => y_fld fl_168_5 rfl) ?_
          refine dr_do (i := 11) (lb 12 4095) rfl (by kernel_rfl) ?_
          refine a_store sz_32 rfl rfl rfl hS (Nat.le_of_ble_eq_true rfl) fun w hS => ?_
          refine wl_nil ⟨fun h => absurd (by decide) h, ?_⟩
          refine dr_done (by kernel_rfl) ?_
          refine wc_seq ?_
          refine wc_region ?_
          refine wl (y_loadS st_48 sz_48 rfl (hS.cells (vs := [_, _, _]) rfl) rfl) rfl ?_
          refine a_storeS (vs := [_, _, _]) sz_48 rfl rfl rfl rfl hS (Nat.le_of_ble_eq_true rfl) fun w hS => ?_
          refine wl (y_assign rfl) rfl ?_
          refine wl_nil ?_
          refine wc_ret ?_
          refine wret (vs := [_, _]) (.cell rfl (loadVar_struct st_48 sz_48 (vs := [_, _, _]) rfl (hS.cells rfl)) (.tmp rfl .nil)) ?_
          first
          | exact ⟨M, _, _, _, Mle.refl _, Rd.nil, rfl, hb0, hj, hS.keep⟩
          | exact ⟨M1, _, _, _, hM1, Rd.nil, rfl, hb0.mono hM1, hj1, hS.keep⟩
          | (simp only [List.setIfInBounds_toArray, List.set_cons_zero, List.set_cons_succ, Nat.zero_add, Nat.add_zero, cells_agg, setCells] at hS
             exact ⟨M2, _, _, _, hM1.trans hM2, hs1.mono hM2, rfl, ⟨_, _, _, _, _, _, _, h1, h2.mono (hM1.trans hM2), ho3, ((h4.mono hM1).mono hM2).append (.cons (x := ⟨(j.next m.opn).o, (j.next m.opn).n, sa2, m.opn.length, sc2⟩) ⟨rfl, rfl, hs2, show m.opn.length ≤ 137438953472 by omega⟩ .nil), Rd.nil (a := none) (c := 0), rfl⟩, hj1.mono hM2, hS.keep⟩)
      ·  -- 12 first
        refine a_alloc z_48 hS rfl fun b4 w hS => ?_
        refine wl_nil ⟨fun _ _ => ⟨hS.cell rfl, hS.cell rfl⟩, ?_⟩
        refine dr_do (i := 8) (lb 15 4607) rfl (by kernel_rfl) ?_
        refine wl_call (.cons rfl (.cons rfl .nil)) (jadd_c m.opn _ h5 (by omega) hjl hj (hS.pull Hj)) rfl ?_
        rintro _ w ⟨M1, s1, Hj1, hM1, hs1, rfl, hj1, hS⟩
        obtain ⟨sa1, sc1, rfl⟩ := (hs1.holds hS).slice
        refine wl_nil ⟨fun _ _ => ⟨hS.cell rfl, hS.cell rfl⟩, ?_⟩
        refine dr_pure (i := 9) (lb 15 5119) rfl rfl (by kernel_rfl) (fun w => y_move rfl) ?_
        refine dr_pure (i := 10) (lb 15 6143) rfl rfl (by kernel_rfl) (fun w => y_extract (vs := [_, _]) rfl rfl) ?_
        refine dr_pure (i := 11) (lb 15 8191) rfl rfl (by kernel_rfl) (fun w => y_extract (vs := [_, _]) rfl rfl) ?_
        refine dr_do (i := 13) (lb 15 16383) rfl (by kernel_rfl) ?_
        refine a_storeS (vs := [_, _, _]) sz_48 rfl rfl rfl rfl hS (Nat.le_of_ble_eq_true rfl) fun w hS => ?_
        refine wl_nil ⟨fun h => absurd (by decide) h, ?_⟩
        refine dr_pure (i := 14) (lb 15 32767) rfl rfl (by kernel_rfl) (fun w => y_assign rfl) ?_
        refine dr_done (by kernel_rfl) ?_
        refine wc_seq ?_
        refine wc_seq ?_
        refine wc_region ?_
        refine wl (y_move rfl) rfl ?_
        refine wl (y_neq rfl rfl) rfl ?_
        refine wl_nil ?_
        refine wc_if rfl (fun hc39 => ?_) (fun hc39 => ?_)
        · try simp only [zq1, zq2, zq3, zq4, zq5, zq6, zq7] at hc39
          obtain ⟨q1, q2, q3⟩ := hne _ hea (by omega)
          have hja : j.add m.opn = j := by unfold Jnl.add; rw [if_neg (by omega)]
          rw [hja] at hj1
          rw [hea, q1, q2, q3]
          refine wc_seq ?_
          refine wc_region ?_
          refine wl (y_build (is := []) (xs := []) (out := [_, _, _]) plc_48 z_48 .nil rfl) rfl ?_
          refine wl (y_move rfl) rfl ?_
          refine a_storeS (vs := [_, _, _]) sz_48 rfl rfl rfl rfl hS (Nat.le_of_ble_eq_true rfl) fun w hS => ?_
          refine wl (y_assign rfl) rfl ?_
          refine wl_nil ?_
          refine wc_ret ?_
          refine wret (vs := [_, _]) (.cell rfl (loadVar_struct st_48 sz_48 (vs := [_, _, _]) rfl (hS.cells rfl)) (.tmp rfl .nil)) ?_
          first
          | exact ⟨M, _, _, _, Mle.refl _, Rd.nil, rfl, hb0, hj, hS.keep⟩
          | exact ⟨M1, _, _, _, hM1, Rd.nil, rfl, hb0.mono hM1, hj1, hS.keep⟩
          | (simp only [List.setIfInBounds_toArray, List.set_cons_zero, List.set_cons_succ, Nat.zero_add, Nat.add_zero, cells_agg, setCells] at hS
             exact ⟨M2, _, _, _, hM1.trans hM2, hs1.mono hM2, rfl, ⟨_, _, _, _, _, _, _, h1, h2.mono (hM1.trans hM2), ho3, ((h4.mono hM1).mono hM2).append (.cons (x := ⟨(j.next m.opn).o, (j.next m.opn).n, sa2, m.opn.length, sc2⟩) ⟨rfl, rfl, hs2, show m.opn.length ≤ 137438953472 by omega⟩ .nil), Rd.nil (a := none) (c := 0), rfl⟩, hj1.mono hM2, hS.keep⟩)
        · try simp only [zq1, zq2, zq3, zq4, zq5, zq6, zq7] at hc39
          have hz : j.addE m.opn = 0 := by omega
          rw [if_pos hz] at hs1
          rw [if_pos hz, if_pos hz] at hS
          have q1 : m.pushR j = j.next m.opn := by unfold Cli.pushR; rw [if_pos (by omega)]
          have q2 : m.pushC j = { m with opn := [], pending := m.pending ++ [j.next m.opn] } := by unfold Cli.pushC; rw [if_pos (by omega)]
          have q3 : m.pushJ j = j.add m.opn := by unfold Cli.pushJ; rw [if_pos (by omega)]
          rw [hea, q1, q2, q3, hz]
          refine wc_skip ?_
          refine wc_seq ?_
          refine wc_region ?_
          refine wl (y_move rfl) rfl ?_
          refine wl (y_nil rfl) rfl ?_
          refine wl (y_fld fl_168_6 rfl) rfl ?_
          refine a_store sz_46 rfl rfl rfl hS (Nat.le_of_ble_eq_true rfl) fun w hS => ?_
          refine wl_nil ?_
          refine wc_seq ?_
          refine wc_draw (l0 := (lb 12 0)) (fun w => w.cell? ⟨p, 5, none⟩ = some (.slice pa ys.length pc) ∧ CellsAt w b4 0 [.int .i64 (j.next m.opn).o, .int .i64 (j.next m.opn).n, .slice sa1 m.opn.length sc1]) [8, 11] wide_ rfl rfl fun w hw => ?_
          replace hS := hS.same hw; clear hw
          refine dr_pure (i := 0) (lb 12 1) rfl rfl (by kernel_rfl) (fun w => y_move rfl) ?_
          refine dr_pure (i := 1) (lb 12 3) rfl rfl (by kernel_rfl) (fun w => y_move rfl) ?_
          refine dr_pure (i := 2) (lb 12 7) rfl rfl (by kernel_rfl) (fun w => y_nil rfl) ?_
          refine dr_pure (i := 3) (lb 12 15) rfl rfl (by kernel_rfl) (fun w => y_fld fl_168_5 rfl) ?_
          refine dr_read (i := 4) (lb 12 31) rfl rfl (by kernel_rfl) ⟨hS.cell rfl, hS.cells rfl⟩ (fun w hS => y_load pl_32 rfl hS.1) ?_
          refine dr_read (i := 5) (lb 12 63) rfl rfl (by kernel_rfl) ⟨hS.cell rfl, hS.cells rfl⟩ (fun w hS => y_loadS st_48 sz_48 rfl hS.2 rfl) ?_
          refine dr_do (i := 6) (lb 12 127) rfl (by kernel_rfl) ?_
          refine wl_call (.cons rfl .nil) (rcopy_c (j.next m.opn) (.slice sa1 m.opn.length sc1) (show m.opn.length ≤ 137438953472 by omega) hs1 hS) rfl ?_
          rintro _ w ⟨M2, s2, rfl, hM2, hs2, hS⟩
          obtain ⟨sa2, sc2, rfl⟩ := (hs2.holds hS).slice
          refine wl_nil ⟨fun _ _ => ⟨hS.cell rfl, hS.cells rfl⟩, ?_⟩
          refine dr_do (i := 7) (lb 12 255) rfl (by kernel_rfl) ?_
          refine a_bslice encRV [⟨(j.next m.opn).o, (j.next m.opn).n, sa2, m.opn.length, sc2⟩] Tryz.underlying32 sz_48 z_48 rfl (.cons rfl .nil) rfl rfl rfl (by decide) hS rfl fun u Hu w hou hS => ?_
          refine wl_nil ⟨fun _ _ => ⟨hS.cell rfl, hS.cells rfl⟩, ?_⟩
          refine dr_do (i := 8) (lb 12 511) rfl (by kernel_rfl) ?_
          refine a_append Tryz.underlying32 Tryz.underlying32 sz_48 z_48 rfl by_48 (by decide) rfl rfl h3 (hou.holds hS) hS (by simp; omega) rfl fun s3 H3 w ho3 hS => ?_
          obtain ⟨sa3, sc3, rfl⟩ := ho3.slice
          refine wl_nil ⟨fun h => absurd (by decide) h, ?_⟩
          refine dr_pure (i := 9) (lb 12 1023) rfl rfl (by kernel_rfl) (fun w => y_nil rfl) ?_
          refine dr_pure (i := 10) (lb 12 2047) rfl rfl (by kernel_rfl) (fun w => y_fld fl_168_5 rfl) ?_
          refine dr_do (i := 11) (lb 12 4095) rfl (by kernel_rfl) ?_
          refine a_store sz_32 rfl rfl rfl hS (Nat.le_of_ble_eq_true rfl) fun w hS => ?_
          refine wl_nil ⟨fun h => absurd (by decide) h, ?_⟩
          refine dr_done (by kernel_rfl) ?_
          refine wc_seq ?_
          refine wc_region ?_
          refine wl (y_loadS st_48 sz_48 rfl (hS.cells (vs := [_, _, _]) rfl) rfl) rfl ?_
          refine a_storeS (vs := [_, _, _]) sz_48 rfl rfl rfl rfl hS (Nat.le_of_ble_eq_true rfl) fun w hS => ?_
          refine wl (y_assign rfl) rfl ?_
          refine wl_nil ?_
          refine wc_ret ?_
          refine wret (vs := [_, _]) (.cell rfl (loadVar_struct st_48 sz_48 (vs := [_, _, _]) rfl (hS.cells rfl)) (.tmp rfl .nil)) ?_
          first
          | exact ⟨M, _, _, _, Mle.refl _, Rd.nil, rfl, hb0, hj, hS.keep⟩
          | exact ⟨M1, _, _, _, hM1, Rd.nil, rfl, hb0.mono hM1, hj1, hS.keep⟩
          | (simp only [List.setIfInBounds_toArray, List.set_cons_zero, List.set_cons_succ, Nat.zero_add, Nat.add_zero, cells_agg, setCells] at hS
             exact ⟨M2, _, _, _, hM1.trans hM2, hs1.mono hM2, rfl, ⟨_, _, _, _, _, _, _, h1, h2.mono (hM1.trans hM2), ho3, ((h4.mono hM1).mono hM2).append (.cons (x := ⟨(j.next m.opn).o, (j.next m.opn).n, sa2, m.opn.length, sc2⟩) ⟨rfl, rfl, hs2, show m.opn.length ≤ 137438953472 by omega⟩ .nil), Rd.nil (a := none) (c := 0), rfl⟩, hj1.mono hM2, hS.keep⟩)
end
end Go.Proofs.YtndahppmjdbifaaGreatDoor.Cli

set_option linter.unusedVariables false
set_option linter.unusedSimpArgs false
namespace Go.Proofs.YtndahppmjdbifaaGreatDoor.Cli
open Go Go.Proofs Go.Proofs.YtndahppmjdbifaaGreatDoor.Eng Go.Proofs.YtndahppmjdbifaaGreatDoor.Pre Go.Proofs.YtndahppmjdbifaaGreatDoor.Val Go.Proofs.YtndahppmjdbifaaGreatDoor.Rou Go.Proofs.YtndahppmjdbifaaGreatDoor.Jnl Go.Proofs.YtndahppmjdbifaaGreatDoor.Snd
theorem _root_.Go.Proofs.YtndahppmjdbifaaGreatDoor.Eng.Holds.cellAt {α : Type} {A : Enc α} {w : World} {b off m c i j : Nat} {xs : List α} {x : α} {v : Value} (h : Holds w A (.slice (some ⟨b, off, none⟩) m c) xs) (hx : xs[i]? = some x) (hv : (A.f x)[j]? = some v) : w.cell? ⟨b, off + i * A.k + j, none⟩ = some v := by
  obtain ⟨b', off', c', hse, hce⟩ := h.at hx
  simp only [Value.slice.injEq, Option.some.injEq, Addr.mk.injEq] at hse
  obtain ⟨⟨rfl, rfl, _⟩, _⟩ := hse
  exact hce j v hv
section
variable {M : Mem} {w : World} {Ls : List Chunk}
theorem cresume_c {p jp : Nat} {m : Cli} {j : Jnl} {H Hj : Chunk} (hjl : j.l.length ≤ 137438953472) (hb : IsC M p jp m H) (hj : IsJ M jp j Hj) (hS : St M w (H :: Hj :: Ls)) :
    CallsR Tryz.prog 57 [.pointer (some ⟨p, 0, none⟩)].toArray w fun v w' => ∃ M' H', Mle M M' ∧ v = .tuple #[] ∧ IsC M' p jp (m.resume j) H' ∧ IsJ M' jp j Hj ∧ St M' w' (H' :: Hj :: Ls) := by
  obtain ⟨xs, sk, Hk, ys, sp, Hp, so, h1, h2, h3, h4, h5, rfl⟩ := hb
  replace hS := hS.un2
  refine calls_of (c := _) (rs := _) (n := 16) Tryz.func57 rfl rfl rfl rfl rfl ?_
  refine wc_region ?_
  refine wl (y_move rfl) rfl ?_
  refine wl (y_move rfl) rfl ?_
  refine wl (y_move rfl) rfl ?_
  refine wl (y_move rfl) rfl ?_
  refine wl (y_nil rfl) rfl ?_
  refine wl (y_fld fl_168_0 rfl) rfl ?_
  refine wl (y_load pl_93 rfl (hS.cell (v := .pointer (some ⟨jp, 0, none⟩)) rfl)) rfl ?_
  refine wl_call (.cons rfl (.cons rfl .nil)) (jfrom_c 0 hjl hj (hS.pull Hj)) rfl ?_
  rintro v w ⟨M1, zs, Hz, hM, ho, hr, hj1, hS⟩
  obtain ⟨za, zc, rfl⟩ := ho.slice
  refine wl (y_nil rfl) rfl ?_
  refine wl (y_fld fl_168_4 rfl) rfl ?_
  refine a_store sz_32 rfl rfl rfl hS (Nat.le_of_ble_eq_true rfl) fun w hS => ?_
  refine wl (y_nil rfl) rfl ?_
  refine wl (y_fld fl_168_6 rfl) rfl ?_
  refine a_store sz_46 rfl rfl rfl hS (Nat.le_of_ble_eq_true rfl) fun w hS => ?_
  refine wl (y_nil rfl) rfl ?_
  refine wl (y_fld fl_168_5 rfl) rfl ?_
  refine a_store sz_32 rfl rfl rfl hS (Nat.le_of_ble_eq_true rfl) fun w hS => ?_
  refine wl_nil ?_
  refine wretN (vs := []) .nil ?_
  simp only [List.setIfInBounds_toArray, List.set_cons_zero, List.set_cons_succ, Nat.zero_add, Nat.add_zero, cells_agg, setCells] at hS
  exact ⟨M1, _, hM, rfl, ⟨[], .slice none 0 0, [], zs, _, Hz, .slice none 0 0, .nil, .nil, ho, hr, .nil, rfl⟩, hj1, by have h := hS.keep (T := ((p, cliO jp m (.slice none 0 0) (.slice za zs.length zc) (.slice none 0 0)) :: Hz) :: Hj :: Ls); exact h⟩
theorem ctake_c {p jp : Nat} {m : Cli} {H : Chunk} (r : Rnd) (s : Value) (hul : r.ups.length ≤ 137438953472) (hs : Rd M encU s r.ups) (hkl : m.known.length ≤ 137438953) (hb : IsC M p jp m H) (hS : St M w (H :: Ls)) :
    CallsR Tryz.prog 82 [.pointer (some ⟨p, 0, none⟩), rvS r s].toArray w fun v w' => ∃ M' H', Mle M M' ∧ v = .int .i64 (m.takE r) ∧ IsC M' p jp (m.take r) H' ∧ St M' w' (H' :: Ls) := by
  have hb0 := hb
  have hs0 := hs
  obtain ⟨xs, sk, Hk, ys, sp, Hp, so, h1, h2, h3, h4, h5, rfl⟩ := hb
  have e2 := h2.len
  have e4 := h4.len
  replace hS := hS.un2
  obtain ⟨sa, sc, rfl⟩ := (hs.holds hS).slice
  obtain ⟨ka, kc, rfl⟩ := h1.slice
  obtain ⟨pa, pc, rfl⟩ := h3.slice
  by_cases ho : r.o = m.origin
  · cases hp : m.pending with
    | nil =>
      have he : m.takE r = 10 := by unfold Cli.takE; rw [if_pos ho, hp]
      have hq : m.take r = m := by unfold Cli.take; rw [if_neg (by omega)]
      rw [hp] at e4
      rw [he, hq]
      refine calls_of (c := _) (rs := _) (n := 49) Tryz.func82 rfl rfl rfl rfl rfl ?_
      refine wc_seq ?_
      refine wc_region ?_
      refine a_box rfl hS rfl fun b3 w hS => ?_
      refine wl (y_assign rfl) rfl ?_
      refine wl_nil ?_
      refine wc_seq ?_
      refine wc_seq ?_
      refine wc_draw (l0 := (lb 7 0)) (fun w => w.cell? ⟨b3, 0, none⟩ = some (.int .i64 r.o) ∧ w.cell? ⟨p, 1, none⟩ = some (.int .i64 m.origin)) [] wide_ rfl rfl fun w hw => ?_
      replace hS := hS.same hw; clear hw
      refine dr_pure (i := 0) (lb 7 1) rfl rfl (by kernel_rfl) (fun w => y_fld fl_48_0 rfl) ?_
      refine dr_pure (i := 2) (lb 7 5) rfl rfl (by kernel_rfl) (fun w => y_move rfl) ?_
      refine dr_pure (i := 3) (lb 7 13) rfl rfl (by kernel_rfl) (fun w => y_nil rfl) ?_
      refine dr_pure (i := 4) (lb 7 29) rfl rfl (by kernel_rfl) (fun w => y_fld fl_168_1 rfl) ?_
      refine dr_read (i := 1) (lb 7 31) rfl rfl (by kernel_rfl) ⟨hS.cell rfl, hS.cell rfl⟩ (fun w hS => y_load pl_3 rfl hS.1) ?_
      refine dr_read (i := 5) (lb 7 63) rfl rfl (by kernel_rfl) ⟨hS.cell rfl, hS.cell rfl⟩ (fun w hS => y_load pl_3 rfl hS.2) ?_
      refine dr_pure (i := 6) (lb 7 127) rfl rfl (by kernel_rfl) (fun w => y_eql rfl rfl) ?_
      refine dr_done (by kernel_rfl) ?_
      refine wc_ifT rfl (decide_eq_true ho) ?_
      refine wc_seq ?_
      refine wc_seq ?_
      refine wc_draw (l0 := (lb 18 0)) (fun w => w.cell? ⟨p, 5, none⟩ = some (.slice pa ys.length pc)) [] wide_ rfl rfl fun w hw => ?_
      replace hS := hS.same hw; clear hw
      refine dr_pure (i := 0) (lb 18 1) rfl rfl (by kernel_rfl) (fun w => y_move rfl) ?_
      refine dr_pure (i := 1) (lb 18 3) rfl rfl (by kernel_rfl) (fun w => y_nil rfl) ?_
      refine dr_pure (i := 2) (lb 18 7) rfl rfl (by kernel_rfl) (fun w => y_fld fl_168_5 rfl) ?_
      refine dr_read (i := 3) (lb 18 15) rfl rfl (by kernel_rfl) (hS.cell rfl) (fun w hS => y_load pl_32 rfl hS) ?_
      refine dr_pure (i := 4) (lb 18 31) rfl rfl (by kernel_rfl) (fun w => y_len_sl Tryz.underlying32 rfl) ?_
      refine dr_pure (i := 5) (lb 18 63) rfl rfl (by kernel_rfl) (fun w => (y_eql rfl rfl).val (u := .bool true) (congrArg Value.bool (decide_eq_true (by simpa using e4)))) ?_
      refine dr_pure (i := 6) (lb 18 127) rfl rfl (by kernel_rfl) (fun w => y_move rfl) ?_
      refine dr_off (i := 7) (lb 18 255) rfl rfl (by kernel_rfl) rfl rfl rfl ?_
      refine dr_off (i := 8) (lb 18 511) rfl rfl (by kernel_rfl) rfl rfl rfl ?_
      refine dr_off (i := 9) (lb 18 1023) rfl rfl (by kernel_rfl) rfl rfl rfl ?_
      refine dr_off (i := 14) (lb 18 17407) rfl rfl (by kernel_rfl) rfl rfl rfl ?_
      refine dr_off (i := 10) (lb 18 18431) rfl rfl (by kernel_rfl) rfl rfl rfl ?_
      refine dr_off (i := 11) (lb 18 20479) rfl rfl (by kernel_rfl) rfl rfl rfl ?_
      refine dr_off (i := 12) (lb 18 24575) rfl rfl (by kernel_rfl) rfl rfl rfl ?_
      refine dr_off (i := 13) (lb 18 32767) rfl rfl (by kernel_rfl) rfl rfl rfl ?_
      refine dr_off (i := 15) (lb 18 65535) rfl rfl (by kernel_rfl) rfl rfl rfl ?_
      refine dr_off (i := 16) (lb 18 131071) rfl rfl (by kernel_rfl) rfl rfl rfl ?_
      refine dr_pure (i := 17) (lb 18 262143) rfl rfl (by kernel_rfl) (fun w => y_pickT rfl rfl) ?_
      refine dr_done (by kernel_rfl) ?_
      refine wc_ifT rfl (rfl) ?_
      refine wc_seq ?_
      refine wc_region ?_
      refine wl (y_assign rfl) rfl ?_
      refine wl_nil ?_
      refine wc_ret ?_
      refine wret (vs := [_]) (.tmp rfl .nil) ?_
      exact ⟨M, _, Mle.refl _, rfl, hb0, hS.keep⟩
    | cons x0 rest =>
      have hx := h4.at (i := 0) (r := x0) (by rw [hp]; rfl)
      obtain ⟨y0, hy0, hyr⟩ := hx
      have hd := hyr.2.1
      rw [hp] at e4
      simp only [List.length_cons] at e4
      obtain ⟨bb, off, c', hse, hce⟩ := (h3.holds (hS.pull Hp)).at hy0
      simp only [Value.slice.injEq] at hse
      have hSk := hS
      obtain ⟨rfl, _, rfl⟩ := hse
      replace hS := hSk
      refine calls_of (c := _) (rs := _) (n := 49) Tryz.func82 rfl rfl rfl rfl rfl ?_
      refine wc_seq ?_
      refine wc_region ?_
      refine a_box rfl hS rfl fun b3 w hS => ?_
      refine wl (y_assign rfl) rfl ?_
      refine wl_nil ?_
      refine wc_seq ?_
      refine wc_seq ?_
      refine wc_draw (l0 := (lb 7 0)) (fun w => w.cell? ⟨b3, 0, none⟩ = some (.int .i64 r.o) ∧ w.cell? ⟨p, 1, none⟩ = some (.int .i64 m.origin)) [] wide_ rfl rfl fun w hw => ?_
      replace hS := hS.same hw; clear hw
      refine dr_pure (i := 0) (lb 7 1) rfl rfl (by kernel_rfl) (fun w => y_fld fl_48_0 rfl) ?_
      refine dr_pure (i := 2) (lb 7 5) rfl rfl (by kernel_rfl) (fun w => y_move rfl) ?_
      refine dr_pure (i := 3) (lb 7 13) rfl rfl (by kernel_rfl) (fun w => y_nil rfl) ?_
      refine dr_pure (i := 4) (lb 7 29) rfl rfl (by kernel_rfl) (fun w => y_fld fl_168_1 rfl) ?_
      refine dr_read (i := 1) (lb 7 31) rfl rfl (by kernel_rfl) ⟨hS.cell rfl, hS.cell rfl⟩ (fun w hS => y_load pl_3 rfl hS.1) ?_
      refine dr_read (i := 5) (lb 7 63) rfl rfl (by kernel_rfl) ⟨hS.cell rfl, hS.cell rfl⟩ (fun w hS => y_load pl_3 rfl hS.2) ?_
      refine dr_pure (i := 6) (lb 7 127) rfl rfl (by kernel_rfl) (fun w => y_eql rfl rfl) ?_
      refine dr_done (by kernel_rfl) ?_
      refine wc_ifT rfl (decide_eq_true ho) ?_
      refine wc_seq ?_
      refine wc_seq ?_
      refine wc_draw (l0 := (lb 18 0)) (fun w => w.cell? ⟨p, 5, none⟩ = some (.slice (some ⟨bb, off, none⟩) ys.length pc) ∧ Holds w encRV (.slice (some ⟨bb, off, none⟩) ys.length pc) ys ∧ w.cell? ⟨b3, 1, none⟩ = some (.int .i64 r.n)) [] wide_ rfl rfl fun w hw => ?_
      replace hS := hS.same hw; clear hw
      refine dr_pure (i := 0) (lb 18 1) rfl rfl (by kernel_rfl) (fun w => y_move rfl) ?_
      refine dr_pure (i := 1) (lb 18 3) rfl rfl (by kernel_rfl) (fun w => y_nil rfl) ?_
      refine dr_pure (i := 2) (lb 18 7) rfl rfl (by kernel_rfl) (fun w => y_fld fl_168_5 rfl) ?_
      refine dr_read (i := 3) (lb 18 15) rfl rfl (by kernel_rfl) ⟨hS.cell rfl, h3.holds (hS.pull Hp), hS.cell rfl⟩ (fun w hS => y_load pl_32 rfl hS.1) ?_
      refine dr_pure (i := 4) (lb 18 31) rfl rfl (by kernel_rfl) (fun w => y_len_sl Tryz.underlying32 rfl) ?_
      refine dr_pure (i := 5) (lb 18 63) rfl rfl (by kernel_rfl) (fun w => (y_eql rfl rfl).val (u := .bool false) (congrArg Value.bool (decide_eq_false (by omega)))) ?_
      refine dr_pure (i := 6) (lb 18 127) rfl rfl (by kernel_rfl) (fun w => y_move rfl) ?_
      refine dr_pureG (i := 7) (lb 18 255) rfl rfl (by kernel_rfl) rfl rfl (fun w => y_move rfl) ?_
      refine dr_pureG (i := 8) (lb 18 511) rfl rfl (by kernel_rfl) rfl rfl (fun w => y_nil rfl) ?_
      refine dr_pureG (i := 9) (lb 18 1023) rfl rfl (by kernel_rfl) rfl rfl (fun w => y_fld fl_168_5 rfl) ?_
      refine dr_pureG (i := 14) (lb 18 17407) rfl rfl (by kernel_rfl) rfl rfl (fun w => y_fld fl_48_1 rfl) ?_
      refine dr_readG (i := 10) (lb 18 18431) rfl rfl (by kernel_rfl) rfl rfl ⟨hS.cell rfl, h3.holds (hS.pull Hp), hS.cell rfl⟩ (fun w hS => y_load pl_32 rfl hS.1) ?_
      refine dr_pureG (i := 11) (lb 18 20479) rfl rfl (by kernel_rfl) rfl rfl (fun w => y_ixa_sl Tryz.underlying32 sz_48 rfl rfl (by omega) (by omega)) ?_
      refine dr_pureG (i := 12) (lb 18 24575) rfl rfl (by kernel_rfl) rfl rfl (fun w => y_fld fl_48_1 rfl) ?_
      refine dr_readG (i := 13) (lb 18 32767) rfl rfl (by kernel_rfl) rfl rfl ⟨hS.cell rfl, h3.holds (hS.pull Hp), hS.cell rfl⟩ (fun w hS => y_load pl_3 rfl (hS.2.1.cellAt hy0 (j := 1) rfl)) ?_
      refine dr_readG (i := 15) (lb 18 65535) rfl rfl (by kernel_rfl) rfl rfl ⟨hS.cell rfl, h3.holds (hS.pull Hp), hS.cell rfl⟩ (fun w hS => y_load pl_3 rfl hS.2.2) ?_
      refine dr_pureG (i := 16) (lb 18 131071) rfl rfl (by kernel_rfl) rfl rfl (fun w => y_neq rfl rfl) ?_
      refine dr_pure (i := 17) (lb 18 262143) rfl rfl (by kernel_rfl) (fun w => y_pickF rfl rfl) ?_
      refine dr_done (by kernel_rfl) ?_
      refine wc_if rfl (fun hc29 => ?_) (fun hc29 => ?_)
      · try simp only [zq1, zq2, zq3, zq4, zq5, zq6, zq7] at hc29
        have he : m.takE r = 10 := by unfold Cli.takE; rw [if_pos ho, hp]; simp only []; rw [if_neg (by omega)]
        have hq : m.take r = m := by unfold Cli.take; rw [if_neg (by omega)]
        rw [he, hq]
        refine wc_seq ?_
        refine wc_region ?_
        refine wl (y_assign rfl) rfl ?_
        refine wl_nil ?_
        refine wc_ret ?_
        refine wret (vs := [_]) (.tmp rfl .nil) ?_
        first
        | exact ⟨M, _, Mle.refl _, rfl, hb0, hS.keep⟩
        | (simp only [List.setIfInBounds_toArray, List.set_cons_zero, List.set_cons_succ, Nat.zero_add, Nat.add_zero, cells_agg, setCells] at hS
           exact ⟨M2, _, hM2, rfl, ⟨_, _, H3, _, _, Hp, so, ho3, (h2.mono hM2).append (.cons (x := ⟨r.o, r.n, sa2, r.ups.length, sc2⟩) ⟨rfl, rfl, hs2, hul⟩ .nil), hcut, hdr.mono hM2, h5.mono hM2, rfl⟩, hS.keep⟩)
      · try simp only [zq1, zq2, zq3, zq4, zq5, zq6, zq7] at hc29
        have he : m.takE r = 0 := by unfold Cli.takE; rw [if_pos ho, hp]; simp only []; rw [if_pos (by omega)]
        have hq : m.take r = { m with known := m.known ++ [r], pending := rest } := by unfold Cli.take; rw [if_pos he, if_pos ho, hp]; rfl
        rw [he, hq]
        have hcut := cutFrom (k := 1) h3 (by omega)
        have hdr := h4.drop 1
        rw [hp, show (x0 :: rest).drop 1 = rest from rfl] at hdr
        generalize hcv : cutV _ _ _ _ _ = sq at hcut
        obtain ⟨qa, qc, rfl⟩ := hcut.slice
        refine wc_skip ?_
        refine wc_region ?_
        refine wl (y_move rfl) rfl ?_
        refine wl (y_move rfl) rfl ?_
        refine wl (y_nil rfl) rfl ?_
        refine wl (y_fld fl_168_5 rfl) rfl ?_
        refine wl (y_load pl_32 rfl (hS.cell rfl)) rfl ?_
        refine wl ((y_slFrom (lv := 1) Tryz.underlying32 sz_48 rfl rfl (by omega) (by omega) (by omega)).val hcv) rfl ?_
        refine wl (y_nil rfl) rfl ?_
        refine wl (y_fld fl_168_5 rfl) rfl ?_
        refine a_store sz_32 rfl rfl rfl hS (Nat.le_of_ble_eq_true rfl) fun w hS => ?_
        refine wl_nil ?_
        refine wc_seq ?_
        refine wc_draw (l0 := (lb 12 0)) (fun w => w.cell? ⟨p, 4, none⟩ = some (.slice ka xs.length kc) ∧ CellsAt w b3 0 [.int .i64 r.o, .int .i64 r.n, .slice sa r.ups.length sc]) [8, 11] wide_ rfl rfl fun w hw => ?_
        replace hS := hS.same hw; clear hw
        refine dr_pure (i := 0) (lb 12 1) rfl rfl (by kernel_rfl) (fun w => y_move rfl) ?_
        refine dr_pure (i := 1) (lb 12 3) rfl rfl (by kernel_rfl) (fun w => y_move rfl) ?_
        refine dr_pure (i := 2) (lb 12 7) rfl rfl (by kernel_rfl) (fun w => y_nil rfl) ?_
        refine dr_pure (i := 3) (lb 12 15) rfl rfl (by kernel_rfl) (fun w => y_fld fl_168_4 rfl) ?_
        refine dr_read (i := 4) (lb 12 31) rfl rfl (by kernel_rfl) ⟨hS.cell rfl, hS.cells rfl⟩ (fun w hS => y_load pl_32 rfl hS.1) ?_
        refine dr_read (i := 5) (lb 12 63) rfl rfl (by kernel_rfl) ⟨hS.cell rfl, hS.cells rfl⟩ (fun w hS => y_loadS st_48 sz_48 rfl hS.2 rfl) ?_
        refine dr_do (i := 6) (lb 12 127) rfl (by kernel_rfl) ?_
        refine wl_call (.cons rfl .nil) (rcopy_c r (.slice sa r.ups.length sc) hul hs0 hS) rfl ?_
        rintro _ w ⟨M2, s2, rfl, hM2, hs2, hS⟩
        obtain ⟨sa2, sc2, rfl⟩ := (hs2.holds hS).slice
        refine wl_nil ⟨fun _ _ => ⟨hS.cell rfl, hS.cells rfl⟩, ?_⟩
        refine dr_do (i := 7) (lb 12 255) rfl (by kernel_rfl) ?_
        refine a_bslice encRV [⟨r.o, r.n, sa2, r.ups.length, sc2⟩] Tryz.underlying32 sz_48 z_48 rfl (.cons rfl .nil) rfl rfl rfl (by decide) hS rfl fun u Hu w hou hS => ?_
        refine wl_nil ⟨fun _ _ => ⟨hS.cell rfl, hS.cells rfl⟩, ?_⟩
        refine dr_do (i := 8) (lb 12 511) rfl (by kernel_rfl) ?_
        refine a_append Tryz.underlying32 Tryz.underlying32 sz_48 z_48 rfl by_48 (by decide) rfl rfl h1 (hou.holds hS) hS (by simp; omega) rfl fun s3 H3 w ho3 hS => ?_
        obtain ⟨sa3, sc3, rfl⟩ := ho3.slice
        refine wl_nil ⟨fun h => absurd (by decide) h, ?_⟩
        refine dr_pure (i := 9) (lb 12 1023) rfl rfl (by kernel_rfl) (fun w => y_nil rfl) ?_
        refine dr_pure (i := 10) (lb 12 2047) rfl rfl (by kernel_rfl) (fun w => y_fld fl_168_4 rfl) ?_
        refine dr_do (i := 11) (lb 12 4095) rfl (by kernel_rfl) ?_
        refine a_store sz_32 rfl rfl rfl hS (Nat.le_of_ble_eq_true rfl) fun w hS => ?_
        refine wl_nil ⟨fun h => absurd (by decide) h, ?_⟩
        refine dr_done (by kernel_rfl) ?_
        refine wc_seq ?_
        refine wc_region ?_
        refine wl (y_assign rfl) rfl ?_
        refine wl_nil ?_
        refine wc_ret ?_
        refine wret (vs := [_]) (.tmp rfl .nil) ?_
        first
        | exact ⟨M, _, Mle.refl _, rfl, hb0, hS.keep⟩
        | (simp only [List.setIfInBounds_toArray, List.set_cons_zero, List.set_cons_succ, Nat.zero_add, Nat.add_zero, cells_agg, setCells] at hS
           exact ⟨M2, _, hM2, rfl, ⟨_, _, H3, _, _, Hp, so, ho3, (h2.mono hM2).append (.cons (x := ⟨r.o, r.n, sa2, r.ups.length, sc2⟩) ⟨rfl, rfl, hs2, hul⟩ .nil), hcut, hdr.mono hM2, h5.mono hM2, rfl⟩, hS.keep⟩)
  · have he : m.takE r = 0 := by unfold Cli.takE; rw [if_neg ho]
    have hq : m.take r = { m with known := m.known ++ [r] } := by unfold Cli.take; rw [if_pos he, if_neg ho]
    rw [he, hq]
    refine calls_of (c := _) (rs := _) (n := 49) Tryz.func82 rfl rfl rfl rfl rfl ?_
    refine wc_seq ?_
    refine wc_region ?_
    refine a_box rfl hS rfl fun b3 w hS => ?_
    refine wl (y_assign rfl) rfl ?_
    refine wl_nil ?_
    refine wc_seq ?_
    refine wc_seq ?_
    refine wc_draw (l0 := (lb 7 0)) (fun w => w.cell? ⟨b3, 0, none⟩ = some (.int .i64 r.o) ∧ w.cell? ⟨p, 1, none⟩ = some (.int .i64 m.origin)) [] wide_ rfl rfl fun w hw => ?_
    replace hS := hS.same hw; clear hw
    refine dr_pure (i := 0) (lb 7 1) rfl rfl (by kernel_rfl) (fun w => y_fld fl_48_0 rfl) ?_
    refine dr_pure (i := 2) (lb 7 5) rfl rfl (by kernel_rfl) (fun w => y_move rfl) ?_
    refine dr_pure (i := 3) (lb 7 13) rfl rfl (by kernel_rfl) (fun w => y_nil rfl) ?_
    refine dr_pure (i := 4) (lb 7 29) rfl rfl (by kernel_rfl) (fun w => y_fld fl_168_1 rfl) ?_
    refine dr_read (i := 1) (lb 7 31) rfl rfl (by kernel_rfl) ⟨hS.cell rfl, hS.cell rfl⟩ (fun w hS => y_load pl_3 rfl hS.1) ?_
    refine dr_read (i := 5) (lb 7 63) rfl rfl (by kernel_rfl) ⟨hS.cell rfl, hS.cell rfl⟩ (fun w hS => y_load pl_3 rfl hS.2) ?_
    refine dr_pure (i := 6) (lb 7 127) rfl rfl (by kernel_rfl) (fun w => y_eql rfl rfl) ?_
    refine dr_done (by kernel_rfl) ?_
    refine wc_ifF rfl (decide_eq_false ho) ?_
    refine wc_skip ?_
    refine wc_seq ?_
    refine wc_draw (l0 := (lb 12 0)) (fun w => w.cell? ⟨p, 4, none⟩ = some (.slice ka xs.length kc) ∧ CellsAt w b3 0 [.int .i64 r.o, .int .i64 r.n, .slice sa r.ups.length sc]) [8, 11] wide_ rfl rfl fun w hw => ?_
    replace hS := hS.same hw; clear hw
    refine dr_pure (i := 0) (lb 12 1) rfl rfl (by kernel_rfl) (fun w => y_move rfl) ?_
    refine dr_pure (i := 1) (lb 12 3) rfl rfl (by kernel_rfl) (fun w => y_move rfl) ?_
    refine dr_pure (i := 2) (lb 12 7) rfl rfl (by kernel_rfl) (fun w => y_nil rfl) ?_
    refine dr_pure (i := 3) (lb 12 15) rfl rfl (by kernel_rfl) (fun w => y_fld fl_168_4 rfl) ?_
    refine dr_read (i := 4) (lb 12 31) rfl rfl (by kernel_rfl) ⟨hS.cell rfl, hS.cells rfl⟩ (fun w hS => y_load pl_32 rfl hS.1) ?_
    refine dr_read (i := 5) (lb 12 63) rfl rfl (by kernel_rfl) ⟨hS.cell rfl, hS.cells rfl⟩ (fun w hS => y_loadS st_48 sz_48 rfl hS.2 rfl) ?_
    refine dr_do (i := 6) (lb 12 127) rfl (by kernel_rfl) ?_
    refine wl_call (.cons rfl .nil) (rcopy_c r (.slice sa r.ups.length sc) hul hs0 hS) rfl ?_
    rintro _ w ⟨M2, s2, rfl, hM2, hs2, hS⟩
    obtain ⟨sa2, sc2, rfl⟩ := (hs2.holds hS).slice
    refine wl_nil ⟨fun _ _ => ⟨hS.cell rfl, hS.cells rfl⟩, ?_⟩
    refine dr_do (i := 7) (lb 12 255) rfl (by kernel_rfl) ?_
    refine a_bslice encRV [⟨r.o, r.n, sa2, r.ups.length, sc2⟩] Tryz.underlying32 sz_48 z_48 rfl (.cons rfl .nil) rfl rfl rfl (by decide) hS rfl fun u Hu w hou hS => ?_
    refine wl_nil ⟨fun _ _ => ⟨hS.cell rfl, hS.cells rfl⟩, ?_⟩
    refine dr_do (i := 8) (lb 12 511) rfl (by kernel_rfl) ?_
    refine a_append Tryz.underlying32 Tryz.underlying32 sz_48 z_48 rfl by_48 (by decide) rfl rfl h1 (hou.holds hS) hS (by simp; omega) rfl fun s3 H3 w ho3 hS => ?_
    obtain ⟨sa3, sc3, rfl⟩ := ho3.slice
    refine wl_nil ⟨fun h => absurd (by decide) h, ?_⟩
    refine dr_pure (i := 9) (lb 12 1023) rfl rfl (by kernel_rfl) (fun w => y_nil rfl) ?_
    refine dr_pure (i := 10) (lb 12 2047) rfl rfl (by kernel_rfl) (fun w => y_fld fl_168_4 rfl) ?_
    refine dr_do (i := 11) (lb 12 4095) rfl (by kernel_rfl) ?_
    refine a_store sz_32 rfl rfl rfl hS (Nat.le_of_ble_eq_true rfl) fun w hS => ?_
    refine wl_nil ⟨fun h => absurd (by decide) h, ?_⟩
    refine dr_done (by kernel_rfl) ?_
    refine wc_seq ?_
    refine wc_region ?_
    refine wl (y_assign rfl) rfl ?_
    refine wl_nil ?_
    refine wc_ret ?_
    refine wret (vs := [_]) (.tmp rfl .nil) ?_
    simp only [List.setIfInBounds_toArray, List.set_cons_zero, List.set_cons_succ, Nat.zero_add, Nat.add_zero, cells_agg, setCells] at hS
    exact ⟨M2, _, hM2, rfl, ⟨_, _, H3, _, _, Hp, so, ho3, (h2.mono hM2).append (.cons (x := ⟨r.o, r.n, sa2, r.ups.length, sc2⟩) ⟨rfl, rfl, hs2, hul⟩ .nil), h3, h4.mono hM2, h5.mono hM2, rfl⟩, hS.keep⟩
end
end Go.Proofs.YtndahppmjdbifaaGreatDoor.Cli

set_option linter.unusedVariables false
set_option linter.unusedSimpArgs false
namespace Go.Proofs.YtndahppmjdbifaaGreatDoor.Nod
open Go Go.Proofs Go.Proofs.YtndahppmjdbifaaGreatDoor.Eng Go.Proofs.YtndahppmjdbifaaGreatDoor.Pre Go.Proofs.YtndahppmjdbifaaGreatDoor.Val Go.Proofs.YtndahppmjdbifaaGreatDoor.Rou Go.Proofs.YtndahppmjdbifaaGreatDoor.Fra Go.Proofs.YtndahppmjdbifaaGreatDoor.Snd Go.Proofs.YtndahppmjdbifaaGreatDoor.Lnk Go.Proofs.YtndahppmjdbifaaGreatDoor.Jnl Go.Proofs.YtndahppmjdbifaaGreatDoor.Cli

structure Cfg where
  clients : Int
  window : Int
  push : Int
  pull : Int
  mtu : Int
  last : Int
def cfgV (c : Cfg) : Value := .agg [.int .i64 c.clients, .int .i64 c.window, .int .i64 c.push, .int .i64 c.pull, .int .i64 c.mtu, .int .i64 c.last].toArray
def mayC (c : Cfg) : Nat := if 1 ≤ c.clients ∧ c.clients ≤ 64 ∧ 1 ≤ c.window ∧ c.window ≤ 16 ∧ 1 ≤ c.push ∧ c.push ≤ 16 ∧ 1 ≤ c.pull ∧ c.pull ≤ 16 ∧ 64 ≤ c.mtu ∧ c.mtu ≤ 1400 ∧ 1 ≤ c.last ∧ c.last ≤ 1099511627776 then 0 else 1
structure Nod where
  c : Cfg
  origin : Int
  j : Jnl
  k : Lnk
  own : Cli
  offered : Nat
def Nod.new (c : Cfg) (origin : Int) : Nod := ⟨c, origin, Jnl.new origin c.last, Lnk.new 1 c.window c.pull false, Cli.new (Jnl.new origin c.last) origin c.mtu c.push, 0⟩
def Nod.upd (m : Nod) (u : Upd) : Nod := { m with own := m.own.upd u }
def Nod.push (m : Nod) : Nod := { m with own := m.own.pushC m.j, j := m.own.pushJ m.j }
def Nod.resetE (m : Nod) : Nat := if (m.k.ep : Int) ≥ m.c.last then 8 else 0
def Nod.reset (m : Nod) : Nod := if m.resetE = 0 then { m with k := Lnk.new (m.k.ep + 1) m.c.window m.c.pull false, offered := 0, own := m.own.resume m.j } else m
@[irreducible] def Nod.hearE (m : Nod) (b : ByteArray) : Nat := if fgetE b ≠ 0 then fgetE b else if (fget b).ep ≠ m.k.ep then 9 else 0
def Nod.hear (m : Nod) (b : ByteArray) : Nod := if m.hearE b = 0 then { m with k := m.k.hear (fget b) } else m

abbrev nodQ (c : Cfg) (origin : Int) (jp kp cp : Nat) (off : Int) : Obj := .cells #[.int .i64 c.clients, .int .i64 c.window, .int .i64 c.push, .int .i64 c.pull, .int .i64 c.mtu, .int .i64 c.last, .int .i64 origin, .pointer (some ⟨jp, 0, none⟩), .pointer (some ⟨kp, 0, none⟩), .pointer (some ⟨cp, 0, none⟩), .int .i64 off] 97
abbrev nodO (jp kp cp : Nat) (m : Nod) : Obj := nodQ m.c m.origin jp kp cp m.offered
def IsN (M : Mem) (p : Nat) (m : Nod) (H : Chunk) : Prop :=
  ∃ jp kp cp Hj Hk Hc, IsJ M jp m.j Hj ∧ IsL kp m.k Hk ∧ IsC M cp jp m.own Hc ∧ H = (p, nodO jp kp cp m) :: (Hj ++ (Hk ++ Hc))
theorem IsN.mono {M M' : Mem} {p : Nat} {m : Nod} {H : Chunk} (h : IsN M p m H) (hm : Mle M M') : IsN M' p m H := by
  obtain ⟨jp, kp, cp, Hj, Hk, Hc, h1, h2, h3, h4⟩ := h
  exact ⟨jp, kp, cp, Hj, Hk, Hc, h1.mono hm, h2, h3.mono hm, h4⟩
theorem _root_.Go.Proofs.YtndahppmjdbifaaGreatDoor.Eng.St.un3 {M : Mem} {w : World} {Ls : List Chunk} {A B C : Chunk} {x : Nat × Obj} (h : St M w ((x :: (A ++ (B ++ C))) :: Ls)) : St M w ([x] :: A :: B :: C :: Ls) := h.perm (by simp)
section
variable {M : Mem} {w : World} {Ls : List Chunk}
theorem sin_c (n lo hi : Int) (hS : St M w Ls) : CallsR Tryz.prog 111 [.int .i64 n, .int .i64 lo, .int .i64 hi].toArray w fun v w' => v = .bool (decide (lo ≤ n ∧ n ≤ hi)) ∧ St M w' Ls := by
  refine calls_of (c := _) (rs := _) (n := 15) Tryz.func111 rfl rfl rfl rfl rfl ?_
  refine wc_seq ?_
  refine wc_region ?_
  refine wl (y_assign rfl) rfl ?_
  refine wl_nil ?_
  refine wc_seq ?_
  refine wc_region ?_
  refine wl (y_move rfl) rfl ?_
  refine wl (y_move rfl) rfl ?_
  refine wl (y_geq rfl rfl) rfl ?_
  refine wl (y_move rfl) rfl ?_
  refine wl_cases (s := 10) rfl (fun hg10 => ?_) (fun hg10 => ?_)
  · try simp only [zq1, zq2, zq3, zq4, zq5, zq6, zq7] at hg10
    refine wl_on rfl rfl ?_
    refine wl (y_move rfl) rfl ?_
    refine wl_on rfl rfl ?_
    refine wl (y_move rfl) rfl ?_
    refine wl_on rfl rfl ?_
    refine wl (y_leq rfl rfl) rfl ?_
    refine wl (y_pickT rfl rfl) rfl ?_
    refine wl (y_assign rfl) rfl ?_
    refine wl_nil ?_
    refine wc_ret ?_
    refine wret (vs := [_]) (.tmp rfl .nil) ?_
    first
    | exact ⟨congrArg Value.bool (decide_eq_decide.2 ⟨fun h => ⟨by omega, h⟩, fun h => h.2⟩), hS⟩
    | exact ⟨congrArg Value.bool (decide_eq_false (fun h => by omega)).symm, hS⟩
  · try simp only [zq1, zq2, zq3, zq4, zq5, zq6, zq7] at hg10
    refine wl_off rfl rfl rfl rfl ?_
    refine wl_off rfl rfl rfl rfl ?_
    refine wl_off rfl rfl rfl rfl ?_
    refine wl (y_pickF rfl rfl) rfl ?_
    refine wl (y_assign rfl) rfl ?_
    refine wl_nil ?_
    refine wc_ret ?_
    refine wret (vs := [_]) (.tmp rfl .nil) ?_
    first
    | exact ⟨congrArg Value.bool (decide_eq_decide.2 ⟨fun h => ⟨by omega, h⟩, fun h => h.2⟩), hS⟩
    | exact ⟨congrArg Value.bool (decide_eq_false (fun h => by omega)).symm, hS⟩
theorem smay_c (c : Cfg) (hS : St M w Ls) : CallsR Tryz.prog 77 [cfgV c].toArray w fun v w' => v = .int .i64 (mayC c) ∧ St M w' Ls := by
  refine calls_of (c := _) (rs := _) (n := 37) Tryz.func77 rfl rfl rfl rfl rfl ?_
  refine wc_seq ?_
  refine wc_region ?_
  refine a_box rfl hS rfl fun b1 w hS => ?_
  refine wl (y_assign rfl) rfl ?_
  refine wl_nil ?_
  refine wc_seq ?_
  refine wc_seq ?_
  refine wc_region ?_
  refine wl (y_fld fl_23_0 rfl) rfl ?_
  refine wl (y_load pl_3 rfl (hS.cell rfl)) rfl ?_
  refine wl_call (.cons rfl (.cons rfl (.cons rfl .nil))) (sin_c c.clients 1 64 hS) rfl ?_
  rintro _ w ⟨rfl, hS⟩
  refine wl (y_not rfl) rfl ?_
  refine wl (y_move rfl) rfl ?_
  refine wl_cases (s := 7) rfl (fun hg7 => ?_) (fun hg7 => ?_)
  · try simp only [zq1, zq2, zq3, zq4, zq5, zq6, zq7] at hg7
    refine wl_off rfl rfl rfl rfl ?_
    refine wl_off rfl rfl rfl rfl ?_
    refine wl_off rfl rfl rfl rfl ?_
    refine wl_off rfl rfl rfl rfl ?_
    refine wl (y_pickT rfl rfl) rfl ?_
    refine wl (y_move rfl) rfl ?_
    refine wl_off rfl rfl rfl rfl ?_
    refine wl_off rfl rfl rfl rfl ?_
    refine wl_off rfl rfl rfl rfl ?_
    refine wl_off rfl rfl rfl rfl ?_
    refine wl (y_pickT rfl rfl) rfl ?_
    refine wl (y_move rfl) rfl ?_
    refine wl_off rfl rfl rfl rfl ?_
    refine wl_off rfl rfl rfl rfl ?_
    refine wl_off rfl rfl rfl rfl ?_
    refine wl_off rfl rfl rfl rfl ?_
    refine wl (y_pickT rfl rfl) rfl ?_
    refine wl (y_move rfl) rfl ?_
    refine wl_off rfl rfl rfl rfl ?_
    refine wl_off rfl rfl rfl rfl ?_
    refine wl_off rfl rfl rfl rfl ?_
    refine wl_off rfl rfl rfl rfl ?_
    refine wl (y_pickT rfl rfl) rfl ?_
    refine wl (y_move rfl) rfl ?_
    refine wl_off rfl rfl rfl rfl ?_
    refine wl_off rfl rfl rfl rfl ?_
    refine wl_off rfl rfl rfl rfl ?_
    refine wl_off rfl rfl rfl rfl ?_
    refine wl (y_pickT rfl rfl) rfl ?_
    refine wl_nil ?_
    refine wc_ifT rfl rfl ?_
    refine wc_seq ?_
    refine wc_region ?_
    refine wl (y_assign rfl) rfl ?_
    refine wl_nil ?_
    refine wc_ret ?_
    refine wret (vs := [_]) (.tmp rfl .nil) ?_
    first
    | exact ⟨congrArg (Value.int .i64) (by unfold mayC; rw [if_neg (by omega)]; rfl), hS.keep⟩
    | exact ⟨congrArg (Value.int .i64) (by unfold mayC; rw [if_pos (by omega)]; rfl), hS.keep⟩
  · try simp only [zq1, zq2, zq3, zq4, zq5, zq6, zq7] at hg7
    refine wl_on rfl rfl ?_
    refine wl (y_fld fl_23_1 rfl) rfl ?_
    refine wl_on rfl rfl ?_
    refine wl (y_load pl_3 rfl (hS.cell rfl)) rfl ?_
    refine wl_on rfl rfl ?_
    refine wl_call (.cons rfl (.cons rfl (.cons rfl .nil))) (sin_c c.window 1 16 hS) rfl ?_
    rintro _ w ⟨rfl, hS⟩
    refine wl_on rfl rfl ?_
    refine wl (y_not rfl) rfl ?_
    refine wl (y_pickF rfl rfl) rfl ?_
    refine wl (y_move rfl) rfl ?_
    refine wl_cases (s := 13) rfl (fun hg13 => ?_) (fun hg13 => ?_)
    · try simp only [zq1, zq2, zq3, zq4, zq5, zq6, zq7] at hg13
      refine wl_off rfl rfl rfl rfl ?_
      refine wl_off rfl rfl rfl rfl ?_
      refine wl_off rfl rfl rfl rfl ?_
      refine wl_off rfl rfl rfl rfl ?_
      refine wl (y_pickT rfl rfl) rfl ?_
      refine wl (y_move rfl) rfl ?_
      refine wl_off rfl rfl rfl rfl ?_
      refine wl_off rfl rfl rfl rfl ?_
      refine wl_off rfl rfl rfl rfl ?_
      refine wl_off rfl rfl rfl rfl ?_
      refine wl (y_pickT rfl rfl) rfl ?_
      refine wl (y_move rfl) rfl ?_
      refine wl_off rfl rfl rfl rfl ?_
      refine wl_off rfl rfl rfl rfl ?_
      refine wl_off rfl rfl rfl rfl ?_
      refine wl_off rfl rfl rfl rfl ?_
      refine wl (y_pickT rfl rfl) rfl ?_
      refine wl (y_move rfl) rfl ?_
      refine wl_off rfl rfl rfl rfl ?_
      refine wl_off rfl rfl rfl rfl ?_
      refine wl_off rfl rfl rfl rfl ?_
      refine wl_off rfl rfl rfl rfl ?_
      refine wl (y_pickT rfl rfl) rfl ?_
      refine wl_nil ?_
      refine wc_ifT rfl rfl ?_
      refine wc_seq ?_
      refine wc_region ?_
      refine wl (y_assign rfl) rfl ?_
      refine wl_nil ?_
      refine wc_ret ?_
      refine wret (vs := [_]) (.tmp rfl .nil) ?_
      first
      | exact ⟨congrArg (Value.int .i64) (by unfold mayC; rw [if_neg (by omega)]; rfl), hS.keep⟩
      | exact ⟨congrArg (Value.int .i64) (by unfold mayC; rw [if_pos (by omega)]; rfl), hS.keep⟩
    · try simp only [zq1, zq2, zq3, zq4, zq5, zq6, zq7] at hg13
      refine wl_on rfl rfl ?_
      refine wl (y_fld fl_23_2 rfl) rfl ?_
      refine wl_on rfl rfl ?_
      refine wl (y_load pl_3 rfl (hS.cell rfl)) rfl ?_
      refine wl_on rfl rfl ?_
      refine wl_call (.cons rfl (.cons rfl (.cons rfl .nil))) (sin_c c.push 1 16 hS) rfl ?_
      rintro _ w ⟨rfl, hS⟩
      refine wl_on rfl rfl ?_
      refine wl (y_not rfl) rfl ?_
      refine wl (y_pickF rfl rfl) rfl ?_
      refine wl (y_move rfl) rfl ?_
      refine wl_cases (s := 19) rfl (fun hg19 => ?_) (fun hg19 => ?_)
      · try simp only [zq1, zq2, zq3, zq4, zq5, zq6, zq7] at hg19
        refine wl_off rfl rfl rfl rfl ?_
        refine wl_off rfl rfl rfl rfl ?_
        refine wl_off rfl rfl rfl rfl ?_
        refine wl_off rfl rfl rfl rfl ?_
        refine wl (y_pickT rfl rfl) rfl ?_
        refine wl (y_move rfl) rfl ?_
        refine wl_off rfl rfl rfl rfl ?_
        refine wl_off rfl rfl rfl rfl ?_
        refine wl_off rfl rfl rfl rfl ?_
        refine wl_off rfl rfl rfl rfl ?_
        refine wl (y_pickT rfl rfl) rfl ?_
        refine wl (y_move rfl) rfl ?_
        refine wl_off rfl rfl rfl rfl ?_
        refine wl_off rfl rfl rfl rfl ?_
        refine wl_off rfl rfl rfl rfl ?_
        refine wl_off rfl rfl rfl rfl ?_
        refine wl (y_pickT rfl rfl) rfl ?_
        refine wl_nil ?_
        refine wc_ifT rfl rfl ?_
        refine wc_seq ?_
        refine wc_region ?_
        refine wl (y_assign rfl) rfl ?_
        refine wl_nil ?_
        refine wc_ret ?_
        refine wret (vs := [_]) (.tmp rfl .nil) ?_
        first
        | exact ⟨congrArg (Value.int .i64) (by unfold mayC; rw [if_neg (by omega)]; rfl), hS.keep⟩
        | exact ⟨congrArg (Value.int .i64) (by unfold mayC; rw [if_pos (by omega)]; rfl), hS.keep⟩
      · try simp only [zq1, zq2, zq3, zq4, zq5, zq6, zq7] at hg19
        refine wl_on rfl rfl ?_
        refine wl (y_fld fl_23_3 rfl) rfl ?_
        refine wl_on rfl rfl ?_
        refine wl (y_load pl_3 rfl (hS.cell rfl)) rfl ?_
        refine wl_on rfl rfl ?_
        refine wl_call (.cons rfl (.cons rfl (.cons rfl .nil))) (sin_c c.pull 1 16 hS) rfl ?_
        rintro _ w ⟨rfl, hS⟩
        refine wl_on rfl rfl ?_
        refine wl (y_not rfl) rfl ?_
        refine wl (y_pickF rfl rfl) rfl ?_
        refine wl (y_move rfl) rfl ?_
        refine wl_cases (s := 25) rfl (fun hg25 => ?_) (fun hg25 => ?_)
        · try simp only [zq1, zq2, zq3, zq4, zq5, zq6, zq7] at hg25
          refine wl_off rfl rfl rfl rfl ?_
          refine wl_off rfl rfl rfl rfl ?_
          refine wl_off rfl rfl rfl rfl ?_
          refine wl_off rfl rfl rfl rfl ?_
          refine wl (y_pickT rfl rfl) rfl ?_
          refine wl (y_move rfl) rfl ?_
          refine wl_off rfl rfl rfl rfl ?_
          refine wl_off rfl rfl rfl rfl ?_
          refine wl_off rfl rfl rfl rfl ?_
          refine wl_off rfl rfl rfl rfl ?_
          refine wl (y_pickT rfl rfl) rfl ?_
          refine wl_nil ?_
          refine wc_ifT rfl rfl ?_
          refine wc_seq ?_
          refine wc_region ?_
          refine wl (y_assign rfl) rfl ?_
          refine wl_nil ?_
          refine wc_ret ?_
          refine wret (vs := [_]) (.tmp rfl .nil) ?_
          first
          | exact ⟨congrArg (Value.int .i64) (by unfold mayC; rw [if_neg (by omega)]; rfl), hS.keep⟩
          | exact ⟨congrArg (Value.int .i64) (by unfold mayC; rw [if_pos (by omega)]; rfl), hS.keep⟩
        · try simp only [zq1, zq2, zq3, zq4, zq5, zq6, zq7] at hg25
          refine wl_on rfl rfl ?_
          refine wl (y_fld fl_23_4 rfl) rfl ?_
          refine wl_on rfl rfl ?_
          refine wl (y_load pl_3 rfl (hS.cell rfl)) rfl ?_
          refine wl_on rfl rfl ?_
          refine wl_call (.cons rfl (.cons rfl (.cons rfl .nil))) (sin_c c.mtu 64 1400 hS) rfl ?_
          rintro _ w ⟨rfl, hS⟩
          refine wl_on rfl rfl ?_
          refine wl (y_not rfl) rfl ?_
          refine wl (y_pickF rfl rfl) rfl ?_
          refine wl (y_move rfl) rfl ?_
          refine wl_cases (s := 31) rfl (fun hg31 => ?_) (fun hg31 => ?_)
          · try simp only [zq1, zq2, zq3, zq4, zq5, zq6, zq7] at hg31
            refine wl_off rfl rfl rfl rfl ?_
            refine wl_off rfl rfl rfl rfl ?_
            refine wl_off rfl rfl rfl rfl ?_
            refine wl_off rfl rfl rfl rfl ?_
            refine wl (y_pickT rfl rfl) rfl ?_
            refine wl_nil ?_
            refine wc_ifT rfl rfl ?_
            refine wc_seq ?_
            refine wc_region ?_
            refine wl (y_assign rfl) rfl ?_
            refine wl_nil ?_
            refine wc_ret ?_
            refine wret (vs := [_]) (.tmp rfl .nil) ?_
            first
            | exact ⟨congrArg (Value.int .i64) (by unfold mayC; rw [if_neg (by omega)]; rfl), hS.keep⟩
            | exact ⟨congrArg (Value.int .i64) (by unfold mayC; rw [if_pos (by omega)]; rfl), hS.keep⟩
          · try simp only [zq1, zq2, zq3, zq4, zq5, zq6, zq7] at hg31
            refine wl_on rfl rfl ?_
            refine wl (y_fld fl_23_5 rfl) rfl ?_
            refine wl_on rfl rfl ?_
            refine wl (y_load pl_3 rfl (hS.cell rfl)) rfl ?_
            refine wl_on rfl rfl ?_
            refine wl_call (.cons rfl (.cons rfl (.cons rfl .nil))) (sin_c c.last 1 1099511627776 hS) rfl ?_
            rintro _ w ⟨rfl, hS⟩
            refine wl_on rfl rfl ?_
            refine wl (y_not rfl) rfl ?_
            refine wl (y_pickF rfl rfl) rfl ?_
            refine wl_nil ?_
            refine wc_if rfl (fun hc36 => ?_) (fun hc36 => ?_)
            · try simp only [zq1, zq2, zq3, zq4, zq5, zq6, zq7] at hc36
              refine wc_seq ?_
              refine wc_region ?_
              refine wl (y_assign rfl) rfl ?_
              refine wl_nil ?_
              refine wc_ret ?_
              refine wret (vs := [_]) (.tmp rfl .nil) ?_
              first
              | exact ⟨congrArg (Value.int .i64) (by unfold mayC; rw [if_neg (by omega)]; rfl), hS.keep⟩
              | exact ⟨congrArg (Value.int .i64) (by unfold mayC; rw [if_pos (by omega)]; rfl), hS.keep⟩
            · try simp only [zq1, zq2, zq3, zq4, zq5, zq6, zq7] at hc36
              refine wc_skip ?_
              refine wc_seq ?_
              refine wc_region ?_
              refine wl (y_assign rfl) rfl ?_
              refine wl_nil ?_
              refine wc_ret ?_
              refine wret (vs := [_]) (.tmp rfl .nil) ?_
              first
              | exact ⟨congrArg (Value.int .i64) (by unfold mayC; rw [if_neg (by omega)]; rfl), hS.keep⟩
              | exact ⟨congrArg (Value.int .i64) (by unfold mayC; rw [if_pos (by omega)]; rfl), hS.keep⟩
end
end Go.Proofs.YtndahppmjdbifaaGreatDoor.Nod

set_option linter.unusedVariables false
set_option linter.unusedSimpArgs false
namespace Go.Proofs.YtndahppmjdbifaaGreatDoor.Nod
open Go Go.Proofs Go.Proofs.YtndahppmjdbifaaGreatDoor.Eng Go.Proofs.YtndahppmjdbifaaGreatDoor.Pre Go.Proofs.YtndahppmjdbifaaGreatDoor.Val Go.Proofs.YtndahppmjdbifaaGreatDoor.Rou Go.Proofs.YtndahppmjdbifaaGreatDoor.Fra Go.Proofs.YtndahppmjdbifaaGreatDoor.Snd Go.Proofs.YtndahppmjdbifaaGreatDoor.Lnk Go.Proofs.YtndahppmjdbifaaGreatDoor.Jnl Go.Proofs.YtndahppmjdbifaaGreatDoor.Cli
@[irreducible] def newE (c : Cfg) (origin : Int) : Nat := if mayC c ≠ 0 then mayC c else if origin < 1 ∨ origin > c.clients then 11 else 0
section
variable {M : Mem} {w : World} {Ls : List Chunk}
theorem nbegin_c {p : Nat} {c : Cfg} {origin off : Int} {a k b : Value} (ep : Int) (hS : St M w ([(p, .cells #[.int .i64 c.clients, .int .i64 c.window, .int .i64 c.push, .int .i64 c.pull, .int .i64 c.mtu, .int .i64 c.last, .int .i64 origin, a, k, b, .int .i64 off] 97)] :: Ls)) :
    CallsR Tryz.prog 56 [.pointer (some ⟨p, 0, none⟩), .int .i64 ep].toArray w fun v w' => ∃ kp Hk, v = .tuple #[] ∧ IsL kp (Lnk.new ep c.window c.pull false) Hk ∧ St M w' ([(p, .cells #[.int .i64 c.clients, .int .i64 c.window, .int .i64 c.push, .int .i64 c.pull, .int .i64 c.mtu, .int .i64 c.last, .int .i64 origin, a, .pointer (some ⟨kp, 0, none⟩), b, .int .i64 0] 97)] :: Hk :: Ls) := by
  refine calls_of (c := _) (rs := _) (n := 22) Tryz.func56 rfl rfl rfl rfl rfl ?_
  refine wc_seq ?_
  refine wc_draw (l0 := (lb 16 0)) (fun w => w.cell? ⟨p, 1, none⟩ = some (.int .i64 c.window) ∧ w.cell? ⟨p, 3, none⟩ = some (.int .i64 c.pull)) [12, 15] wide_ rfl rfl fun w hw => ?_
  replace hS := hS.same hw; clear hw
  refine dr_pure (i := 0) (lb 16 1) rfl rfl (by kernel_rfl) (fun w => y_move rfl) ?_
  refine dr_pure (i := 1) (lb 16 3) rfl rfl (by kernel_rfl) (fun w => y_move rfl) ?_
  refine dr_pure (i := 2) (lb 16 7) rfl rfl (by kernel_rfl) (fun w => y_move rfl) ?_
  refine dr_pure (i := 3) (lb 16 15) rfl rfl (by kernel_rfl) (fun w => y_nil rfl) ?_
  refine dr_pure (i := 4) (lb 16 31) rfl rfl (by kernel_rfl) (fun w => y_fld fl_97_0 rfl) ?_
  refine dr_pure (i := 5) (lb 16 63) rfl rfl (by kernel_rfl) (fun w => y_fld fl_23_1 rfl) ?_
  refine dr_pure (i := 7) (lb 16 191) rfl rfl (by kernel_rfl) (fun w => y_move rfl) ?_
  refine dr_pure (i := 8) (lb 16 447) rfl rfl (by kernel_rfl) (fun w => y_nil rfl) ?_
  refine dr_pure (i := 9) (lb 16 959) rfl rfl (by kernel_rfl) (fun w => y_fld fl_97_0 rfl) ?_
  refine dr_pure (i := 10) (lb 16 1983) rfl rfl (by kernel_rfl) (fun w => y_fld fl_23_3 rfl) ?_
  refine dr_read (i := 6) (lb 16 2047) rfl rfl (by kernel_rfl) ⟨hS.cell rfl, hS.cell rfl⟩ (fun w hS => y_load pl_3 rfl hS.1) ?_
  refine dr_read (i := 11) (lb 16 4095) rfl rfl (by kernel_rfl) ⟨hS.cell rfl, hS.cell rfl⟩ (fun w hS => y_load pl_3 rfl hS.2) ?_
  refine dr_do (i := 12) (lb 16 8191) rfl (by kernel_rfl) ?_
  refine wl_call (.cons rfl (.cons rfl (.cons rfl (.cons rfl .nil)))) (lnew_c ep c.window c.pull false hS) rfl ?_
  rintro _ w ⟨kp, Hk, rfl, hl, hS⟩
  refine wl_nil ⟨fun h => absurd (by decide) h, ?_⟩
  refine dr_pure (i := 13) (lb 16 16383) rfl rfl (by kernel_rfl) (fun w => y_nil rfl) ?_
  refine dr_pure (i := 14) (lb 16 32767) rfl rfl (by kernel_rfl) (fun w => y_fld fl_97_3 rfl) ?_
  refine dr_do (i := 15) (lb 16 65535) rfl (by kernel_rfl) ?_
  refine a_store sz_94 rfl rfl rfl hS (Nat.le_of_ble_eq_true rfl) fun w hS => ?_
  refine wl_nil ⟨fun h => absurd (by decide) h, ?_⟩
  refine dr_done (by kernel_rfl) ?_
  refine wc_region ?_
  refine wl (y_move rfl) rfl ?_
  refine wl (y_nil rfl) rfl ?_
  refine wl (y_fld fl_97_5 rfl) rfl ?_
  refine a_store sz_3 rfl rfl rfl hS (Nat.le_of_ble_eq_true rfl) fun w hS => ?_
  refine wl_nil ?_
  refine wretN (vs := []) .nil ?_
  simp only [List.setIfInBounds_toArray, List.set_cons_zero, List.set_cons_succ, Nat.zero_add, Nat.add_zero, cells_agg, setCells] at hS
  exact ⟨kp, Hk, rfl, hl, hS.keep⟩
theorem nnew_c (c : Cfg) (origin : Int) (hS : St M w Ls) :
    CallsR Tryz.prog 23 [cfgV c, .int .i64 origin].toArray w fun v w' => ∃ M', Mle M M' ∧ ((newE c origin ≠ 0 ∧ v = .tuple [.pointer none, .int .i64 (newE c origin)].toArray ∧ St M' w' Ls) ∨ (newE c origin = 0 ∧ ∃ p H, v = .tuple [.pointer (some ⟨p, 0, none⟩), .int .i64 0].toArray ∧ IsN M' p (Nod.new c origin) H ∧ St M' w' (H :: Ls))) := by
  refine calls_of (c := _) (rs := _) (n := 41) Tryz.func23 rfl rfl rfl rfl rfl ?_
  refine wc_seq ?_
  refine wc_region ?_
  refine a_box rfl hS rfl fun b2 w hS => ?_
  refine wl (y_assign rfl) rfl ?_
  refine wl (y_assign rfl) rfl ?_
  refine wl_nil ?_
  refine wc_seq ?_
  refine wc_seq ?_
  refine wc_region ?_
  refine wl ((y_loadS st_23 sz_23 rfl (vs := [.int .i64 c.clients, .int .i64 c.window, .int .i64 c.push, .int .i64 c.pull, .int .i64 c.mtu, .int .i64 c.last]) (hS.cells rfl) rfl).val (show _ = cfgV c from rfl)) rfl ?_
  refine wl_call (.cons rfl .nil) (smay_c c hS) rfl ?_
  rintro _ w ⟨rfl, hS⟩
  refine wl (y_assign rfl) rfl ?_
  refine wl_nil ?_
  refine wc_seq ?_
  refine wc_region ?_
  refine wl (y_move rfl) rfl ?_
  refine wl (y_neq rfl rfl) rfl ?_
  refine wl_nil ?_
  refine wc_if rfl (fun hc12 => ?_) (fun hc12 => ?_)
  · try simp only [zq1, zq2, zq3, zq4, zq5, zq6, zq7] at hc12
    have he : newE c origin = mayC c := by unfold newE; rw [if_pos (by omega)]
    have hz : newE c origin ≠ 0 := by omega
    refine wc_seq ?_
    refine wc_region ?_
    refine wl (y_move rfl) rfl ?_
    refine wl (y_assign rfl) rfl ?_
    refine wl (y_assign rfl) rfl ?_
    refine wl_nil ?_
    refine wc_ret ?_
    refine wret (vs := [_, _]) (.tmp rfl (.tmp rfl .nil)) ?_
    first
    | exact ⟨M, Mle.refl _, .inl ⟨hz, by rw [he]; rfl, hS.keep⟩⟩
    | exact ⟨M, Mle.refl _, .inl ⟨by rw [he]; decide, by rw [he]; rfl, hS.keep⟩⟩
    | exact ⟨M1, hM, .inr ⟨he, _, _, rfl, ⟨jp, kp, cp, Hj, Hk, Hc, hj1, hk, hc, rfl⟩, (by have h := hS.keep (T := ((b37, nodQ c origin jp kp cp 0) :: (Hj ++ (Hk ++ Hc))) :: Ls); exact h)⟩⟩
  · try simp only [zq1, zq2, zq3, zq4, zq5, zq6, zq7] at hc12
    refine wc_skip ?_
    refine wc_seq ?_
    refine wc_seq ?_
    refine wc_region ?_
    refine wl (y_move rfl) rfl ?_
    refine wl (y_lss rfl rfl) rfl ?_
    refine wl (y_move rfl) rfl ?_
    refine wl_cases (s := 16) rfl (fun hg16 => ?_) (fun hg16 => ?_)
    · try simp only [zq1, zq2, zq3, zq4, zq5, zq6, zq7] at hg16
      have he : newE c origin = 11 := by unfold newE; rw [if_neg (by omega), if_pos (by omega)]
      refine wl_off rfl rfl rfl rfl ?_
      refine wl_off rfl rfl rfl rfl ?_
      refine wl_off rfl rfl rfl rfl ?_
      refine wl_off rfl rfl rfl rfl ?_
      refine wl (y_pickT rfl rfl) rfl ?_
      refine wl_nil ?_
      refine wc_ifT rfl rfl ?_
      refine wc_seq ?_
      refine wc_region ?_
      refine wl (y_assign rfl) rfl ?_
      refine wl (y_assign rfl) rfl ?_
      refine wl_nil ?_
      refine wc_ret ?_
      refine wret (vs := [_, _]) (.tmp rfl (.tmp rfl .nil)) ?_
      first
      | exact ⟨M, Mle.refl _, .inl ⟨hz, by rw [he]; rfl, hS.keep⟩⟩
      | exact ⟨M, Mle.refl _, .inl ⟨by rw [he]; decide, by rw [he]; rfl, hS.keep⟩⟩
      | exact ⟨M1, hM, .inr ⟨he, _, _, rfl, ⟨jp, kp, cp, Hj, Hk, Hc, hj1, hk, hc, rfl⟩, (by have h := hS.keep (T := ((b37, nodQ c origin jp kp cp 0) :: (Hj ++ (Hk ++ Hc))) :: Ls); exact h)⟩⟩
    · try simp only [zq1, zq2, zq3, zq4, zq5, zq6, zq7] at hg16
      refine wl_on rfl rfl ?_
      refine wl (y_move rfl) rfl ?_
      refine wl_on rfl rfl ?_
      refine wl (y_fld fl_23_0 rfl) rfl ?_
      refine wl_on rfl rfl ?_
      refine wl (y_load pl_3 rfl (hS.cell (v := .int .i64 c.clients) rfl)) rfl ?_
      refine wl_on rfl rfl ?_
      refine wl (y_gtr rfl rfl) rfl ?_
      refine wl (y_pickF rfl rfl) rfl ?_
      refine wl_nil ?_
      refine wc_if rfl (fun hc21 => ?_) (fun hc21 => ?_)
      · try simp only [zq1, zq2, zq3, zq4, zq5, zq6, zq7] at hc21
        have he : newE c origin = 11 := by unfold newE; rw [if_neg (by omega), if_pos (by omega)]
        refine wc_seq ?_
        refine wc_region ?_
        refine wl (y_assign rfl) rfl ?_
        refine wl (y_assign rfl) rfl ?_
        refine wl_nil ?_
        refine wc_ret ?_
        refine wret (vs := [_, _]) (.tmp rfl (.tmp rfl .nil)) ?_
        first
        | exact ⟨M, Mle.refl _, .inl ⟨hz, by rw [he]; rfl, hS.keep⟩⟩
        | exact ⟨M, Mle.refl _, .inl ⟨by rw [he]; decide, by rw [he]; rfl, hS.keep⟩⟩
        | exact ⟨M1, hM, .inr ⟨he, _, _, rfl, ⟨jp, kp, cp, Hj, Hk, Hc, hj1, hk, hc, rfl⟩, (by have h := hS.keep (T := ((b37, nodQ c origin jp kp cp 0) :: (Hj ++ (Hk ++ Hc))) :: Ls); exact h)⟩⟩
      · try simp only [zq1, zq2, zq3, zq4, zq5, zq6, zq7] at hc21
        have he : newE c origin = 0 := by unfold newE; rw [if_neg (by omega), if_neg (by omega)]
        refine wc_skip ?_
        refine wc_seq ?_
        refine wc_region ?_
        refine wl (y_move rfl) rfl ?_
        refine wl (y_fld fl_23_5 rfl) rfl ?_
        refine wl (y_load pl_3 rfl (hS.cell (v := .int .i64 c.last) rfl)) rfl ?_
        refine wl_call (.cons rfl (.cons rfl .nil)) (jnew_c origin c.last hS) rfl ?_
        rintro _ w ⟨jp, Hj, rfl, hj, hS⟩
        refine wl (y_assign rfl) rfl ?_
        refine wl_nil ?_
        refine wc_seq ?_
        refine wc_draw (l0 := (lb 13 0)) (fun w => CellsAt w b2 0 [.int .i64 c.clients, .int .i64 c.window, .int .i64 c.push, .int .i64 c.pull, .int .i64 c.mtu, .int .i64 c.last] ∧ w.cell? ⟨b2, 4, none⟩ = some (.int .i64 c.mtu) ∧ w.cell? ⟨b2, 2, none⟩ = some (.int .i64 c.push)) [11, 12] wide_ rfl rfl fun w hw => ?_
        replace hS := hS.same hw; clear hw
        refine dr_pure (i := 1) (lb 13 2) rfl rfl (by kernel_rfl) (fun w => y_move rfl) ?_
        refine dr_pure (i := 2) (lb 13 6) rfl rfl (by kernel_rfl) (fun w => y_move rfl) ?_
        refine dr_pure (i := 3) (lb 13 14) rfl rfl (by kernel_rfl) (fun w => y_move rfl) ?_
        refine dr_pure (i := 4) (lb 13 30) rfl rfl (by kernel_rfl) (fun w => y_move rfl) ?_
        refine dr_pure (i := 5) (lb 13 62) rfl rfl (by kernel_rfl) (fun w => y_fld fl_23_4 rfl) ?_
        refine dr_pure (i := 7) (lb 13 190) rfl rfl (by kernel_rfl) (fun w => y_fld fl_23_2 rfl) ?_
        refine dr_read (i := 0) (lb 13 191) rfl rfl (by kernel_rfl) ⟨hS.cells rfl, hS.cell rfl, hS.cell rfl⟩ (fun w hS => y_loadS st_23 sz_23 rfl hS.1 rfl) ?_
        refine dr_read (i := 6) (lb 13 255) rfl rfl (by kernel_rfl) ⟨hS.cells rfl, hS.cell rfl, hS.cell rfl⟩ (fun w hS => y_load pl_3 rfl hS.2.1) ?_
        refine dr_read (i := 8) (lb 13 511) rfl rfl (by kernel_rfl) ⟨hS.cells rfl, hS.cell rfl, hS.cell rfl⟩ (fun w hS => y_load pl_3 rfl hS.2.2) ?_
        refine dr_do (i := 9) (lb 13 1023) rfl (by kernel_rfl) ?_
        refine wl_call (.cons rfl (.cons rfl (.cons rfl (.cons rfl .nil)))) (cnew_c origin c.mtu c.push (show (Jnl.new origin c.last).l.length ≤ _ from by unfold Jnl.new; simp) hj (hS.pull Hj)) rfl ?_
        rintro _ w ⟨M1, cp, Hc, rfl, hM, hc, hj1, hS⟩
        refine wl_nil ⟨fun _ _ => ⟨hS.cells rfl, hS.cell rfl, hS.cell rfl⟩, ?_⟩
        refine dr_pure (i := 10) (lb 13 2047) rfl rfl (by kernel_rfl) (fun w => y_build (is := [0, 1, 2, 4]) (xs := [_, _, _, _]) (out := [_, _, _, _, _, _, _, _, _, _, _]) plc_97 z_97 (.cons rfl (.cons rfl (.cons rfl (.cons rfl .nil)))) rfl) ?_
        refine dr_do (i := 11) (lb 13 4095) rfl (by kernel_rfl) ?_
        refine a_box rfl hS rfl fun b37 w hS => ?_
        refine wl_nil ⟨fun h => absurd (by decide) h, ?_⟩
        refine dr_pure (i := 12) (lb 13 8191) rfl rfl (by kernel_rfl) (fun w => y_assign rfl) ?_
        refine dr_done (by kernel_rfl) ?_
        refine wc_seq ?_
        refine wc_region ?_
        refine wl (y_move rfl) rfl ?_
        refine wl_call (.cons rfl (.cons rfl .nil)) (nbegin_c (c := c) (origin := origin) (off := 0) 1 hS) rfl ?_
        rintro _ w ⟨kp, Hk, rfl, hk, hS⟩
        refine wl_nil ?_
        refine wc_seq ?_
        refine wc_region ?_
        refine wl (y_move rfl) rfl ?_
        refine wl (y_assign rfl) rfl ?_
        refine wl (y_assign rfl) rfl ?_
        refine wl_nil ?_
        refine wc_ret ?_
        refine wret (vs := [_, _]) (.tmp rfl (.tmp rfl .nil)) ?_
        first
        | exact ⟨M, Mle.refl _, .inl ⟨hz, by rw [he]; rfl, hS.keep⟩⟩
        | exact ⟨M, Mle.refl _, .inl ⟨by rw [he]; decide, by rw [he]; rfl, hS.keep⟩⟩
        | exact ⟨M1, hM, .inr ⟨he, _, _, rfl, ⟨jp, kp, cp, Hj, Hk, Hc, hj1, hk, hc, rfl⟩, (by have h := hS.keep (T := ((b37, nodQ c origin jp kp cp 0) :: (Hj ++ (Hk ++ Hc))) :: Ls); exact h)⟩⟩
theorem nupd_c (hG : Bits M) (u : Upd) {p : Nat} {m : Nod} {H : Chunk} (hmt : 0 ≤ m.own.mtu ∧ m.own.mtu ≤ 1400) (hl : m.own.opn.length ≤ 13743895) (hb : IsN M p m H) (hS : St M w (H :: Ls)) :
    CallsR Tryz.prog 31 [.pointer (some ⟨p, 0, none⟩), uv u].toArray w fun v w' => ∃ M' H', Mle M M' ∧ v = .int .i64 (m.own.updE u) ∧ IsN M' p (m.upd u) H' ∧ St M' w' (H' :: Ls) := by
  obtain ⟨jp, kp, cp, Hj, Hk, Hc, h1, h2, h3, rfl⟩ := hb
  replace hS := hS.un3
  refine calls_of (c := _) (rs := _) (n := 11) Tryz.func31 rfl rfl rfl rfl rfl ?_
  refine wc_seq ?_
  refine wc_region ?_
  refine a_box rfl hS rfl fun b3 w hS => ?_
  refine wl (y_assign rfl) rfl ?_
  refine wl_nil ?_
  refine wc_seq ?_
  refine wc_draw (l0 := (lb 7 0)) (fun w => CellsAt w b3 0 (encU.f u) ∧ w.cell? ⟨p, 9, none⟩ = some (.pointer (some ⟨cp, 0, none⟩))) [5] wide_ rfl rfl fun w hw => ?_
  replace hS := hS.same hw; clear hw
  refine dr_pure (i := 0) (lb 7 1) rfl rfl (by kernel_rfl) (fun w => y_move rfl) ?_
  refine dr_pure (i := 1) (lb 7 3) rfl rfl (by kernel_rfl) (fun w => y_nil rfl) ?_
  refine dr_pure (i := 2) (lb 7 7) rfl rfl (by kernel_rfl) (fun w => y_fld fl_97_4 rfl) ?_
  refine dr_read (i := 3) (lb 7 15) rfl rfl (by kernel_rfl) ⟨hS.cells rfl, hS.cell rfl⟩ (fun w hS => y_load pl_95 rfl hS.2) ?_
  refine dr_read (i := 4) (lb 7 31) rfl rfl (by kernel_rfl) ⟨hS.cells rfl, hS.cell rfl⟩ (fun w hS => (y_loadS st_59 sz_59 rfl hS.1 rfl).val (show _ = uv u from rfl)) ?_
  refine dr_do (i := 5) (lb 7 63) rfl (by kernel_rfl) ?_
  refine wl_call (.cons rfl (.cons rfl .nil)) (cupd_c hG u hmt hl h3 (hS.pull Hc)) rfl ?_
  rintro _ w ⟨M1, H1, hM, rfl, h3, hS⟩
  refine wl_nil ⟨fun h => absurd (by decide) h, ?_⟩
  refine dr_pure (i := 6) (lb 7 127) rfl rfl (by kernel_rfl) (fun w => y_assign rfl) ?_
  refine dr_done (by kernel_rfl) ?_
  refine wc_ret ?_
  refine wret (vs := [_]) (.tmp rfl .nil) ?_
  exact ⟨M1, _, hM, rfl, ⟨jp, kp, cp, Hj, Hk, H1, h1.mono hM, h2, h3, rfl⟩, (by have h := hS.keep (T := ((p, nodO jp kp cp m) :: (Hj ++ (Hk ++ H1))) :: Ls); exact h)⟩
theorem npush_c {p : Nat} {m : Nod} {H : Chunk} (hpl : m.own.pending.length ≤ 137438953) (hjl : m.j.l.length ≤ 137438953472) (hl : m.own.opn.length ≤ 13743895) (hb : IsN M p m H) (hS : St M w (H :: Ls)) :
    CallsR Tryz.prog 33 [.pointer (some ⟨p, 0, none⟩)].toArray w fun v w' => ∃ M' H', Mle M M' ∧ v = .tuple [.int .i64 (m.own.pushR m.j).n, .int .i64 (m.own.pushE m.j)].toArray ∧ IsN M' p m.push H' ∧ St M' w' (H' :: Ls) := by
  obtain ⟨jp, kp, cp, Hj, Hk, Hc, h1, h2, h3, rfl⟩ := hb
  replace hS := hS.un3
  refine calls_of (c := _) (rs := _) (n := 17) Tryz.func33 rfl rfl rfl rfl rfl ?_
  refine wc_seq ?_
  refine wc_region ?_
  refine wl (y_assign rfl) rfl ?_
  refine wl (y_assign rfl) rfl ?_
  refine wl_nil ?_
  refine wc_seq ?_
  refine wc_region ?_
  refine wl (y_move rfl) rfl ?_
  refine wl (y_nil rfl) rfl ?_
  refine wl (y_fld fl_97_4 rfl) rfl ?_
  refine wl (y_load pl_95 rfl (hS.cell (v := .pointer (some ⟨cp, 0, none⟩)) rfl)) rfl ?_
  refine wl_call (.cons rfl .nil) (cpush_c hpl hjl hl h3 h1 (hS.keep (T := Hc :: Hj :: [(p, nodO jp kp cp m)] :: Hk :: Ls))) rfl ?_
  rintro _ w ⟨M1, s1, Hc1, Hj1, hM, hs1, rfl, h3, h1, hS⟩
  obtain ⟨sa1, sc1, rfl⟩ := (hs1.holds hS).slice
  refine wl (y_move rfl) rfl ?_
  refine wl (y_extract (vs := [_, _]) rfl rfl) rfl ?_
  refine wl (y_extract (vs := [_, _]) rfl rfl) rfl ?_
  refine a_alloc z_48 hS rfl fun b4 w hS => ?_
  refine a_storeS (vs := [_, _, _]) sz_48 rfl rfl rfl rfl hS (Nat.le_of_ble_eq_true rfl) fun w hS => ?_
  refine wl (y_assign rfl) rfl ?_
  refine wl_nil ?_
  refine wc_seq ?_
  refine wc_region ?_
  refine wl (y_fld fl_48_1 rfl) rfl ?_
  refine wl (y_load pl_3 rfl (hS.cell (v := .int .i64 (m.own.pushR m.j).n) rfl)) rfl ?_
  refine wl (y_move rfl) rfl ?_
  refine wl (y_assign rfl) rfl ?_
  refine wl (y_assign rfl) rfl ?_
  refine wl_nil ?_
  refine wc_ret ?_
  refine wret (vs := [_, _]) (.tmp rfl (.tmp rfl .nil)) ?_
  exact ⟨M1, _, hM, rfl, ⟨jp, kp, cp, Hj1, Hk, Hc1, h1, h2, h3, rfl⟩, (by have h := hS.keep (T := ((p, nodO jp kp cp m) :: (Hj1 ++ (Hk ++ Hc1))) :: Ls); exact h)⟩
theorem nreset_c {p : Nat} {m : Nod} {H : Chunk} (hc : m.c.last ≤ 1099511627776) (hjl : m.j.l.length ≤ 137438953472) (hb : IsN M p m H) (hS : St M w (H :: Ls)) :
    CallsR Tryz.prog 15 [.pointer (some ⟨p, 0, none⟩)].toArray w fun v w' => ∃ M' H', Mle M M' ∧ v = .int .i64 m.resetE ∧ IsN M' p m.reset H' ∧ St M' w' (H' :: Ls) := by
  have hb0 := hb
  obtain ⟨jp, kp, cp, Hj, Hk, Hc, h1, h2, h3, rfl⟩ := hb
  have hSH := hS
  replace hS := hS.un3
  refine calls_of (c := _) (rs := _) (n := 27) Tryz.func15 rfl rfl rfl rfl rfl ?_
  refine wc_seq ?_
  refine wc_region ?_
  refine wl (y_assign rfl) rfl ?_
  refine wl_nil ?_
  refine wc_seq ?_
  refine wc_seq ?_
  refine wc_draw (l0 := (lb 11 0)) (fun w => w.cell? ⟨p, 8, none⟩ = some (.pointer (some ⟨kp, 0, none⟩)) ∧ w.cell? ⟨p, 5, none⟩ = some (.int .i64 m.c.last)) [] wide_ rfl rfl fun w hw => ?_
  replace hS := hS.same hw; clear hw
  refine dr_pure (i := 0) (lb 11 1) rfl rfl (by kernel_rfl) (fun w => y_move rfl) ?_
  refine dr_pure (i := 1) (lb 11 3) rfl rfl (by kernel_rfl) (fun w => y_nil rfl) ?_
  refine dr_pure (i := 2) (lb 11 7) rfl rfl (by kernel_rfl) (fun w => y_fld fl_97_3 rfl) ?_
  refine dr_pure (i := 5) (lb 11 39) rfl rfl (by kernel_rfl) (fun w => y_move rfl) ?_
  refine dr_pure (i := 6) (lb 11 103) rfl rfl (by kernel_rfl) (fun w => y_nil rfl) ?_
  refine dr_pure (i := 7) (lb 11 231) rfl rfl (by kernel_rfl) (fun w => y_fld fl_97_0 rfl) ?_
  refine dr_pure (i := 8) (lb 11 487) rfl rfl (by kernel_rfl) (fun w => y_fld fl_23_5 rfl) ?_
  refine dr_read (i := 3) (lb 11 495) rfl rfl (by kernel_rfl) ⟨hS.cell rfl, hS.cell rfl⟩ (fun w hS => y_load pl_94 rfl hS.1) ?_
  refine dr_read (i := 9) (lb 11 1007) rfl rfl (by kernel_rfl) ⟨hS.cell rfl, hS.cell rfl⟩ (fun w hS => y_load pl_3 rfl hS.2) ?_
  refine dr_do (i := 4) (lb 11 1023) rfl (by kernel_rfl) ?_
  refine wl_call (.cons rfl .nil) (lepoch_c h2 (hS.pull Hk)) rfl ?_
  rintro _ w ⟨rfl, hS⟩
  refine wl_nil ⟨fun _ _ => ⟨hS.cell rfl, hS.cell rfl⟩, ?_⟩
  refine dr_pure (i := 10) (lb 11 2047) rfl rfl (by kernel_rfl) (fun w => y_geq rfl rfl) ?_
  refine dr_done (by kernel_rfl) ?_
  refine wc_if rfl (fun hc13 => ?_) (fun hc13 => ?_)
  · try simp only [zq1, zq2, zq3, zq4, zq5, zq6, zq7] at hc13
    have he : m.resetE = 8 := by unfold Nod.resetE; rw [if_pos (by omega)]
    have hq : m.reset = m := by unfold Nod.reset; rw [if_neg (by omega)]
    rw [he, hq]
    refine wc_seq ?_
    refine wc_region ?_
    refine wl (y_assign rfl) rfl ?_
    refine wl_nil ?_
    refine wc_ret ?_
    refine wret (vs := [_]) (.tmp rfl .nil) ?_
    first
    | exact ⟨M1, _, hM, rfl, ⟨jp, kp1, cp, Hj, Hk1, Hc1, h1, hk1, h3, rfl⟩, (by have h := hS.keep (T := ((p, nodQ m.c m.origin jp kp1 cp 0) :: (Hj ++ (Hk1 ++ Hc1))) :: Ls); exact h)⟩
    | exact ⟨M, _, Mle.refl _, rfl, hb0, hS.keep⟩
  · try simp only [zq1, zq2, zq3, zq4, zq5, zq6, zq7] at hc13
    have he : m.resetE = 0 := by unfold Nod.resetE; rw [if_neg (by omega)]
    have hq : m.reset = { m with k := Lnk.new (m.k.ep + 1) m.c.window m.c.pull false, offered := 0, own := m.own.resume m.j } := by unfold Nod.reset; rw [if_pos he]
    rw [he, hq]
    refine wc_skip ?_
    refine wc_seq ?_
    refine wc_region ?_
    refine wl (y_move rfl) rfl ?_
    refine wl (y_move rfl) rfl ?_
    refine wl (y_nil rfl) rfl ?_
    refine wl (y_fld fl_97_3 rfl) rfl ?_
    refine wl (y_load pl_94 rfl (hS.cell (v := .pointer (some ⟨kp, 0, none⟩)) rfl)) rfl ?_
    refine wl_call (.cons rfl .nil) (lepoch_c h2 (hS.pull Hk)) rfl ?_
    rintro _ w ⟨rfl, hS⟩
    refine wl (y_add rfl rfl (w64 (by omega) (by omega))) rfl ?_
    refine wl_call (.cons rfl (.cons rfl .nil)) (nbegin_c (c := m.c) (origin := m.origin) (off := m.offered) (m.k.ep + 1) (hS.pull [(p, nodO jp kp cp m)])) rfl ?_
    rintro _ w ⟨kp1, Hk1, rfl, hk1, hS⟩
    refine wl_nil ?_
    refine wc_seq ?_
    refine wc_region ?_
    refine wl (y_move rfl) rfl ?_
    refine wl (y_nil rfl) rfl ?_
    refine wl (y_fld fl_97_4 rfl) rfl ?_
    refine wl (y_load pl_95 rfl (hS.cell (v := .pointer (some ⟨cp, 0, none⟩)) rfl)) rfl ?_
    refine wl_call (.cons rfl .nil) (cresume_c hjl h3 h1 ((hS.pull Hj).pull Hc)) rfl ?_
    rintro _ w ⟨M1, Hc1, hM, rfl, h3, h1, hS⟩
    refine wl_nil ?_
    refine wc_seq ?_
    refine wc_region ?_
    refine wl (y_assign rfl) rfl ?_
    refine wl_nil ?_
    refine wc_ret ?_
    refine wret (vs := [_]) (.tmp rfl .nil) ?_
    first
    | exact ⟨M1, _, hM, rfl, ⟨jp, kp1, cp, Hj, Hk1, Hc1, h1, hk1, h3, rfl⟩, (by have h := hS.keep (T := ((p, nodQ m.c m.origin jp kp1 cp 0) :: (Hj ++ (Hk1 ++ Hc1))) :: Ls); exact h)⟩
    | exact ⟨M, _, Mle.refl _, rfl, hb0, hS.keep⟩
end
end Go.Proofs.YtndahppmjdbifaaGreatDoor.Nod

set_option linter.unusedVariables false
set_option linter.unusedSimpArgs false
namespace Go.Proofs.YtndahppmjdbifaaGreatDoor.Nod
open Go Go.Proofs Go.Proofs.YtndahppmjdbifaaGreatDoor.Eng Go.Proofs.YtndahppmjdbifaaGreatDoor.Pre Go.Proofs.YtndahppmjdbifaaGreatDoor.Val Go.Proofs.YtndahppmjdbifaaGreatDoor.Rou Go.Proofs.YtndahppmjdbifaaGreatDoor.Fra Go.Proofs.YtndahppmjdbifaaGreatDoor.Snd Go.Proofs.YtndahppmjdbifaaGreatDoor.Lnk Go.Proofs.YtndahppmjdbifaaGreatDoor.Jnl Go.Proofs.YtndahppmjdbifaaGreatDoor.Cli
section
variable {M : Mem} {w : World} {Ls : List Chunk}
theorem nhear_c (hG : Bits M) (b : ByteArray) (hbz : b.size ≤ 140737488351232) {p : Nat} {m : Nod} {H : Chunk} (hk : m.k.ok) (hb : IsN M p m H) (hS : St M w (H :: Ls)) :
    CallsR Tryz.prog 22 [.pointer (some ⟨p, 0, none⟩), .string b].toArray w fun v w' => ∃ H', v = .int .i64 (m.hearE b) ∧ IsN M p (m.hear b) H' ∧ St M w' (H' :: Ls) := by
  have hb0 := hb
  obtain ⟨jp, kp, cp, Hj, Hk, Hc, h1, h2, h3, rfl⟩ := hb
  replace hS := hS.un3
  refine calls_of (c := _) (rs := _) (n := 29) Tryz.func22 rfl rfl rfl rfl rfl ?_
  refine wc_seq ?_
  refine wc_region ?_
  refine wl (y_assign rfl) rfl ?_
  refine wl_nil ?_
  refine wc_seq ?_
  refine wc_region ?_
  refine wl (y_move rfl) rfl ?_
  refine wl_call (.cons rfl .nil) (fget_c hG b hbz hS) rfl ?_
  rintro _ w ⟨rfl, hS⟩
  refine wl (y_move rfl) rfl ?_
  refine wl (y_extract (vs := [_, _]) rfl rfl) rfl ?_
  refine wl (y_extract (vs := [_, _]) rfl rfl) rfl ?_
  refine a_alloc z_42 hS rfl fun b5 w hS => ?_
  refine a_storeS (vs := [_, _, _, _]) sz_42 rfl rfl rfl rfl hS (Nat.le_of_ble_eq_true rfl) fun w hS => ?_
  refine wl (y_assign rfl) rfl ?_
  refine wl_nil ?_
  refine wc_seq ?_
  refine wc_seq ?_
  refine wc_region ?_
  refine wl (y_move rfl) rfl ?_
  refine wl (y_neq rfl rfl) rfl ?_
  refine wl_nil ?_
  refine wc_if rfl (fun hc13 => ?_) (fun hc13 => ?_)
  · try simp only [zq1, zq2, zq3, zq4, zq5, zq6, zq7] at hc13
    have he : m.hearE b = fgetE b := by unfold Nod.hearE; rw [if_pos (by omega)]
    have hq : m.hear b = m := by unfold Nod.hear; rw [if_neg (by omega)]
    rw [he, hq]
    refine wc_seq ?_
    refine wc_region ?_
    refine wl (y_move rfl) rfl ?_
    refine wl (y_assign rfl) rfl ?_
    refine wl_nil ?_
    refine wc_ret ?_
    refine wret (vs := [_]) (.tmp rfl .nil) ?_
    first
    | exact ⟨_, rfl, ⟨jp, kp, cp, Hj, Hk1, Hc, h1, hk1, h3, rfl⟩, (by have h := hS.keep (T := ((p, nodO jp kp cp m) :: (Hj ++ (Hk1 ++ Hc))) :: Ls); exact h)⟩
    | exact ⟨_, rfl, hb0, hS.keep⟩
  · try simp only [zq1, zq2, zq3, zq4, zq5, zq6, zq7] at hc13
    refine wc_skip ?_
    refine wc_seq ?_
    refine wc_seq ?_
    refine wc_draw (l0 := (lb 8 0)) (fun w => w.cell? ⟨b5, 0, none⟩ = some (.int .i64 (fget b).ep) ∧ w.cell? ⟨p, 8, none⟩ = some (.pointer (some ⟨kp, 0, none⟩))) [] wide_ rfl rfl fun w hw => ?_
    replace hS := hS.same hw; clear hw
    refine dr_pure (i := 0) (lb 8 1) rfl rfl (by kernel_rfl) (fun w => y_fld fl_42_0 rfl) ?_
    refine dr_pure (i := 2) (lb 8 5) rfl rfl (by kernel_rfl) (fun w => y_move rfl) ?_
    refine dr_pure (i := 3) (lb 8 13) rfl rfl (by kernel_rfl) (fun w => y_nil rfl) ?_
    refine dr_pure (i := 4) (lb 8 29) rfl rfl (by kernel_rfl) (fun w => y_fld fl_97_3 rfl) ?_
    refine dr_read (i := 1) (lb 8 31) rfl rfl (by kernel_rfl) ⟨hS.cell rfl, hS.cell rfl⟩ (fun w hS => y_load pl_3 rfl hS.1) ?_
    refine dr_read (i := 5) (lb 8 63) rfl rfl (by kernel_rfl) ⟨hS.cell rfl, hS.cell rfl⟩ (fun w hS => y_load pl_94 rfl hS.2) ?_
    refine dr_do (i := 6) (lb 8 127) rfl (by kernel_rfl) ?_
    refine wl_call (.cons rfl .nil) (lepoch_c h2 (hS.pull Hk)) rfl ?_
    rintro _ w ⟨rfl, hS⟩
    refine wl_nil ⟨fun _ _ => ⟨hS.cell rfl, hS.cell rfl⟩, ?_⟩
    refine dr_pure (i := 7) (lb 8 255) rfl rfl (by kernel_rfl) (fun w => y_neq rfl rfl) ?_
    refine dr_done (by kernel_rfl) ?_
    refine wc_if rfl (fun hc22 => ?_) (fun hc22 => ?_)
    · try simp only [zq1, zq2, zq3, zq4, zq5, zq6, zq7] at hc22
      have he : m.hearE b = 9 := by unfold Nod.hearE; rw [if_neg (by omega), if_pos hc22]
      have hq : m.hear b = m := by unfold Nod.hear; rw [if_neg (by omega)]
      rw [he, hq]
      refine wc_seq ?_
      refine wc_region ?_
      refine wl (y_assign rfl) rfl ?_
      refine wl_nil ?_
      refine wc_ret ?_
      refine wret (vs := [_]) (.tmp rfl .nil) ?_
      first
      | exact ⟨_, rfl, ⟨jp, kp, cp, Hj, Hk1, Hc, h1, hk1, h3, rfl⟩, (by have h := hS.keep (T := ((p, nodO jp kp cp m) :: (Hj ++ (Hk1 ++ Hc))) :: Ls); exact h)⟩
      | exact ⟨_, rfl, hb0, hS.keep⟩
    · try simp only [zq1, zq2, zq3, zq4, zq5, zq6, zq7] at hc22
      have he : m.hearE b = 0 := by unfold Nod.hearE; rw [if_neg (by omega), if_neg (by omega)]
      have hq : m.hear b = { m with k := m.k.hear (fget b) } := by unfold Nod.hear; rw [if_pos he]
      rw [he, hq]
      refine wc_skip ?_
      refine wc_seq ?_
      refine wc_draw (l0 := (lb 6 0)) (fun w => w.cell? ⟨p, 8, none⟩ = some (.pointer (some ⟨kp, 0, none⟩)) ∧ CellsAt w b5 0 (encF.f (fget b))) [5] wide_ rfl rfl fun w hw => ?_
      replace hS := hS.same hw; clear hw
      refine dr_pure (i := 0) (lb 6 1) rfl rfl (by kernel_rfl) (fun w => y_move rfl) ?_
      refine dr_pure (i := 1) (lb 6 3) rfl rfl (by kernel_rfl) (fun w => y_nil rfl) ?_
      refine dr_pure (i := 2) (lb 6 7) rfl rfl (by kernel_rfl) (fun w => y_fld fl_97_3 rfl) ?_
      refine dr_read (i := 3) (lb 6 15) rfl rfl (by kernel_rfl) ⟨hS.cell rfl, hS.cells rfl⟩ (fun w hS => y_load pl_94 rfl hS.1) ?_
      refine dr_read (i := 4) (lb 6 31) rfl rfl (by kernel_rfl) ⟨hS.cell rfl, hS.cells rfl⟩ (fun w hS => (y_loadS st_42 sz_42 rfl hS.2 rfl).val (show _ = fv (fget b) from rfl)) ?_
      refine dr_do (i := 5) (lb 6 63) rfl (by kernel_rfl) ?_
      refine wl_call (.cons rfl (.cons rfl .nil)) (lhear_c (fget b) hk h2 (hS.pull Hk)) rfl ?_
      rintro _ w ⟨Hk1, rfl, hk1, hS⟩
      refine wl_nil ⟨fun h => absurd (by decide) h, ?_⟩
      refine dr_done (by kernel_rfl) ?_
      refine wc_seq ?_
      refine wc_region ?_
      refine wl (y_assign rfl) rfl ?_
      refine wl_nil ?_
      refine wc_ret ?_
      refine wret (vs := [_]) (.tmp rfl .nil) ?_
      first
      | exact ⟨_, rfl, ⟨jp, kp, cp, Hj, Hk1, Hc, h1, hk1, h3, rfl⟩, (by have h := hS.keep (T := ((p, nodO jp kp cp m) :: (Hj ++ (Hk1 ++ Hc))) :: Ls); exact h)⟩
      | exact ⟨_, rfl, hb0, hS.keep⟩
theorem nknown_c {p : Nat} {m : Nod} {H : Chunk} (hl : m.own.known.length ≤ 137438953472) (hb : IsN M p m H) (hS : St M w (H :: Ls)) :
    CallsR Tryz.prog 24 [.pointer (some ⟨p, 0, none⟩)].toArray w fun v w' => ∃ M' ys H', Mle M M' ∧ Own 48 encRV v ys H' ∧ Rvs M' ys m.own.known ∧ IsN M' p m H ∧ St M' w' (H' :: H :: Ls) := by
  have hb0 := hb
  obtain ⟨jp, kp, cp, Hj, Hk, Hc, h1, h2, h3, rfl⟩ := hb
  replace hS := hS.un3
  refine calls_of (c := _) (rs := _) (n := 8) Tryz.func24 rfl rfl rfl rfl rfl ?_
  refine wc_seq ?_
  refine wc_region ?_
  refine wl (y_assign rfl) rfl ?_
  refine wl_nil ?_
  refine wc_seq ?_
  refine wc_region ?_
  refine wl (y_move rfl) rfl ?_
  refine wl (y_nil rfl) rfl ?_
  refine wl (y_fld fl_97_4 rfl) rfl ?_
  refine wl (y_load pl_95 rfl (hS.cell (v := .pointer (some ⟨cp, 0, none⟩)) rfl)) rfl ?_
  refine wl_call (.cons rfl .nil) (cknown_c hl h3 (hS.pull Hc)) rfl ?_
  rintro v w ⟨M', zs, Hz, hM, ho, hr, _, hS⟩
  refine wl (y_assign rfl) rfl ?_
  refine wl_nil ?_
  refine wc_ret ?_
  refine wret (vs := [_]) (.tmp rfl .nil) ?_
  exact ⟨M', zs, Hz, hM, ho, hr, hb0.mono hM, hS.keep⟩
theorem njournal_c {p : Nat} {m : Nod} {H : Chunk} (hl : m.j.l.length ≤ 137438953472) (hb : IsN M p m H) (hS : St M w (H :: Ls)) :
    CallsR Tryz.prog 14 [.pointer (some ⟨p, 0, none⟩)].toArray w fun v w' => ∃ M' ys H', Mle M M' ∧ Own 48 encRV v ys H' ∧ Rvs M' ys (behind 0 m.j.l) ∧ IsN M' p m H ∧ St M' w' (H' :: H :: Ls) := by
  have hb0 := hb
  obtain ⟨jp, kp, cp, Hj, Hk, Hc, h1, h2, h3, rfl⟩ := hb
  replace hS := hS.un3
  refine calls_of (c := _) (rs := _) (n := 8) Tryz.func14 rfl rfl rfl rfl rfl ?_
  refine wc_seq ?_
  refine wc_region ?_
  refine wl (y_assign rfl) rfl ?_
  refine wl_nil ?_
  refine wc_seq ?_
  refine wc_region ?_
  refine wl (y_move rfl) rfl ?_
  refine wl (y_nil rfl) rfl ?_
  refine wl (y_fld fl_97_2 rfl) rfl ?_
  refine wl (y_load pl_93 rfl (hS.cell (v := .pointer (some ⟨jp, 0, none⟩)) rfl)) rfl ?_
  refine wl_call (.cons rfl (.cons rfl .nil)) (jfrom_c 0 hl h1 (hS.pull Hj)) rfl ?_
  rintro v w ⟨M', zs, Hz, hM, ho, hr, _, hS⟩
  refine wl (y_assign rfl) rfl ?_
  refine wl_nil ?_
  refine wc_ret ?_
  refine wret (vs := [_]) (.tmp rfl .nil) ?_
  exact ⟨M', zs, Hz, hM, ho, hr, hb0.mono hM, hS.keep⟩
theorem nconf_c {p : Nat} {m : Nod} {H : Chunk} (hb : IsN M p m H) (hS : St M w (H :: Ls)) :
    CallsR Tryz.prog 43 [.pointer (some ⟨p, 0, none⟩)].toArray w fun v w' => v = .bool (decide (m.own.pending = [] ∧ m.own.opn = [])) ∧ St M w' (H :: Ls) := by
  obtain ⟨jp, kp, cp, Hj, Hk, Hc, h1, h2, h3, rfl⟩ := hb
  replace hS := hS.un3
  refine calls_of (c := _) (rs := _) (n := 8) Tryz.func43 rfl rfl rfl rfl rfl ?_
  refine wc_seq ?_
  refine wc_region ?_
  refine wl (y_assign rfl) rfl ?_
  refine wl_nil ?_
  refine wc_seq ?_
  refine wc_region ?_
  refine wl (y_move rfl) rfl ?_
  refine wl (y_nil rfl) rfl ?_
  refine wl (y_fld fl_97_4 rfl) rfl ?_
  refine wl (y_load pl_95 rfl (hS.cell (v := .pointer (some ⟨cp, 0, none⟩)) rfl)) rfl ?_
  refine wl_call (.cons rfl .nil) (cconf_c h3 (hS.pull Hc)) rfl ?_
  rintro _ w ⟨rfl, hS⟩
  refine wl (y_assign rfl) rfl ?_
  refine wl_nil ?_
  refine wc_ret ?_
  refine wret (vs := [_]) (.tmp rfl .nil) ?_
  exact ⟨rfl, hS.keep⟩
end
end Go.Proofs.YtndahppmjdbifaaGreatDoor.Nod

set_option linter.unusedVariables false
set_option linter.unusedSimpArgs false
namespace Go.Proofs.YtndahppmjdbifaaGreatDoor.Nod
open Go Go.Proofs Go.Proofs.YtndahppmjdbifaaGreatDoor.Eng Go.Proofs.YtndahppmjdbifaaGreatDoor.Pre Go.Proofs.YtndahppmjdbifaaGreatDoor.Val Go.Proofs.YtndahppmjdbifaaGreatDoor.Rou Go.Proofs.YtndahppmjdbifaaGreatDoor.Fra Go.Proofs.YtndahppmjdbifaaGreatDoor.Snd Go.Proofs.YtndahppmjdbifaaGreatDoor.Lnk Go.Proofs.YtndahppmjdbifaaGreatDoor.Jnl Go.Proofs.YtndahppmjdbifaaGreatDoor.Cli
/-- how a node stands -/
structure Look where
  ep : Int
  known : Int
  pending : Int
  opn : Int
  came : Int
  unacked : Int
deriving DecidableEq
def lkV (x : Look) : Value := .agg [.int .i64 x.ep, .int .i64 x.known, .int .i64 x.pending, .int .i64 x.opn, .int .i64 x.came, .int .i64 x.unacked].toArray
def Nod.look (m : Nod) : Look := ⟨m.k.ep, m.own.known.length, m.own.pending.length, m.own.opn.length, m.k.r.wait, (m.k.s.all.length - m.k.s.acked : Nat)⟩
def Nod.small (m : Nod) : Prop := m.own.known.length ≤ 13743895 ∧ m.own.pending.length ≤ 13743895 ∧ m.own.opn.length ≤ 13743895 ∧ m.j.l.length ≤ 13743895
section
variable {M : Mem} {w : World} {Ls : List Chunk}
theorem nlook_c {p : Nat} {m : Nod} {H : Chunk} (hs : m.small) (hb : IsN M p m H) (hS : St M w (H :: Ls)) :
    CallsR Tryz.prog 13 [.pointer (some ⟨p, 0, none⟩)].toArray w fun v w' => ∃ M', Mle M M' ∧ v = lkV m.look ∧ IsN M' p m H ∧ St M' w' (H :: Ls) := by
  have hb0 := hb
  obtain ⟨s1, s2, s3, s4⟩ := hs
  obtain ⟨jp, kp, cp, Hj, Hk, Hc, h1, h2, h3, rfl⟩ := hb
  replace hS := hS.un3
  refine calls_of (c := _) (rs := _) (n := 37) Tryz.func13 rfl rfl rfl rfl rfl ?_
  refine wc_seq ?_
  refine wc_region ?_
  refine a_alloc z_30 hS rfl fun b2 w hS => ?_
  refine wl_nil ?_
  refine wc_seq ?_
  refine wc_draw (l0 := (lb 35 0)) (fun w => w.cell? ⟨p, 8, none⟩ = some (.pointer (some ⟨kp, 0, none⟩)) ∧ w.cell? ⟨p, 9, none⟩ = some (.pointer (some ⟨cp, 0, none⟩))) [] wide_ rfl rfl fun w hw => ?_
  replace hS := hS.same hw; clear hw
  refine dr_pure (i := 0) (lb 35 1) rfl rfl (by kernel_rfl) (fun w => y_move rfl) ?_
  refine dr_pure (i := 1) (lb 35 3) rfl rfl (by kernel_rfl) (fun w => y_nil rfl) ?_
  refine dr_pure (i := 2) (lb 35 7) rfl rfl (by kernel_rfl) (fun w => y_fld fl_97_3 rfl) ?_
  refine dr_pure (i := 5) (lb 35 39) rfl rfl (by kernel_rfl) (fun w => y_move rfl) ?_
  refine dr_pure (i := 6) (lb 35 103) rfl rfl (by kernel_rfl) (fun w => y_nil rfl) ?_
  refine dr_pure (i := 7) (lb 35 231) rfl rfl (by kernel_rfl) (fun w => y_fld fl_97_4 rfl) ?_
  refine dr_pure (i := 11) (lb 35 2279) rfl rfl (by kernel_rfl) (fun w => y_move rfl) ?_
  refine dr_pure (i := 12) (lb 35 6375) rfl rfl (by kernel_rfl) (fun w => y_nil rfl) ?_
  refine dr_pure (i := 13) (lb 35 14567) rfl rfl (by kernel_rfl) (fun w => y_fld fl_97_4 rfl) ?_
  refine dr_pure (i := 17) (lb 35 145639) rfl rfl (by kernel_rfl) (fun w => y_move rfl) ?_
  refine dr_pure (i := 18) (lb 35 407783) rfl rfl (by kernel_rfl) (fun w => y_nil rfl) ?_
  refine dr_pure (i := 19) (lb 35 932071) rfl rfl (by kernel_rfl) (fun w => y_fld fl_97_4 rfl) ?_
  refine dr_pure (i := 23) (lb 35 9320679) rfl rfl (by kernel_rfl) (fun w => y_move rfl) ?_
  refine dr_pure (i := 24) (lb 35 26097895) rfl rfl (by kernel_rfl) (fun w => y_nil rfl) ?_
  refine dr_pure (i := 25) (lb 35 59652327) rfl rfl (by kernel_rfl) (fun w => y_fld fl_97_3 rfl) ?_
  refine dr_pure (i := 28) (lb 35 328087783) rfl rfl (by kernel_rfl) (fun w => y_move rfl) ?_
  refine dr_pure (i := 29) (lb 35 864958695) rfl rfl (by kernel_rfl) (fun w => y_nil rfl) ?_
  refine dr_pure (i := 30) (lb 35 1938700519) rfl rfl (by kernel_rfl) (fun w => y_fld fl_97_3 rfl) ?_
  refine dr_read (i := 3) (lb 35 1938700527) rfl rfl (by kernel_rfl) ⟨hS.cell rfl, hS.cell rfl⟩ (fun w hS => y_load pl_94 rfl hS.1) ?_
  refine dr_read (i := 8) (lb 35 1938700783) rfl rfl (by kernel_rfl) ⟨hS.cell rfl, hS.cell rfl⟩ (fun w hS => y_load pl_95 rfl hS.2) ?_
  refine dr_read (i := 14) (lb 35 1938717167) rfl rfl (by kernel_rfl) ⟨hS.cell rfl, hS.cell rfl⟩ (fun w hS => y_load pl_95 rfl hS.2) ?_
  refine dr_read (i := 20) (lb 35 1939765743) rfl rfl (by kernel_rfl) ⟨hS.cell rfl, hS.cell rfl⟩ (fun w hS => y_load pl_95 rfl hS.2) ?_
  refine dr_read (i := 26) (lb 35 2006874607) rfl rfl (by kernel_rfl) ⟨hS.cell rfl, hS.cell rfl⟩ (fun w hS => y_load pl_94 rfl hS.1) ?_
  refine dr_read (i := 31) (lb 35 4154358255) rfl rfl (by kernel_rfl) ⟨hS.cell rfl, hS.cell rfl⟩ (fun w hS => y_load pl_94 rfl hS.1) ?_
  refine dr_do (i := 4) (lb 35 4154358271) rfl (by kernel_rfl) ?_
  refine wl_call (.cons rfl .nil) (lepoch_c h2 (hS.pull Hk)) rfl ?_
  rintro _ w ⟨rfl, hS⟩
  refine wl_nil ⟨fun _ _ => ⟨hS.cell rfl, hS.cell rfl⟩, ?_⟩
  refine dr_do (i := 9) (lb 35 4154358783) rfl (by kernel_rfl) ?_
  refine wl_call (.cons rfl .nil) (cknown_c (by omega) h3 (hS.pull Hc)) rfl ?_
  rintro v w ⟨M1, zs1, Hz1, hM1, ho1, hr1, h3, hS⟩
  obtain ⟨a1, c1, rfl⟩ := ho1.slice
  have e1 := hr1.len
  refine wl_nil ⟨fun _ _ => ⟨hS.cell rfl, hS.cell rfl⟩, ?_⟩
  refine dr_pure (i := 10) (lb 35 4154359807) rfl rfl (by kernel_rfl) (fun w => y_len_sl Tryz.underlying32 rfl) ?_
  refine dr_do (i := 15) (lb 35 4154392575) rfl (by kernel_rfl) ?_
  refine wl_call (.cons rfl .nil) (cpending_c (by omega) h3 (hS.pull Hc)) rfl ?_
  rintro v w ⟨M2, zs2, Hz2, hM2, ho2, hr2, h3, hS⟩
  obtain ⟨a2, c2, rfl⟩ := ho2.slice
  have e2 := hr2.len
  refine wl_nil ⟨fun _ _ => ⟨hS.cell rfl, hS.cell rfl⟩, ?_⟩
  refine dr_pure (i := 16) (lb 35 4154458111) rfl rfl (by kernel_rfl) (fun w => y_len_sl Tryz.underlying32 rfl) ?_
  refine dr_do (i := 21) (lb 35 4156555263) rfl (by kernel_rfl) ?_
  refine wl_call (.cons rfl .nil) (copen_c (by omega) h3 (hS.pull Hc)) rfl ?_
  rintro v w ⟨Hz3, ho3, hS⟩
  obtain ⟨a3, c3, rfl⟩ := ho3.slice
  refine wl_nil ⟨fun _ _ => ⟨hS.cell rfl, hS.cell rfl⟩, ?_⟩
  refine dr_pure (i := 22) (lb 35 4160749567) rfl rfl (by kernel_rfl) (fun w => y_len_sl Tryz.underlying46 rfl) ?_
  refine dr_do (i := 27) (lb 35 4294967295) rfl (by kernel_rfl) ?_
  refine wl_call (.cons rfl .nil) (lwait_c h2 (hS.pull Hk)) rfl ?_
  rintro _ w ⟨rfl, hS⟩
  refine wl_nil ⟨fun _ _ => ⟨hS.cell rfl, hS.cell rfl⟩, ?_⟩
  refine dr_do (i := 32) (lb 35 8589934591) rfl (by kernel_rfl) ?_
  refine wl_call (.cons rfl .nil) (lunacked_c h2 (hS.pull Hk)) rfl ?_
  rintro _ w ⟨rfl, hS⟩
  refine wl_nil ⟨fun _ _ => ⟨hS.cell rfl, hS.cell rfl⟩, ?_⟩
  refine dr_pure (i := 33) (lb 35 17179869183) rfl rfl (by kernel_rfl) (fun w => y_build (is := [0, 1, 2, 3, 4, 5]) (xs := [_, _, _, _, _, _]) (out := [_, _, _, _, _, _]) plc_30 z_30 (.cons rfl (.cons rfl (.cons rfl (.cons rfl (.cons rfl (.cons rfl .nil)))))) rfl) ?_
  refine dr_do (i := 34) (lb 35 34359738367) rfl (by kernel_rfl) ?_
  refine a_storeS (vs := [_, _, _, _, _, _]) sz_30 rfl rfl rfl rfl hS (Nat.le_of_ble_eq_true rfl) fun w hS => ?_
  refine wl_nil ⟨fun _ _ => ⟨hS.cell rfl, hS.cell rfl⟩, ?_⟩
  refine dr_done (by kernel_rfl) ?_
  refine wc_ret ?_
  refine wret (vs := [_]) (.cell rfl (loadVar_struct st_30 sz_30 (vs := [_, _, _, _, _, _]) rfl (hS.cells rfl)) .nil) ?_
  exact ⟨M2, hM1.trans hM2, by unfold lkV Nod.look; simp only; rw [← e1, ← e2]; rfl, hb0.mono (hM1.trans hM2), hS.keep⟩
end
end Go.Proofs.YtndahppmjdbifaaGreatDoor.Nod

