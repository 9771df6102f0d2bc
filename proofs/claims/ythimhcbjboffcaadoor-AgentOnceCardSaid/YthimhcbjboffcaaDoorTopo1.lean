/- Walks: names and spots. -/
import Derived.Test.YthimhcbjboffcaaDoorMaps
import Derived.Lib.ConvBytes
import Derived.Lib.SmallJoins
namespace Go.Proofs.YthimhcbjboffcaaDoor
open Go Go.RowKit
def spotOk (sw : Int) (s : Spot) : Bool := decide (1 ≤ s.switch ∧ s.switch ≤ sw ∧ 1 ≤ s.port ∧ s.port ≤ 4)
def nameOk (s : ByteArray) : Bool := s.data.toList.all (fun c => decide (97 ≤ (c.toNat : Int) ∧ (c.toNat : Int) ≤ 122)) && decide (0 < s.size ∧ s.size ≤ 6)
theorem spot_any (sw : Int) (vl vh : Value) (s : Spot) (w : World) :
    Calls Tryd.prog 39 #[.agg #[i64 sw, vl, vh], .agg #[i64 s.switch, i64 s.port]] w fun e w' => e = .returned (.bool (spotOk sw s)) ∧ Ext w w' := by
  by_cases h1 : 1 ≤ s.switch
  · by_cases h2 : s.switch ≤ sw
    · by_cases h3 : 1 ≤ s.port
      all_goals
        go_enter Tryd.func39, Tryd.ntmps39
        go_wp2
        go_ret
        exact ⟨ret_bool (by simp [spotOk, h1, h2]; omega), (by repeat first | assumption | exact ext_refl _ | apply ext_alloc | apply ext_drewN | apply ext_drew)⟩
    · go_enter Tryd.func39, Tryd.ntmps39
      go_wp2
      go_ret
      exact ⟨ret_bool (by simp [spotOk, h1]; omega), (by repeat first | assumption | exact ext_refl _ | apply ext_alloc | apply ext_drewN | apply ext_drew)⟩
  · go_enter Tryd.func39, Tryd.ntmps39
    go_wp2
    go_ret
    exact ⟨ret_bool (by simp [spotOk]; omega), (by repeat first | assumption | exact ext_refl _ | apply ext_alloc | apply ext_drewN | apply ext_drew)⟩
theorem size_of_nil {s : ByteArray} (h : s.toList = []) : s.size = 0 := by
  rw [ByteArray.toList_eq] at h
  have := congrArg List.length h
  rw [Array.length_toList] at this
  exact this
theorem size_pos {s : ByteArray} (h : ¬ s.toList = []) : 0 < s.size := by
  rw [ByteArray.toList_eq] at h
  have h2 : s.data.toList.length ≠ 0 := fun e => h (List.eq_nil_of_length_eq_zero e)
  rw [Array.length_toList] at h2
  exact Nat.pos_of_ne_zero h2
def letterOk (c : UInt8) : Bool := decide (97 ≤ (c.toNat : Int) ∧ (c.toNat : Int) ≤ 122)
theorem all_take_succ {p : UInt8 → Bool} {l : List UInt8} {k : Nat} (hk : k < l.length) (h : (l.take k).all p = true) (hp : p l[k] = true) : (l.take (k + 1)).all p = true := by
  rw [List.take_succ_eq_append_getElem hk, List.all_append, h]; simp [hp]
theorem not_all {p : UInt8 → Bool} {l : List UInt8} {k : Nat} (hk : k < l.length) (hp : p l[k] = false) : l.all p = false := by
  rw [List.all_eq_false]; exact ⟨_, List.getElem_mem hk, by simp [hp]⟩
theorem nameOk_no {s : ByteArray} {k : Nat} (hk : k < s.data.toList.length) (hp : letterOk s.data.toList[k] = false) : nameOk s = false := by
  have h := not_all hk hp
  unfold nameOk
  unfold letterOk at h
  rw [h]; rfl
theorem nameOk_yes {s : ByteArray} (h : s.data.toList.all letterOk = true) : nameOk s = decide (0 < s.size ∧ s.size ≤ 6) := by
  unfold nameOk
  unfold letterOk at h
  rw [h]; simp
set_option maxRecDepth 100000 in
theorem name_any (s : ByteArray) (w : World) (hs : s.size ≤ maxLen) :
    Calls Tryd.prog 40 #[.string s] w fun e w' => e = .returned (.bool (nameOk s)) ∧ Ext w w' := by
  have hcv := fun w => Lib.run_convert_string_bytes (P := Tryd.prog) w 9 117 5 s Tryd.underlying9 Tryd.underlying117 Tryd.underlying5
  have HC := Lib.hid fun j h => Lib.bytesWorld_cell w 5 s j h
  have hX : Ext w (Lib.bytesWorld w 5 s) := Joins.below_bytesWorld _ w 5 s (Nat.le_refl _)
  generalize hW : Lib.bytesWorld w 5 s = W at HC hX
  have hcv' := hcv w
  rw [hW] at hcv'
  clear hcv hW
  have hls : s.data.toList.length = s.size := Array.length_toList
  have HL := Lib.hid hls
  clear hls
  unfold maxLen at hs
  go_enter Tryd.func40, Tryd.ntmps40
  go_wp2_with fail
  go_loop [8] (fun i => ∃ k : Nat, k ≤ s.size ∧ i = .int .i64 k ∧ (s.data.toList.take k).all letterOk = true) (fun i => s.size - (intOf i).toNat)
  case atStart => exact ⟨0, Nat.zero_le _, rfl, rfl⟩
  case round =>
    obtain ⟨k, hk, rfl, hall⟩ := hrel
    have HA := Lib.hid hall; clear hall
    by_cases hlt : k < s.size
    · have hlt' : k < s.data.toList.length := by rw [HL.out]; exact hlt
      have hck := HC.out k hlt
      have hgd : s.data.toList.getD k 0 = s.data.toList[k] := by rw [List.getD, List.getElem?_eq_getElem hlt']; rfl
      rw [hgd] at hck
      generalize hcc : s.data.toList[k] = c at hck
      have HCC := Lib.hid hcc
      clear hcc hgd
      go_wp2
      · go_ret
        exact ⟨ret_bool (nameOk_no hlt' (by rw [HCC.out]; unfold letterOk; rw [decide_eq_false_iff_not]; omega)).symm, hX⟩
      · go_round
        case rel => exact ⟨k + 1, by omega, by go_num, all_take_succ hlt' HA.out (by rw [HCC.out]; unfold letterOk; rw [decide_eq_true_iff]; omega)⟩
        case measure => simp [intOf]; omega
      · go_ret
        exact ⟨ret_bool (nameOk_no hlt' (by rw [HCC.out]; unfold letterOk; rw [decide_eq_false_iff_not]; omega)).symm, hX⟩
    · have hke : k = s.size := by omega
      have HK := Lib.hid hke; clear hke
      have hall : s.data.toList.all letterOk = true := by
        have h := HA.out
        rwa [HK.out, ← HL.out, List.take_length] at h
      have HY := Lib.hid (nameOk_yes hall)
      clear hall
      go_wp2
      all_goals go_ret
      all_goals refine ⟨ret_bool ?_, hX⟩
      all_goals rw [HY.out]
      · have := size_of_nil ‹_›
        simp [this]
      · have h1 := size_pos ‹¬ s.toList = []›
        have h2 : s.toList.isEmpty = false := by simpa using ‹¬ s.toList = []›
        rw [h2]
        show (true && _) = _
        rw [Bool.true_and]
        exact decide_eq_decide.2 ⟨fun h => ⟨h1, by omega⟩, fun h => by omega⟩
end Go.Proofs.YthimhcbjboffcaaDoor
