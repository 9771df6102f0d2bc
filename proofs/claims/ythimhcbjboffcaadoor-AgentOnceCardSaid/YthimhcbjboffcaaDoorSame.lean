/- Walks: what the statements ask alike: are two lists the same? -/
import Derived.Test.YthimhcbjboffcaaDoorWords
namespace Go.Proofs.YthimhcbjboffcaaDoor
open Go Go.RowKit
theorem take_step_rule {xs ys : List Rule} {k : Nat} (h1 : k < xs.length) (h2 : k < ys.length) (h : xs.take k = ys.take k) (e : xs[k] = ys[k]) : xs.take (k + 1) = ys.take (k + 1) := by
  rw [List.take_succ_eq_append_getElem h1, List.take_succ_eq_append_getElem h2, h, e]
set_option maxHeartbeats 400000 in
/-- Are two lists the same? -/
theorem same_rule (xs ys : List Rule) (v v2 : Value) (w : World) (hv : RdL TRule w xs v) (hv2 : RdL TRule w ys v2) :
    Calls Tryd.prog 8 #[v, v2] w fun e w' => e = .returned (.bool (decide (xs = ys))) ∧ Ext w w' := by
  obtain ⟨A, c, rfl, hn, hc, _⟩ := hv.form
  obtain ⟨A2, c2, rfl, hn2, hc2, _⟩ := hv2.form
  unfold maxLen at hc hc2
  by_cases hl : xs.length = ys.length
  · have HL := Lib.hid hl
    have hl0 : ((xs.length : Int) != (ys.length : Int)) = false := by simp [hl]
    have hl1 : (decide ((xs.length : Int) = (ys.length : Int))) = true := by simp [hl]
    clear hl
    go_enter Tryd.func8, Tryd.ntmps8
    go_wp2_with fail
    go_loopw [5] (fun i wr => ∃ k : Nat, k ≤ xs.length ∧ i = .int .i64 k ∧ Ext w wr ∧ xs.take k = ys.take k) (fun i _ => xs.length - (intOf i).toNat)
    case atStart => exact ⟨0, Nat.zero_le _, rfl, ext_refl _, rfl⟩
    case round =>
      obtain ⟨k, hk, rfl, hE, hno⟩ := hrel
      have HN := Lib.hid hno; clear hno
      by_cases hlt : k < xs.length
      · have hlt2 : k < ys.length := by have := HL.out; omega
        obtain ⟨b, off, rfl, hb, hrow⟩ := hv.at_ hlt
        obtain ⟨cs, hr, hrel⟩ := hrow k _ (List.getElem?_eq_getElem hlt)
        obtain ⟨rfl, _⟩ : cs = Rule.cells xs[k] ∧ _ := hrel
        obtain ⟨b2, off2, rfl, hb2, hrow2⟩ := hv2.at_ hlt2
        obtain ⟨cs2, hr2, hrel2⟩ := hrow2 k _ (List.getElem?_eq_getElem hlt2)
        obtain ⟨rfl, _⟩ : cs2 = Rule.cells ys[k] ∧ _ := hrel2
        have hc1 := rule_cells (rangeAt_block hr (hE.block hb) : wr.rangeAt b (off + k * 6) _)
        have hc2 := rule_cells (rangeAt_block hr2 (hE.block hb2) : wr.rangeAt b2 (off2 + k * 6) _)
        clear hr hrow hr2 hrow2
        generalize hrk : xs[k] = x at hc1
        generalize hrk2 : ys[k] = y at hc2
        have HK := Lib.hid hrk; clear hrk
        have HK2 := Lib.hid hrk2; clear hrk2
        have hk0 : (0 : Int) ≤ (k : Int) := by omega
        have hk1 : (k : Int) < (xs.length : Int) := by omega
        have hk2 : (k : Int) < (ys.length : Int) := by omega
        go_wp2_with fail
        go_quiet (fail)
        go_wp2_with fail
        · have hx : ¬ x = y := by
            intro e
            have h := (Rule.eq_iff _ _).1 e
            simp_all
          have HX := Lib.hid hx; clear hx
          go_ret
          refine ⟨ret_bool ?_, ext_drewN hE _⟩
          symm
          rw [decide_eq_false_iff_not]
          intro e
          apply HX.out
          rw [← HK.out, ← HK2.out]
          simp [e]
        · have hx : x = y := (Rule.eq_iff _ _).2 (by simp_all)
          have HX := Lib.hid hx; clear hx
          go_roundw
          case rel => exact ⟨k + 1, by omega, by go_num, ext_drewN hE _, take_step_rule hlt hlt2 HN.out (by rw [HK.out, HK2.out, HX.out])⟩
          case measure => simp [intOf]; omega
      · have hke : k = xs.length := by omega
        have HK := Lib.hid hke; clear hke
        go_wp2
        go_ret
        refine ⟨ret_bool ?_, hE⟩
        symm
        rw [decide_eq_true_iff]
        have h := HN.out
        rwa [HK.out, List.take_length, HL.out, List.take_length] at h
  · have hl0 : ((xs.length : Int) != (ys.length : Int)) = true := by simp; omega
    have hl1 : (decide ((xs.length : Int) = (ys.length : Int))) = false := by simp; omega
    go_enter Tryd.func8, Tryd.ntmps8
    go_wp2
    go_ret
    refine ⟨ret_bool ?_, ext_refl _⟩
    symm
    rw [decide_eq_false_iff_not]
    intro e; exact hl (by rw [e])

end Go.Proofs.YthimhcbjboffcaaDoor
