/- Walk: slices.Index of a rule in a table. -/
import Derived.Test.YthimhcbjboffcaaDoorWords
namespace Go.Proofs.YthimhcbjboffcaaDoor
open Go Go.RowKit
set_option maxHeartbeats 400000 in
theorem index_rule (xs : List Rule) (v : Value) (r : Rule) (w : World) (hv : RdL TRule w xs v) :
    Calls Tryd.prog 32 #[v, .agg #[i64 r.prio, i64 r.cube.mask, i64 r.cube.bits, i64 r.out, i64 r.set, i64 r.value]] w
      fun e w' => e = .returned (.int .i64 (idxOf (fun x => decide (x = r)) xs)) ∧ Ext w w' := by
  obtain ⟨A, c, rfl, hn, hc, _⟩ := hv.form
  unfold maxLen at hc
  go_enter Tryd.func32, Tryd.ntmps32
  go_wp2_with fail
  go_loopw [8] (fun i wr => ∃ k : Nat, k ≤ xs.length ∧ i = .int .i64 k ∧ Ext (w.alloc (.cells #[i64 r.prio, i64 r.cube.mask, i64 r.cube.bits, i64 r.out, i64 r.set, i64 r.value] 41)) wr ∧ ∀ (j : Nat) x, j < k → xs[j]? = some x → decide (x = r) = false) (fun i _ => xs.length - (intOf i).toNat)
  case atStart => exact ⟨0, Nat.zero_le _, rfl, ext_refl _, fun _ _ h => by omega⟩
  case round =>
    obtain ⟨k, hk, rfl, hE, hno⟩ := hrel
    have HN := Lib.hid hno; clear hno
    by_cases hlt : k < xs.length
    · obtain ⟨b, off, rfl, hb, hrow⟩ := hv.at_ hlt
      obtain ⟨cs, hr, hrel⟩ := hrow k _ (List.getElem?_eq_getElem hlt)
      obtain ⟨rfl, _⟩ : cs = Rule.cells xs[k] ∧ _ := hrel
      have hX := (ext_alloc (ext_refl w) _).trans hE
      obtain ⟨c0, c1, c2, c3, c4, c5⟩ := rule_cells (rangeAt_block hr (hX.block hb) : wr.rangeAt b (off + k * 6) _)
      obtain ⟨d0, d1, d2, d3, d4, d5⟩ := rule_cells (rangeAt_block (rangeAt_new w (Rule.cells r) 41) (hE.block (by simp)) : wr.rangeAt w.heap.size 0 (Rule.cells r))
      clear hr hrow
      generalize hrk : xs[k] = x at c0 c1 c2 c3 c4 c5
      have HK := Lib.hid hrk; clear hrk
      have hk0 : (0 : Int) ≤ (k : Int) := by omega
      have hk1 : (k : Int) < (xs.length : Int) := by omega
      go_wp2_with fail
      go_quiet (fail)
      go_wp2_with fail
      · have hx : x = r := ((Rule.eq_iff _ _).2 ‹_›).symm
        have HX := Lib.hid hx; clear hx
        go_ret
        exact ⟨ret_int (idxOf_at (List.getElem?_eq_getElem hlt) (by rw [HK.out, HX.out]; simp) HN.out).symm, ext_drewN hX _⟩
      · have hx : ¬ x = r := fun e => Rule.ne_of (a := r) (b := x) ‹_› e.symm
        have HX := Lib.hid hx; clear hx
        go_roundw
        case rel => exact ⟨k + 1, by omega, by go_num, ext_drewN hE _, none_succ hlt HN.out (by rw [HK.out]; simpa using HX.out)⟩
        case measure => simp [intOf]; omega
    · have hke : k = xs.length := by omega
      have HK := Lib.hid hke; clear hke
      go_wp2
      go_ret
      exact ⟨ret_int (idxOf_none fun j x hx => HN.out j x (by rw [HK.out]; exact (List.getElem?_eq_some_iff.1 hx).1) hx).symm, (ext_alloc (ext_refl w) _).trans hE⟩
end Go.Proofs.YthimhcbjboffcaaDoor
