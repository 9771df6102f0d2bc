/- Walks: slices.Clone at flat elements. -/
import Derived.Test.YthimhcbjboffcaaDoorWords
namespace Go.Proofs.YthimhcbjboffcaaDoor
open Go Go.RowKit
/-- Clone: a row of the call's own. -/
theorem clone_rule (xs : List Rule) (v : Value) (w : World) (hv : RdL TRule w xs v) (hb : xs.length * 48 ≤ 140737488355328) :
    Calls Tryd.prog 14 #[v] w fun e w' => ∃ v', e = .returned v' ∧ w'.ownsRow w.heap.size 41 6 v' xs.length (xs.flatMap Rule.cells) ∧ Ext w w' := by
  obtain ⟨A, c, rfl, hn, hc, h3⟩ := hv.form
  obtain ⟨i0, hi, hz0, hz1, hz2⟩ := info_of info_rule
  have hnil := fun w' a l c' => Lib.run_eql_slice_nil (P := Tryd.prog) w' 23 41 a l c' 0 0 Tryd.underlying23
  have hmk : ∀ w', (Instr.buildSlice 23 0 #[]).run Tryd.prog w' = .ok (.slice (some ⟨w'.heap.size, 0, none⟩) 0 0) (w'.alloc (.cells #[] 41)) := fun w' => by kernel_rfl
  cases A with
  | none =>
    have hx : xs = [] := by
      rcases xs with _ | ⟨a, l⟩
      · rfl
      · obtain ⟨b, off, h, _⟩ := h3 (by simp)
        cases h
    subst hx
    go_enter Tryd.func14, Tryd.ntmps14
    go_wp2
    go_ret
    exact ⟨_, rfl, World.ownsRow_nil _ _ _ _, ext_refl _⟩
  | some ad =>
    have HS := Lib.hid fun o => (hv.ext (ext_alloc (ext_refl w) o)).src.2
    have HB := Lib.hid (by rw [Nat.zero_add]; exact hb : (0 + xs.length) * 48 ≤ 140737488355328)
    have HC := Lib.hid (by omega : 0 + xs.length ≤ maxLen)
    clear hv h3 hb hc
    go_enter Tryd.func14, Tryd.ntmps14
    go_wp2_with (at_builtin; refine wpList_append_src _ rfl (.tmp 5) (.tmp 6) _ rfl w.heap.size 41 i0 _ 6 48 Tryd.underlying23 hi hz0 hz1 hz2 rfl (Nat.zero_lt_succ _) _ 0 [] rfl (own_empty w _ _) _ xs.length c _ rfl (HS.out _) (one_all one_rule) HC.out HB.out (le_alloc _ _) ?_; intro v' w1 hown hgr _; have hX := own_ext (W := w) (ext_alloc (ext_refl w) _) (own_empty w 41 6) hgr (Nat.le_refl _); rw [Nat.zero_add, List.nil_append] at hown)
    go_ret
    exact ⟨_, rfl, hown, hX⟩

end Go.Proofs.YthimhcbjboffcaaDoor
