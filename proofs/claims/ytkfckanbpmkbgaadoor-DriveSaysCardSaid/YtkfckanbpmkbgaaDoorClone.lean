/- Walks: slices.Clone at flat elements. -/
import Derived.Test.YtkfckanbpmkbgaaDoorWords
namespace Go.Proofs.YtkfckanbpmkbgaaDoor
open Go Go.RowKit
abbrev Int.cells (n : Int) : List Value := [i64 n]
theorem one_int (a : Int) : ∀ u ∈ Int.cells a, u.oneCell' = true := by intro u hu; simp [Int.cells] at hu; subst hu; rfl
theorem info_int : (Tryd.prog.info? 3).map (fun i => (i.zero, i.size, i.bytes)) = some (some (i64 0), 1, 8) := by kernel_rfl
theorem flat_int : ∀ xs : List Int, xs.flatMap Int.cells = xs.map i64
  | [] => rfl
  | a :: xs => by rw [List.flatMap_cons, flat_int xs]; rfl
/-- Clone: a row of the call's own. -/
theorem clone_op (xs : List Op) (v : Value) (w : World) (hv : RdL TOp w xs v) (hb : xs.length * 64 ≤ 140737488355328) :
    Calls Tryd.prog 22 #[v] w fun e w' => ∃ v', e = .returned v' ∧ w'.ownsRow w.heap.size 37 8 v' xs.length (xs.flatMap Op.cells) ∧ Ext w w' := by
  obtain ⟨A, c, rfl, hn, hc, h3⟩ := hv.form
  obtain ⟨i0, hi, hz0, hz1, hz2⟩ := info_of info_op
  have hnil := fun w' a l c' => Lib.run_eql_slice_nil (P := Tryd.prog) w' 43 37 a l c' 0 0 Tryd.underlying43
  have hmk : ∀ w', (Instr.buildSlice 43 0 #[]).run Tryd.prog w' = .ok (.slice (some ⟨w'.heap.size, 0, none⟩) 0 0) (w'.alloc (.cells #[] 37)) := fun w' => by kernel_rfl
  cases A with
  | none =>
    have hx : xs = [] := by
      rcases xs with _ | ⟨a, l⟩
      · rfl
      · obtain ⟨b, off, h, _⟩ := h3 (by simp)
        cases h
    subst hx
    go_enter Tryd.func22, Tryd.ntmps22
    go_wp2
    go_ret
    exact ⟨_, rfl, World.ownsRow_nil _ _ _ _, ext_refl _⟩
  | some ad =>
    have HS := Lib.hid fun o => (hv.ext (ext_alloc (ext_refl w) o)).src.2
    have HB := Lib.hid (by rw [Nat.zero_add]; exact hb : (0 + xs.length) * 64 ≤ 140737488355328)
    have HC := Lib.hid (by omega : 0 + xs.length ≤ maxLen)
    clear hv h3 hb hc
    go_enter Tryd.func22, Tryd.ntmps22
    go_wp2_with (at_builtin; refine wpList_append_src _ rfl (.tmp 5) (.tmp 6) _ rfl w.heap.size 37 i0 _ 8 64 Tryd.underlying43 hi hz0 hz1 hz2 rfl (Nat.zero_lt_succ _) _ 0 [] rfl (own_empty w _ _) _ xs.length c _ rfl (HS.out _) (one_all one_op) HC.out HB.out (le_alloc _ _) ?_; intro v' w1 hown hgr _; have hX := own_ext (W := w) (ext_alloc (ext_refl w) _) (own_empty w 37 8) hgr (Nat.le_refl _); rw [Nat.zero_add, List.nil_append] at hown)
    go_ret
    exact ⟨_, rfl, hown, hX⟩

/-- Clone: a row of the call's own. -/
theorem clone_int (xs : List Int) (v : Value) (w : World) (hv : RdL TInt w xs v) (hb : xs.length * 8 ≤ 140737488355328) :
    Calls Tryd.prog 27 #[v] w fun e w' => ∃ v', e = .returned v' ∧ w'.ownsRow w.heap.size 3 1 v' xs.length (xs.flatMap Int.cells) ∧ Ext w w' := by
  obtain ⟨A, c, rfl, hn, hc, h3⟩ := hv.form
  obtain ⟨i0, hi, hz0, hz1, hz2⟩ := info_of info_int
  have hnil := fun w' a l c' => Lib.run_eql_slice_nil (P := Tryd.prog) w' 40 3 a l c' 0 0 Tryd.underlying40
  have hmk : ∀ w', (Instr.buildSlice 40 0 #[]).run Tryd.prog w' = .ok (.slice (some ⟨w'.heap.size, 0, none⟩) 0 0) (w'.alloc (.cells #[] 3)) := fun w' => by kernel_rfl
  cases A with
  | none =>
    have hx : xs = [] := by
      rcases xs with _ | ⟨a, l⟩
      · rfl
      · obtain ⟨b, off, h, _⟩ := h3 (by simp)
        cases h
    subst hx
    go_enter Tryd.func27, Tryd.ntmps27
    go_wp2
    go_ret
    exact ⟨_, rfl, World.ownsRow_nil _ _ _ _, ext_refl _⟩
  | some ad =>
    have HS := Lib.hid fun o => (hv.ext (ext_alloc (ext_refl w) o)).src.2
    have HB := Lib.hid (by rw [Nat.zero_add]; exact hb : (0 + xs.length) * 8 ≤ 140737488355328)
    have HC := Lib.hid (by omega : 0 + xs.length ≤ maxLen)
    clear hv h3 hb hc
    go_enter Tryd.func27, Tryd.ntmps27
    go_wp2_with (at_builtin; refine wpList_append_src _ rfl (.tmp 5) (.tmp 6) _ rfl w.heap.size 3 i0 _ 1 8 Tryd.underlying40 hi hz0 hz1 hz2 rfl (Nat.zero_lt_succ _) _ 0 [] rfl (own_empty w _ _) _ xs.length c _ rfl (HS.out _) (one_all one_int) HC.out HB.out (le_alloc _ _) ?_; intro v' w1 hown hgr _; have hX := own_ext (W := w) (ext_alloc (ext_refl w) _) (own_empty w 3 1) hgr (Nat.le_refl _); rw [Nat.zero_add, List.nil_append] at hown)
    go_ret
    exact ⟨_, rfl, hown, hX⟩

end Go.Proofs.YtkfckanbpmkbgaaDoor
