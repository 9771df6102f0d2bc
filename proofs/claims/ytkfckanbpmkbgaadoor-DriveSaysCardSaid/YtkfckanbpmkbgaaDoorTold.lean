/- Walk: plain.Told, railsame.Error: which error it is. -/
import Derived.Test.YtkfckanbpmkbgaaDoorAs
namespace Go.Proofs.YtkfckanbpmkbgaaDoor
open Go Go.RowKit
theorem asW_ext {W w : World} {t : Addr} {n : Int} (h : Ext W w) (ht : W.heap.size ≤ t.block) : Ext W (asW w t n) :=
  ext_set (ext_alloc (ext_alloc (ext_alloc (ext_alloc h _) _) _) _) _ ht _
theorem told_any (n : Int) (w : World) (hg : Laid w) : Calls Tryd.prog 23 #[errV n] w fun e w' => e = .returned (i64 n) ∧ Ext w w' := by
  by_cases hn : n = 0
  · subst hn
    exact (told_nil w).mono (by rintro e w' ⟨rfl, rfl⟩; exact ⟨rfl, ext_refl _⟩)
  · rw [errV_of hn]
    have hA := as_hit n ⟨w.heap.size, 0, none⟩ (i64 0) (w.alloc (.cells #[i64 0] 59)) (hg.ext (by repeat first | assumption | exact ext_refl _ | apply ext_alloc | apply ext_drewN | apply ext_drew)) (by simp) (by simp)
    have hX : Ext w (asW (w.alloc (.cells #[i64 0] 59)) ⟨w.heap.size, 0, none⟩ n) := asW_ext (by repeat first | assumption | exact ext_refl _ | apply ext_alloc | apply ext_drewN | apply ext_drew) (Nat.le_refl _)
    have hc : (asW (w.alloc (.cells #[i64 0] 59)) ⟨w.heap.size, 0, none⟩ n).cell? ⟨w.heap.size, 0, none⟩ = some (i64 n) := by
      refine World.cell?_setCell_same _ (u := i64 0) _ _ ?_
      show World.cell? ((((World.alloc _ _).alloc _).alloc _).alloc _) _ = _
      rw [World.cell?_alloc_lt, World.cell?_alloc_lt, World.cell?_alloc_lt, World.cell?_alloc_lt]
      all_goals simp
      all_goals omega
    go_enter Tryd.func23, Tryd.ntmps23
    go_wp2_with (go_at_call 41; refine hA.mono ?_; rintro e w1 ⟨rfl, rfl⟩; generalize asW (w.alloc (.cells #[i64 0] 59)) ⟨w.heap.size, 0, none⟩ n = w1 at hX hc ⊢)
    go_ret
    exact ⟨rfl, hX⟩
theorem err_any (n k : Int) (w : World) (hg : Laid w) : Calls Tryd.prog 6 #[errV n, i64 k] w fun e w' => e = .returned (.bool (decide (n = k))) ∧ Ext w w' := by
  go_enter Tryd.func6, Tryd.ntmps6
  go_wp2_with (go_at_call 23; refine (told_any n _ hg).mono ?_; rintro e w1 ⟨rfl, hX⟩)
  go_ret
  exact ⟨rfl, hX⟩
end Go.Proofs.YtkfckanbpmkbgaaDoor
