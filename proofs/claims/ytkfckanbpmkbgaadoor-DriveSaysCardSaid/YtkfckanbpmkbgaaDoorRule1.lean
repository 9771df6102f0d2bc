/- Walks: headers, cubes, rules. -/
import Derived.Test.YtkfckanbpmkbgaaDoorStructs
namespace Go.Proofs.YtkfckanbpmkbgaaDoor
open Go Go.RowKit
def hdr (n : Int) : Bool := decide (0 ≤ n ∧ n < 16)
def andn (a b : Int) : Int := bits .andNot .i64 a b
def cubeErr (c : Cube) : Int := if hdr c.mask = true ∧ hdr c.bits = true then (if andn c.bits c.mask = 0 then 0 else 3) else 1
def ruleErr (r : Rule) : Int :=
  if r.prio < 0 ∨ 99 < r.prio ∨ r.out < 0 ∨ 4 < r.out ∨ hdr r.set = false ∨ hdr r.value = false then 1
  else if cubeErr r.cube ≠ 0 then cubeErr r.cube
  else if andn r.value r.set ≠ 0 ∨ (r.out = 0 ∧ r.set ≠ 0) then 3 else 0

theorem header_any (n : Int) (w : World) : Calls Tryd.prog 39 #[.int .i64 n] w fun e w' => e = .returned (.bool (hdr n)) ∧ w = w' := by
  by_cases h : 0 ≤ n
  · go_enter Tryd.func39, Tryd.ntmps39
    go_wp2
    go_ret
    exact ⟨by simp [hdr, h], rfl⟩
  · go_enter Tryd.func39, Tryd.ntmps39
    go_wp2
    go_ret
    exact ⟨by simp [hdr]; omega, rfl⟩

theorem ccheck_any (c : Cube) (w : World) : Calls Tryd.prog 40 #[.agg #[.int .i64 c.mask, .int .i64 c.bits]] w fun e w' => e = .returned (errV (cubeErr c)) ∧ Ext w w' := by
  go_enter Tryd.func40, Tryd.ntmps40
  go_wp2_with (go_at_call 39; refine (header_any _ _).mono ?_; rintro e w' ⟨rfl, rfl⟩)
  all_goals go_ret
  all_goals go_tidy
  all_goals refine ⟨?_, ext_alloc (ext_refl _) _⟩
  all_goals simp_all [cubeErr, errV, andn]

theorem rcheck_any (r : Rule) (w : World) : Calls Tryd.prog 21 #[.agg #[.int .i64 r.prio, .int .i64 r.cube.mask, .int .i64 r.cube.bits, .int .i64 r.out, .int .i64 r.set, .int .i64 r.value]] w
    fun e w' => e = .returned (errV (ruleErr r)) ∧ Ext w w' := by
  go_enter Tryd.func21, Tryd.ntmps21
  go_wp2_with (first
    | (go_at_call 39; refine (header_any _ _).mono ?_; rintro e w' ⟨rfl, rfl⟩)
    | (go_at_call 40; refine (ccheck_any r.cube _).mono ?_; rintro e w1 ⟨rfl, hE⟩; obtain ⟨hc, hf⟩ := hE.cells; have hX : Ext w w1 := Ext.trans (by repeat first | assumption | exact ext_refl _ | apply ext_alloc | apply ext_drewN | apply ext_drew) hE; clear hE))
  all_goals go_ret
  all_goals refine ⟨?_, (by repeat first | assumption | exact ext_refl _ | apply ext_alloc | apply ext_drewN | apply ext_drew)⟩
  all_goals go_tidy
  all_goals (try simp_all [ruleErr, andn, errV])
  all_goals (try (rw [if_neg (by omega)]))
  all_goals (try (rw [if_neg (by simp; omega)]))
  all_goals (try simp)
  all_goals (try simp_all)
  all_goals (simp only [or_assoc] at *; simp_all)

/-- A rule in a box. -/
abbrev boxRule (w : World) (r : Rule) : World := w.alloc (.cells #[i64 r.prio, i64 r.cube.mask, i64 r.cube.bits, i64 r.out, i64 r.set, i64 r.value] 35)
theorem boxRule_range {w w' : World} {r : Rule} (h : Ext (boxRule w r) w') : w'.rangeAt w.heap.size 0 r.cells := rangeAt_block (rangeAt_new w r.cells 35) (h.block (by simp))
theorem boxRule_cells (w : World) (r : Rule) : (∀ w', Ext (boxRule w r) w' → w'.cell? ⟨w.heap.size, 0, none⟩ = some (i64 r.prio)) ∧ (∀ w', Ext (boxRule w r) w' → w'.cell? ⟨w.heap.size, 1, none⟩ = some (i64 r.cube.mask)) ∧
    (∀ w', Ext (boxRule w r) w' → w'.cell? ⟨w.heap.size, 2, none⟩ = some (i64 r.cube.bits)) ∧ (∀ w', Ext (boxRule w r) w' → w'.cell? ⟨w.heap.size, 3, none⟩ = some (i64 r.out)) ∧
    (∀ w', Ext (boxRule w r) w' → w'.cell? ⟨w.heap.size, 4, none⟩ = some (i64 r.set)) ∧ (∀ w', Ext (boxRule w r) w' → w'.cell? ⟨w.heap.size, 5, none⟩ = some (i64 r.value)) :=
  ⟨fun _ h => boxRule_range h 0 _ rfl, fun _ h => boxRule_range h 1 _ rfl, fun _ h => boxRule_range h 2 _ rfl, fun _ h => boxRule_range h 3 _ rfl, fun _ h => boxRule_range h 4 _ rfl, fun _ h => boxRule_range h 5 _ rfl⟩


/-! ### Keys, and the closures that look for one -/
def keyEq (a b : Rule) : Bool := decide (a.prio = b.prio ∧ a.cube = b.cube)
end Go.Proofs.YtkfckanbpmkbgaaDoor
