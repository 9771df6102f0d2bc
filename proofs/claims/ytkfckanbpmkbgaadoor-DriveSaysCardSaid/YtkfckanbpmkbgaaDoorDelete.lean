/- Walks: slices.Delete of one thing. -/
import Derived.Test.YtkfckanbpmkbgaaDoorWords2
import Derived.Test.YtkfckanbpmkbgaaDoorClone
import Derived.Deep.DeepMust
namespace Go.Proofs.YtkfckanbpmkbgaaDoor
open Go Go.RowKit
theorem del_cells_int {w : World} {g : Nat} {e : TypeId} {cur : Array Value} (hg : w.heap[g]? = some (.cells cur e (0, 0))) (o m : Nat) : ∀ j u, ((cur.toList.drop o).take m)[j]? = some u → w.cell? ((⟨g, o, none⟩ : Addr).add j) = some u := fun j u hu => by
  rw [Addr.add_mid, cell_of_row w g _ cur e (0, 0) hg]
  rw [List.getElem?_take] at hu
  split at hu
  · rw [List.getElem?_drop] at hu; simpa using hu
  · cases hu
set_option maxRecDepth 100000 in
set_option maxHeartbeats 400000 in
/-- Delete of one thing: a row of the call's own. -/
theorem delete_int (base : Nat) (xs : List Value) (n i : Nat) (v : Value) (w : World) (hown : w.ownsRow base 3 1 v n xs) (hi : i < n) (h1 : ∀ u ∈ xs, u.oneCell' = true) :
    Calls Tryd.prog 30 #[v, .int .i64 i, .int .i64 (i + 1)] w fun e w' => ∃ v', e = .returned v' ∧ w'.ownsRow base 3 1 v' (n - 1) (xs.take (i * 1) ++ xs.drop ((i + 1) * 1)) ∧ w.grownBy w' v.ownBlock ∧ v'.ownBlock = v.ownBlock := by
  rcases hown.2 with ⟨rfl, rfl⟩ | ⟨g, cap, cur, rfl, hb, hg, hnc, hcm, hcs, htake⟩
  · omega
  obtain ⟨i0, hi0, hz0, hz1, hz2⟩ := info_of (show (Tryd.prog.info? 3).map (fun i => (i.zero, i.size, i.bytes)) = some (some (i64 0), 1, 8) by kernel_rfl)
  have hzv : ∀ w, (zeroValue 3).run Tryd.prog w = .ok (i64 0) w := fun w => by kernel_rfl
  have hlenx : xs.length = n * 1 := hown.1
  have hns : ((cur.toList.drop ((i + 1) * 1)).take ((n - (i + 1)) * 1)).length = (n - (i + 1)) * 1 := by simp [hcs]; omega
  have hns1 : ∀ u ∈ (cur.toList.drop ((i + 1) * 1)).take ((n - (i + 1)) * 1), u.oneCell' = true := fun u hu => h1 u (by
    rw [← htake, show n * 1 = (i + 1) * 1 + (n - (i + 1)) * 1 by omega, List.take_add]
    exact List.mem_append_right _ hu)
  have HN := Lib.hid hns
  have HO := Lib.hid hns1
  have HC := Lib.hid (del_cells_int hg ((i + 1) * 1) ((n - (i + 1)) * 1))
  have HG := Lib.hid hg
  have HT := Lib.hid htake
  have HS := Lib.hid hcs
  have HM := Lib.hid hcm
  have HX := Lib.hid hlenx
  clear hns hns1 hg htake hcs hlenx
  unfold maxLen at hcm
  have hi0' : (0 : Int) ≤ (i : Int) := by omega
  have hin : (i : Int) < (n : Int) := by omega
  have hnc' : (n : Int) ≤ (cap : Int) := by omega
  have hrest : (cur.toList.take (i * 1) ++ (cur.toList.drop ((i + 1) * 1)).take ((n - (i + 1)) * 1)) = xs.take (i * 1) ++ xs.drop ((i + 1) * 1) := by
    rw [← HT.out, List.take_take, List.drop_take]
    congr 2 <;> omega
  have HR := Lib.hid hrest
  clear hrest
  have f1 : i ≤ cap := by omega
  have f2 : i + 1 ≤ n := by omega
  have f3 : (0 : Int) ≤ (i : Int) + 1 := by omega
  have f4 : (i : Int) + 1 ≤ (n : Int) := by omega
  have c1 := Lib.hid (by omega : i + (n - (i + 1)) ≤ cap)
  have c2 := Lib.hid (by rw [HN.out, HS.out]; omega : i * 1 + ((cur.toList.drop ((i + 1) * 1)).take ((n - (i + 1)) * 1)).length ≤ cur.size)
  have e1 := Lib.hid (by omega : i + (n - (i + 1)) = n - 1)
  by_cases hcap : cap = i + 1
  · subst hcap
    have f5 : (i : Int) ≤ (i : Int) + 1 := by omega
    have hm0 : n - (i + 1) = 0 := by omega
    have HC0 : Hid (∀ j u, ((cur.toList.drop ((i + 1) * 1)).take ((n - (i + 1)) * 1))[j]? = some u → w.cell? ((⟨g, 0, none⟩ : Addr).add j) = some u) := by
      show ∀ j u, _
      rw [hm0]; intro j u hu; simp at hu
    have HM0 := Lib.hid hm0
    clear hm0
    go_enter Tryd.func30, Tryd.ntmps30
    go_wp2_with fail
    go_region_law (refine step_append_roomy rfl (.tmp 22) (.tmp 25) 40 rfl 3 i0 1 Tryd.underlying40 hi0 hz1 g i _ cur HG.out (by simp [Act.eval, Act.put]) ⟨g, 0, none⟩ (n - (i + 1)) _ _ (by simp [Act.eval, Act.put]) HN.out HC0.out HO.out c1.out c2.out ?_)
    go_wp2_with (refine wpList_clear_row (w := w.drew) rfl (.tmp 31) 40 rfl 3 (i64 0) 1 Tryd.underlying40 hzv rfl (Nat.zero_lt_succ _) ?k1 g _ _ _ rfl ?k2 cur HG.out ?k3 ?_)
    case k1 => intro v hv; simp [Value.cells] at hv; first | (subst hv; rfl) | (rcases hv with rfl | rfl <;> rfl)
    case k2 => omega
    case k3 => have := HS.out; omega
    go_ret
    refine ⟨.slice (some ⟨g, 0, none⟩) (n - 1) (i + 1), ?_, own_cleared (w0 := w.drew) HG.out hb (by omega) HM.out ?_ (by have h1 := e1.out; have h2 := HM0.out; omega) ?_ ?_, ?_, rfl⟩
    · show Ending.returned (.slice _ i (i + 1)) = _
      rw [← e1.out, HM0.out]
      rfl
    · have := HS.out; simp; omega
    · rw [← HR.out, HM0.out]; simp
    · have := HS.out
      simp [Builtin.zeroCells]; omega
    · exact grown_draw_set
  · go_enter Tryd.func30, Tryd.ntmps30
    go_wp2_with fail
    go_region_law (refine step_append_roomy rfl (.tmp 22) (.tmp 25) 40 rfl 3 i0 1 Tryd.underlying40 hi0 hz1 g i cap cur HG.out (by simp [Act.eval, Act.put]) ⟨g, (i + 1) * 1, none⟩ (n - (i + 1)) (cap - (i + 1)) _ (by simp [Act.eval, Act.put]) HN.out HC.out HO.out c1.out c2.out ?_)
    go_wp2_with (refine wpList_clear_row rfl (.tmp 31) 40 rfl 3 (i64 0) 1 Tryd.underlying40 hzv rfl (Nat.zero_lt_succ _) ?k1 g _ _ _ rfl ?k2 _ (heap_setRow_self (w := w.drew) HG.out) ?k3 ?_)
    case k1 => intro v hv; simp [Value.cells] at hv; first | (subst hv; rfl) | (rcases hv with rfl | rfl <;> rfl)
    case k2 => omega
    case k3 => have := HS.out; have := HN.out; simp at this ⊢; omega
    go_ret
    refine ⟨.slice (some ⟨g, 0, none⟩) (n - 1) cap, ?_, own_cleared (heap_setRow_self (w := w.drew) HG.out) hb (by omega) HM.out ?_ (by have h1 := e1.out; omega) ?_ ?_, ?_, rfl⟩
    · show Ending.returned (.slice _ (i + (n - (i + 1))) cap) = _
      rw [e1.out]
    · have := HS.out; simp; omega
    · have := HS.out
      have hR := HR.out
      first
        | (rw [← List.append_assoc, hR, List.take_append_of_le_length (by simp; have := HX.out; omega), List.take_of_length_le (by simp; have := HX.out; omega)])
        | (simp only [Nat.mul_one] at hR ⊢; rw [← List.append_assoc, hR, List.take_append_of_le_length (by simp; have := HX.out; omega), List.take_of_length_le (by simp; have := HX.out; omega)])
    · have := HS.out
      simp [Builtin.zeroCells]; omega
    · exact grown_draw_set.trans (grown_setRow _ g _)

end Go.Proofs.YtkfckanbpmkbgaaDoor
