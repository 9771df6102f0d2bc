/- Walk: mix.Touched: the switches of ops, each once, rising. -/
import Derived.Test.YtkfckanbpmkbgaaDoorTouch
import Derived.Test.YtkfckanbpmkbgaaDoorClone
import Derived.Test.YtkfckanbpmkbgaaDoorShelf
import Derived.Sort.OwnSortedInts
import Derived.Lib.RowBridge
namespace Go.Proofs.YtkfckanbpmkbgaaDoor
open Go Go.RowKit Go.Sort
theorem sort_own (base : Nat) (zs : List Int) (v : Value) (w : World) (hown : w.ownsRow base 3 1 v zs.length (zs.map i64)) (hz : zs.length ≤ 1000000) :
    Calls Tryd.prog 42 #[v] w fun e w' => e = .returned (.tuple #[]) ∧ w'.ownsRow base 3 1 v zs.length ((zs.mergeSort fun x y => decide (x ≤ y)).map i64) ∧ w.grownBy w' v.ownBlock := by
  rcases hown.2 with ⟨rfl, h0⟩ | ⟨g, cap, cur, rfl, hb, hg, hnc, hcm, hcs, htake⟩
  · have : zs = [] := List.eq_nil_of_length_eq_zero h0
    subst this
    refine (Tryd.slices_Sort_int_none none 0 w).mono ?_
    intro e w' h
    have h2 := h
    obtain ⟨he, hw⟩ := h
    subst hw
    exact ⟨he, by simpa using World.ownsRow_nil _ _ _ _, World.grownBy.refl _ _⟩
  · have hlt : g < w.heap.size := (Array.getElem?_eq_some_iff.1 hg).1
    refine (Tryd.slices_Sort_int g 0 cap zs w (holds_of_blockI hg (by simpa using htake)) hlt (by omega)).mono ?_
    rintro e w' ⟨he, n, os, rfl⟩
    exact ⟨he, ownsRow_sortedI (by simp) hb hg hnc hcm hcs, grownBy_sortedI _⟩
theorem compact_own (base : Nat) (zs : List Int) (v : Value) (w : World) (hown : w.ownsRow base 3 1 v zs.length (zs.map i64)) (hz : zs.length ≤ 1000000) :
    Calls Tryd.prog 43 #[v] w fun e w' => ∃ v', e = .returned v' ∧ w'.ownsRow base 3 1 v' (Lib.compact zs).length ((Lib.compact zs).map i64) ∧ w.grownBy w' v.ownBlock ∧ v'.ownBlock = v.ownBlock := by
  rcases hown.2 with ⟨rfl, h0⟩ | ⟨g, cap, cur, rfl, hb, hg, hnc, hcm, hcs, htake⟩
  · have : zs = [] := List.eq_nil_of_length_eq_zero h0
    subst this
    refine (Tryd.slices_Compact_int_empty none 0 w).mono ?_
    rintro e w' ⟨he, hw⟩
    subst hw
    exact ⟨_, he, by simpa [Lib.compact, Lib.compactUpTo] using World.ownsRow_nil _ _ _ _, World.grownBy.refl _ _, rfl⟩
  · have hlt : g < w.heap.size := (Array.getElem?_eq_some_iff.1 hg).1
    have hle := Lib.compact_length_le zs
    refine (Tryd.slices_Compact_int g 0 cap zs w (holds_of_blockI hg (by simpa using htake)) (by omega) hnc).mono ?_
    rintro e w' ⟨he, q, rfl⟩
    have hh := heap_sortedI (n := q) (os := #[]) (Lib.compact zs ++ List.replicate (zs.length - (Lib.compact zs).length) 0).toArray hg
    have hgr := grownBy_sortedI (w := w) (g := g) (n := q) (os := #[]) (Lib.compact zs ++ List.replicate (zs.length - (Lib.compact zs).length) 0).toArray
    rw [grow_empty] at hh hgr
    refine ⟨_, he, ⟨by simp, .inr ⟨g, cap, _, rfl, hb, hh, by omega, hcm, by simp [putCells, hcs], ?_⟩⟩, hgr, rfl⟩
    have ht := take_putCellsI cur (Lib.compact zs ++ List.replicate (zs.length - (Lib.compact zs).length) 0) (by simp; omega)
    have hb2 : (Lib.compact zs).length ≤ (Lib.compact zs ++ List.replicate (zs.length - (Lib.compact zs).length) (0 : Int)).length := by simp
    generalize hB : (Lib.compact zs ++ List.replicate (zs.length - (Lib.compact zs).length) (0 : Int)) = B at ht hb2
    have e : (putCells (Value.int .i64) 0 B.toArray cur).toList.take (Lib.compact zs).length = ((putCells (Value.int .i64) 0 B.toArray cur).toList.take B.length).take (Lib.compact zs).length := by rw [List.take_take, Nat.min_eq_left hb2]
    show List.take ((Lib.compact zs).length * 1) (putCells (Value.int .i64) 0 _ cur).toList = _
    rw [Nat.mul_one, e, ht, ← hB, List.map_append, List.take_left' (by simp)]
theorem take_sw {ops : List Op} {k : Nat} (h : k < ops.length) : ((ops.take (k + 1)).map (·.switch)).map i64 = ((ops.take k).map (·.switch)).map i64 ++ [i64 ops[k].switch] := by
  rw [List.take_succ_eq_append_getElem h, List.map_append, List.map_append]; rfl
set_option maxHeartbeats 800000 in
theorem touched_any (ops : List Op) (v : Value) (w : World) (hv : RdL TOp w ops v) (hl : ops.length ≤ 1000) :
    Calls Tryd.prog 25 #[v] w fun e w' => ∃ v', e = .returned v' ∧ w'.ownsRow w.heap.size 3 1 v' (touched ops).length ((touched ops).map i64) ∧ Ext w w' := by
  obtain ⟨A, c, rfl, hn, hc, _⟩ := hv.form
  unfold maxLen at hc
  obtain ⟨i1, hi1, hy0, hy1, hy2⟩ := info_of info_int
  go_enter Tryd.func25, Tryd.ntmps25
  go_wp2_with fail
  go_loopw [3, 8] (fun l i wr => ∃ k : Nat, k ≤ ops.length ∧ i = .int .i64 k ∧ Ext w wr ∧ wr.ownsRow w.heap.size 3 1 l k (((ops.take k).map (·.switch)).map i64)) (fun _ i _ => ops.length - (intOf i).toNat)
  case atStart => exact ⟨0, Nat.zero_le _, rfl, ext_refl _, World.ownsRow_nil _ _ _ _⟩
  case round =>
    obtain ⟨k, hk, rfl, hE, hown⟩ := hrel
    have HO := Lib.hid hown
    clear hown
    by_cases hlt : k < ops.length
    · obtain ⟨b, off, rfl, hb, hrow⟩ := hv.at_ hlt
      obtain ⟨cs, hr, hrel⟩ := hrow k _ (List.getElem?_eq_getElem hlt)
      obtain ⟨rfl, _⟩ : cs = Op.cells ops[k] ∧ _ := hrel
      have HR := Lib.hid (rangeAt_block hr (hE.block hb) : wr.rangeAt b (off + k * 8) _)
      have HS := Lib.hid (take_sw hlt)
      clear hr hrow
      generalize ops[k] = o at HR HS
      have c1 := Lib.hid (by unfold maxLen; omega : k + 1 ≤ maxLen)
      have c2 := Lib.hid (by omega : (k + 1) * 8 ≤ 140737488355328)
      go_wp2_with (first
        | (refine wpList_load_mid rfl 37 _ rfl b _ rfl _ _ HR.out Tryd.underlying37 rfl (by kernel_rfl) ?_; unfold Op.cells)
        | (at_builtin; refine wpList_append_src _ rfl (.tmp 12) (.tmp 15) _ rfl w.heap.size 3 i1 _ 1 8 Tryd.underlying40 hi1 hy0 hy1 hy2 rfl (Nat.zero_lt_succ _) _ k _ rfl ((HO.out.alloc _).alloc _) _ 1 1 [i64 o.switch] rfl (src_one (heap_alloc_two _ _ _) rfl) (fun u hu => by simp at hu; subst hu; rfl) c1.out c2.out (Nat.le_trans hE.size (Nat.le_trans (le_alloc _ _) (le_alloc _ _))) ?_; intro v' w2 hown' hgr _; have hX2 := own_ext (W := w) (ext_alloc (ext_alloc hE _) _) ((HO.out.alloc _).alloc _) hgr (Nat.le_refl _); rw [← HS.out] at hown'))
      go_roundw
      case rel => exact ⟨k + 1, by omega, by go_num, hX2, hown'⟩
      case measure => simp [intOf]; omega
    · have hke : k = ops.length := by omega
      subst hke
      have hown := HO.out
      rw [List.take_length] at hown
      have hl2 : (ops.map (·.switch)).length = ops.length := by simp
      rw [← hl2] at hown
      have HO2 := Lib.hid hown
      have HL := Lib.hid (show (ops.map (·.switch)).length ≤ 1000000 by omega)
      clear hown HO hl2
      go_wp2_with (first
        | (go_at_call 42; refine (sort_own w.heap.size (ops.map (·.switch)) _ _ HO2.out HL.out).mono ?_; rintro e w3 ⟨rfl, hown3, hgr3⟩; have HO3 := Lib.hid hown3; have HX3 := Lib.hid (own_ext hE HO2.out hgr3 (Nat.le_refl _)); clear hown3 hgr3)
        | (go_at_call 43; refine (compact_own w.heap.size ((ops.map (·.switch)).mergeSort fun x y => decide (x ≤ y)) _ _ (by rw [List.length_mergeSort]; exact HO3.out) (by rw [List.length_mergeSort]; exact HL.out)).mono ?_; rintro e w4 ⟨v4, rfl, hown4, hgr4, _⟩))
      go_ret
      exact ⟨_, rfl, hown4, own_ext HX3.out HO3.out hgr4 (Nat.le_refl _)⟩
end Go.Proofs.YtkfckanbpmkbgaaDoor
