/- Walks: tables, change by change. -/
import Derived.Test.YthimhcbjboffcaaDoorRule2
import Derived.Test.YthimhcbjboffcaaDoorClone
import Derived.Test.YthimhcbjboffcaaDoorIndexRule
import Derived.Test.YthimhcbjboffcaaDoorDelete
namespace Go.Proofs.YthimhcbjboffcaaDoor
open Go Go.RowKit
/-- What a change makes of a table; the fault. -/
def doT (t : List Rule) (add : Bool) (r : Rule) : List Rule × Int :=
  if tabErr t ≠ 0 then ([], tabErr t)
  else if ruleErr r ≠ 0 then ([], ruleErr r)
  else if add = true then (if t.any (fun o => keyEq o r) = true then ([], 7) else if 12 ≤ t.length then ([], 4) else (t ++ [r], 0))
  else if idxOf (fun x => decide (x = r)) t < 0 then ([], 5)
  else (t.take (idxOf (fun x => decide (x = r)) t).toNat ++ t.drop ((idxOf (fun x => decide (x = r)) t).toNat + 1), 0)
theorem doClo_any (o r : Rule) (g : Nat) (w : World) (hr : w.rangeAt g 0 (Rule.cells r)) :
    Calls Tryd.prog 33 #[.agg (Rule.cells o).toArray, .pointer (some ⟨g, 0, none⟩)] w fun e w' => e = .returned (.bool (keyEq o r)) ∧ Ext w w' := by
  have HR := Lib.hid (fun ob => World.rangeAt_alloc hr ob)
  clear hr
  unfold Rule.cells
  go_enter Tryd.func33, Tryd.ntmps33
  go_wp2_with (first
    | (refine wpList_load_mid rfl 41 _ rfl g 0 rfl _ _ (HR.out _) Tryd.underlying41 rfl (by kernel_rfl) ?_; unfold Rule.cells)
    | (go_at_call 28; refine (key_any o r _).mono ?_; rintro e w1 ⟨rfl, hE⟩))
  go_ret
  exact ⟨rfl, Ext.trans (by repeat first | assumption | exact ext_refl _ | apply ext_alloc | apply ext_drewN | apply ext_drew) hE⟩
theorem doT_1 {t : List Rule} {add : Bool} {r : Rule} (h : ¬ tabErr t = 0) : doT t add r = ([], tabErr t) := by rw [doT, if_pos h]
theorem doT_2 {t : List Rule} {add : Bool} {r : Rule} (h : tabErr t = 0) (h2 : ¬ ruleErr r = 0) : doT t add r = ([], ruleErr r) := by rw [doT, if_neg (by simpa using h), if_pos h2]
theorem doT_3 {t : List Rule} {r : Rule} (h : tabErr t = 0) (h2 : ruleErr r = 0) (h3 : idxOf (fun x => decide (x = r)) t = -1) : doT t false r = ([], 5) := by
  rw [doT, if_neg (by simpa using h), if_neg (by simpa using h2), if_neg (by simp), if_pos (by omega)]
theorem doT_4 {t : List Rule} {r : Rule} {k : Nat} (h : tabErr t = 0) (h2 : ruleErr r = 0) (h3 : idxOf (fun x => decide (x = r)) t = k) : doT t false r = (t.take k ++ t.drop (k + 1), 0) := by
  rw [doT, if_neg (by simpa using h), if_neg (by simpa using h2), if_neg (by simp), if_neg (by omega), h3]; simp
theorem doT_5 {t : List Rule} {r : Rule} (h : tabErr t = 0) (h2 : ruleErr r = 0) (h3 : t.any (fun o => keyEq o r) = true) : doT t true r = ([], 7) := by
  rw [doT, if_neg (by simpa using h), if_neg (by simpa using h2), if_pos rfl, if_pos h3]
theorem doT_6 {t : List Rule} {r : Rule} (h : tabErr t = 0) (h2 : ruleErr r = 0) (h3 : t.any (fun o => keyEq o r) = false) (h4 : 12 ≤ t.length) : doT t true r = ([], 4) := by
  rw [doT, if_neg (by simpa using h), if_neg (by simpa using h2), if_pos rfl, if_neg (by simp [h3]), if_pos h4]
theorem doT_7 {t : List Rule} {r : Rule} (h : tabErr t = 0) (h2 : ruleErr r = 0) (h3 : t.any (fun o => keyEq o r) = false) (h4 : t.length < 12) : doT t true r = (t ++ [r], 0) := by
  rw [doT, if_neg (by simpa using h), if_neg (by simpa using h2), if_pos rfl, if_neg (by simp [h3]), if_neg (by omega)]
theorem tabErr_len {t : List Rule} (h : tabErr t = 0) : t.length ≤ 12 := by
  unfold tabErr at h
  split at h
  · cases h
  · omega

set_option maxRecDepth 100000 in
set_option maxHeartbeats 800000 in
theorem do_any (t : List Rule) (v : Value) (add : Bool) (r : Rule) (w : World) (hv : RdL TRule w t v) :
    Calls Tryd.prog 17 #[v, .bool add, .agg #[i64 r.prio, i64 r.cube.mask, i64 r.cube.bits, i64 r.out, i64 r.set, i64 r.value]] w
      fun e w' => ∃ v', e = .returned (.tuple #[v', errV (doT t add r).2]) ∧ w'.ownsRow w.heap.size 41 6 v' (doT t add r).1.length ((doT t add r).1.flatMap Rule.cells) ∧ Ext w w' := by
  obtain ⟨b0, b1, b2, b3, b4, b5⟩ := boxRule_cells w r
  have hmf := mf
  have hmk : ∀ (w' : World) (a0 a1 a2 a3 a4 a5 : Value), (Instr.buildSlice 23 1 #[(0, .agg #[a0, a1, a2, a3, a4, a5])]).run Tryd.prog w' = .ok (.slice (some ⟨w'.heap.size, 0, none⟩) 1 1) (w'.alloc (.cells #[a0, a1, a2, a3, a4, a5] 41)) := fun w' _ _ _ _ _ _ => by kernel_rfl
  obtain ⟨A, c, rfl, hn, hc, _⟩ := hv.form
  have HV := Lib.hid fun (w' : World) (h : Ext (boxRule w r) w') => hv.ext h.of_box
  by_cases ht : tabErr t = 0
  · have HT := Lib.hid ht
    have HL := Lib.hid (tabErr_len HT.out)
    have HB := Lib.hid (by have := tabErr_len ht; omega : t.length * 48 ≤ 140737488355328)
    clear ht
    cases add
    · go_enter Tryd.func17, Tryd.ntmps17
      go_wp2_with (first
        | (go_at_call 13; refine (table_any t _ _ (HV.out _ (by repeat first | assumption | exact ext_refl _ | apply ext_alloc | apply ext_drewN | apply ext_drew))).mono ?_; rintro e w1 ⟨rfl, hE⟩; have hX : Ext (boxRule w r) w1 := Ext.trans (by repeat first | assumption | exact ext_refl _ | apply ext_alloc | apply ext_drewN | apply ext_drew) hE; clear hE; rw [HT.out, errV_zero])
        | (go_at_call 25; refine (rcheck_any r _).mono ?_; rintro e w2 ⟨rfl, hE⟩; have hX2 : Ext (boxRule w r) w2 := Ext.trans (by repeat first | assumption | exact ext_refl _ | apply ext_alloc | apply ext_drewN | apply ext_drew) hE; clear hE)
        | (go_at_call 32; refine (index_rule t _ r _ (HV.out _ (by repeat first | assumption | exact ext_refl _ | apply ext_alloc | apply ext_drewN | apply ext_drew))).mono ?_; rintro e w3 ⟨rfl, hE⟩; have hX3 : Ext (boxRule w r) w3 := Ext.trans (by repeat first | assumption | exact ext_refl _ | apply ext_alloc | apply ext_drewN | apply ext_drew) hE; clear hE; rcases idx_cases (fun x => decide (x = r)) t with hi | ⟨k, hi, hkl⟩ <;> (rw [hi]; have HI := Lib.hid hi; clear hi) <;> (try have hk12 : (k : Int) < 12 := (by have := HL.out; omega)))
        | (go_at_call 14; refine (clone_rule t _ _ (HV.out _ (by repeat first | assumption | exact ext_refl _ | apply ext_alloc | apply ext_drewN | apply ext_drew)) (HB.out)).mono ?_; rintro e w4 ⟨v4, rfl, hown4, hE⟩; have hX4 : Ext (boxRule w r) w4 := Ext.trans (by repeat first | assumption | exact ext_refl _ | apply ext_alloc | apply ext_drewN | apply ext_drew) hE; clear hE)
        | (go_at_call 34; refine (delete_rule w3.heap.size _ _ k v4 _ hown4 hkl (one_all one_rule)).mono ?_; rintro e w5 ⟨v5, rfl, hown5, hgr, _⟩))
      · go_ret2
        rw [doT_2 HT.out (nz_of ‹_›)]
        exact ⟨_, rfl, World.ownsRow_nil _ _ _ _, hX2.of_box⟩
      · go_ret2
        rw [doT_3 HT.out (z_of ‹_›) HI.out]
        exact ⟨_, rfl, World.ownsRow_nil _ _ _ _, hX3.of_box⟩
      · go_ret2
        rw [doT_4 HT.out (z_of ‹_›) HI.out]
        have hb3 := hX3.of_box.size
        have hlen : (t.take k ++ t.drop (k + 1)).length = t.length - 1 := by simp; omega
        refine ⟨_, ret_tup0, ?_, own_ext hX4.of_box hown4 hgr hb3⟩
        rw [flat_take (n := 6) (fun _ => rfl), flat_drop (n := 6) (fun _ => rfl)] at hown5
        rw [hlen, List.flatMap_append]
        exact own_base hown5 hb3
    · have HS := Lib.hid (fun w' h => boxRule_range (w := w) (w' := w') (r := r) h)
      go_enter Tryd.func17, Tryd.ntmps17
      go_wp2_with (first
        | (go_at_call 13; refine (table_any t _ _ (HV.out _ (by repeat first | assumption | exact ext_refl _ | apply ext_alloc | apply ext_drewN | apply ext_drew))).mono ?_; rintro e w1 ⟨rfl, hE⟩; have hX : Ext (boxRule w r) w1 := Ext.trans (by repeat first | assumption | exact ext_refl _ | apply ext_alloc | apply ext_drewN | apply ext_drew) hE; clear hE; rw [HT.out, errV_zero])
        | (go_at_call 25; refine (rcheck_any r _).mono ?_; rintro e w2 ⟨rfl, hE⟩; have hX2 : Ext (boxRule w r) w2 := Ext.trans (by repeat first | assumption | exact ext_refl _ | apply ext_alloc | apply ext_drewN | apply ext_drew) hE; clear hE)
        | (go_at_call 32; refine (index_rule t _ r _ (HV.out _ (by repeat first | assumption | exact ext_refl _ | apply ext_alloc | apply ext_drewN | apply ext_drew))).mono ?_; rintro e w3 ⟨rfl, hE⟩; have hX3 : Ext (boxRule w r) w3 := Ext.trans (by repeat first | assumption | exact ext_refl _ | apply ext_alloc | apply ext_drewN | apply ext_drew) hE; clear hE)
        | (go_at_call 26; refine (containsFunc_rule t _ 33 #[.pointer (some ⟨w.heap.size, 0, none⟩)] (fun o => keyEq o r) _ (HV.out _ (by repeat first | assumption | exact ext_refl _ | apply ext_alloc | apply ext_drewN | apply ext_drew)) (fun args W => by kernel_rfl) (fun x _ cs w' hrel hE' => by obtain ⟨rfl, _⟩ : cs = Rule.cells x ∧ _ := hrel; exact doClo_any x r _ w' (HS.out _ (hX3.trans hE')))).mono ?_; rintro e w4 ⟨rfl, hE⟩; have hX4 : Ext (boxRule w r) w4 := Ext.trans (by repeat first | assumption | exact ext_refl _ | apply ext_alloc | apply ext_drewN | apply ext_drew) hE; clear hE))
      · go_ret2
        rw [doT_2 HT.out (nz_of ‹_›)]
        exact ⟨_, rfl, World.ownsRow_nil _ _ _ _, hX2.of_box⟩
      · go_ret2
        rw [doT_5 HT.out (z_of ‹_›) ‹_›]
        exact ⟨_, rfl, World.ownsRow_nil _ _ _ _, hX4.of_box⟩
      · go_ret2
        rw [doT_6 HT.out (z_of ‹_›) ‹_› (by omega)]
        exact ⟨_, rfl, World.ownsRow_nil _ _ _ _, hX4.of_box⟩
      · obtain ⟨i0, hi, hz0, hz1, hz2⟩ := info_of info_rule
        have HC1 := Lib.hid (by have := HL.out; unfold maxLen; omega : t.length + 1 ≤ maxLen)
        have HB1 := Lib.hid (by have := HL.out; omega : (t.length + 1) * 48 ≤ 140737488355328)
        go_region_held3 (fun w' => Ext (boxRule w r) w') (first | assumption | (repeat first | assumption | apply ext_alloc | apply ext_drewN | apply ext_drew))
          ((first
            | (go_at_call 14; refine (clone_rule t _ _ (HV.out _ (by repeat first | assumption | apply ext_alloc | apply ext_drewN | apply ext_drew)) (HB.out)).mono ?_; rintro e w5 ⟨v5, rfl, hown5, hE⟩; have hX5 : Ext (boxRule w r) w5 := Ext.trans (by repeat first | assumption | apply ext_alloc | apply ext_drewN | apply ext_drew) hE; have hO := own_base hown5 (Nat.le_trans hX4.size (by simp)))
            | (refine step_append_src rfl (.tmp 43) (.tmp 45) _ rfl (boxRule w r).heap.size 41 i0 _ 6 48 Tryd.underlying23 hi hz0 hz1 hz2 rfl (Nat.zero_lt_succ _) _ t.length _ rfl (hO.alloc _) _ 1 1 (Rule.cells r) rfl (src_one (heap_alloc_new w5 _) rfl) (one_rule r) HC1.out HB1.out (Nat.le_trans hX5.size (le_alloc _ _)) ?_; intro v6 w6 hown6 hgr6 _; have hX6 := own_ext (W := boxRule w r) (ext_alloc hX5 _) (hO.alloc _) hgr6 (Nat.le_refl _))
            | (refine step_append_src rfl (.tmp 43) (.tmp 45) _ rfl (boxRule w r).heap.size 41 i0 _ 6 48 Tryd.underlying23 hi hz0 hz1 hz2 rfl (Nat.zero_lt_succ _) _ t.length _ rfl hO _ 1 1 (Rule.cells r) rfl (src_one ((hE.block (by simp)).trans (heap_alloc_new w4.drew _)) rfl) (one_rule r) HC1.out HB1.out hX5.size ?_; intro v6 w6 hown6 hgr6 _; have hX6 := own_ext (W := boxRule w r) hX5 hO hgr6 (Nat.le_refl _))))
        all_goals
          go_wp2
          go_ret2
          rw [doT_7 HT.out (z_of ‹_›) ‹_› (by omega)]
          refine ⟨_, ret_tup0, ?_, hX6.of_box⟩
          rw [List.length_append, List.length_singleton, List.flatMap_append, List.flatMap_singleton]
          exact own_base hown6 (le_alloc _ _)
  · go_enter Tryd.func17, Tryd.ntmps17
    go_wp2_with (go_at_call 13; refine (table_any t _ _ (HV.out _ (by repeat first | assumption | exact ext_refl _ | apply ext_alloc | apply ext_drewN | apply ext_drew))).mono ?_; rintro e w1 ⟨rfl, hE⟩; have hX : Ext (boxRule w r) w1 := Ext.trans (by repeat first | assumption | exact ext_refl _ | apply ext_alloc | apply ext_drewN | apply ext_drew) hE; clear hE)
    go_ret2
    rw [doT_1 ht]
    exact ⟨_, rfl, World.ownsRow_nil _ _ _ _, hX.of_box⟩
end Go.Proofs.YthimhcbjboffcaaDoor
