/- Walk: all ops, one behind the other. -/
import Derived.Test.YthimhcbjboffcaaDoorTable
namespace Go.Proofs.YthimhcbjboffcaaDoor
open Go Go.RowKit
/-- What ops make of a table that is right; the fault. -/
def allT (t : List Rule) : List Op → List Rule × Int
  | [] => (t, 0)
  | o :: os => if (doT t o.add o.rule).2 ≠ 0 then ([], (doT t o.add o.rule).2) else allT (doT t o.add o.rule).1 os
def allTab (t : List Rule) (ops : List Op) : List Rule × Int := if tabErr t ≠ 0 then ([], tabErr t) else allT t ops
theorem allT_err {t : List Rule} {o : Op} {os : List Op} (h : ¬ (doT t o.add o.rule).2 = 0) : allT t (o :: os) = ([], (doT t o.add o.rule).2) := by rw [allT, if_pos h]
theorem allT_next {t : List Rule} {o : Op} {os : List Op} (h : (doT t o.add o.rule).2 = 0) : allT t (o :: os) = allT (doT t o.add o.rule).1 os := by rw [allT, if_neg (by simpa using h)]

set_option maxRecDepth 100000 in
set_option maxHeartbeats 800000 in
theorem all_any (t : List Rule) (ops : List Op) (v v2 : Value) (w : World) (hv : RdL TRule w t v) (hv2 : RdL TOp w ops v2) :
    Calls Tryd.prog 23 #[v, v2] w fun e w' => ∃ v', e = .returned (.tuple #[v', errV (allTab t ops).2]) ∧ TRule.slice.rel w' w.heap.size w'.heap.size (allTab t ops).1 [v'] ∧ Ext w w' := by
  obtain ⟨A, c, rfl, hn, hc, _⟩ := hv2.form
  unfold maxLen at hc
  by_cases ht : tabErr t = 0
  · have HT := Lib.hid ht
    have HB := Lib.hid (by have := tabErr_len ht; omega : t.length * 48 ≤ 140737488355328)
    clear ht
    go_enter Tryd.func23, Tryd.ntmps23
    go_wp2_with (first
      | (go_at_call 13; refine (table_any t _ _ (hv.ext (by repeat first | assumption | exact ext_refl _ | apply ext_alloc | apply ext_drewN | apply ext_drew))).mono ?_; rintro e w1 ⟨rfl, hX⟩; rw [HT.out, errV_zero])
      | (go_at_call 14; refine (clone_rule t _ _ (hv.ext (by repeat first | assumption | exact ext_refl _ | apply ext_alloc | apply ext_drewN | apply ext_drew)) HB.out).mono ?_; rintro e w2 ⟨v0, rfl, hown, hE⟩; have hX2 : Ext w w2 := Ext.trans (by repeat first | assumption | exact ext_refl _ | apply ext_alloc | apply ext_drewN | apply ext_drew) hE; clear hE))
    have HV0 : TRule.slice.rel w2 w.heap.size w2.heap.size t [v0] := TRule.slice.ext (rel_of_own hown (fun _ _ => trivial) : TRule.slice.rel w2 _ _ _ _) (fun _ _ _ => rfl) hX.size (Nat.le_refl _)
    clear hown
    go_loopw [0, 20] (fun u i wr => ∃ (k : Nat) (tk : List Rule), k ≤ ops.length ∧ i = .int .i64 k ∧ Ext w wr ∧ TRule.slice.rel wr w.heap.size wr.heap.size tk [u] ∧ allTab t ops = allT tk (ops.drop k)) (fun _ i _ => ops.length - (intOf i).toNat)
    case atStart => exact ⟨0, t, Nat.zero_le _, rfl, hX2, HV0, by rw [allTab, if_neg (by simpa using HT.out)]; rfl⟩
    case round =>
      obtain ⟨k, tk, hk, rfl, hE0, hvk, hgo⟩ := hrel
      have HG := Lib.hid hgo; clear hgo HV0
      by_cases hlt : k < ops.length
      · obtain ⟨b, off, rfl, hb, hrow⟩ := hv2.at_ hlt
        obtain ⟨cs, hr, hrel⟩ := hrow k _ (List.getElem?_eq_getElem hlt)
        obtain ⟨rfl, _⟩ : cs = Op.cells ops[k] ∧ _ := hrel
        have HR := Lib.hid (rangeAt_block hr (hE0.block hb) : wr.rangeAt b (off + k * 8) _)
        have HD := Lib.hid (List.drop_eq_getElem_cons hlt)
        clear hr hrow
        generalize ops[k] = o at HR HD
        go_wp2_with (first
          | (refine wpList_load_mid rfl 43 _ rfl b _ rfl _ _ HR.out Tryd.underlying43 rfl (by kernel_rfl) ?_; unfold Op.cells)
          | (go_at_call 17; refine (do_any tk _ o.add o.rule _ ((RdL.of_rel hvk (Nat.le_refl _)).ext (by repeat first | assumption | exact ext_refl _ | apply ext_alloc | apply ext_drewN | apply ext_drew))).mono ?_; rintro e w3 ⟨v3, rfl, hown3, hE⟩; have hX3 : Ext wr w3 := Ext.trans (by repeat first | assumption | exact ext_refl _ | apply ext_alloc | apply ext_drewN | apply ext_drew) hE; clear hE))
        · go_ret2
          rw [HG.out, HD.out, allT_err (nz_of ‹_›)]
          exact ⟨_, rfl, rel_none _ _ _ _, hE0.trans hX3⟩
        · have HV3 : TRule.slice.rel w3 w.heap.size w3.heap.size (doT tk o.add o.rule).1 [v3] := TRule.slice.ext (rel_of_own hown3 (fun _ _ => trivial) : TRule.slice.rel w3 _ _ _ _) (fun _ _ _ => rfl) (Nat.le_trans hE0.size (by simp)) (Nat.le_refl _)
          go_roundw
          case rel => exact ⟨k + 1, _, by omega, by go_num, hE0.trans hX3, HV3, by rw [HG.out, HD.out, allT_next (z_of ‹_›)]⟩
          case measure => simp [intOf]; omega
      · have hke : k = ops.length := by omega
        have HK := Lib.hid hke; clear hke
        go_wp2
        go_ret2
        rw [HG.out, HK.out, List.drop_length]
        exact ⟨_, ret_tup0, hvk, hE0⟩
  · go_enter Tryd.func23, Tryd.ntmps23
    go_wp2_with (go_at_call 13; refine (table_any t _ _ (hv.ext (by repeat first | assumption | exact ext_refl _ | apply ext_alloc | apply ext_drewN | apply ext_drew))).mono ?_; rintro e w1 ⟨rfl, hX⟩)
    go_ret2
    rw [allTab, if_pos ht]
    exact ⟨_, rfl, rel_none _ _ _ _, hX⟩
end Go.Proofs.YthimhcbjboffcaaDoor
