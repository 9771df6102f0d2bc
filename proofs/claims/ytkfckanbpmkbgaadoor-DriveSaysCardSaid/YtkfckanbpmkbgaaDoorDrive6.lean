/- Walk: drive.New. -/
import Derived.Test.YtkfckanbpmkbgaaDoorDrive5
import Derived.Deep.DeepCutAuto
namespace Go.Proofs.YtkfckanbpmkbgaaDoor
open Go Go.RowKit
def NewDPost (l : List (List Op)) (wait : Int) (w : World) (e : Ending) (w' : World) : Prop :=
  Ext w w' ∧ (drvErr l wait = 0 → ∃ p vr, e = .returned (.tuple #[.pointer (some ⟨p, 0, none⟩), .nilIface]) ∧ w.heap.size ≤ p ∧ DriveAt w' p ⟨l, wait, 0, [], 0⟩ vr (.slice none 0 0)) ∧ (drvErr l wait ≠ 0 → e = .returned (.tuple #[.pointer none, errV (drvErr l wait)]))
theorem NewDPost.err {l : List (List Op)} {wait : Int} {w : World} {e : Ending} {w' : World} {n : Int} (h : drvErr l wait = n) (hn : n ≠ 0) (hE : Ext w w') (he : e = .returned (.tuple #[.pointer none, errV n])) : NewDPost l wait w e w' :=
  ⟨hE, fun h0 => absurd (h.symm.trans h0) hn, fun _ => by rw [h]; exact he⟩
theorem opsErr_1 {o : Op} {os : List Op} (h : ¬ opErr o = 0) : opsErr (o :: os) = opErr o := by rw [opsErr, if_pos h]
theorem opsErr_n {o : Op} {os : List Op} (h : opErr o = 0) : opsErr (o :: os) = opsErr os := by rw [opsErr, if_neg (by simpa using h)]
theorem rndsErr_1 {r : List Op} {rs : List (List Op)} (h : ¬ opsErr r = 0) : rndsErr (r :: rs) = opsErr r := by rw [rndsErr, if_pos h]
theorem rndsErr_n {r : List Op} {rs : List (List Op)} (h : opsErr r = 0) : rndsErr (r :: rs) = rndsErr rs := by rw [rndsErr, if_neg (by simpa using h)]
theorem opErr_out {o : Op} (h : o.switch < 1 ∨ 6 < o.switch) : opErr o = 1 := by rw [opErr, if_pos h]
theorem opErr_in {o : Op} (h : ¬ (o.switch < 1 ∨ 6 < o.switch)) : opErr o = ruleErr o.rule := by rw [opErr, if_neg h]
abbrev boxOpD (w : World) (o : Op) : World := w.alloc (.cells #[i64 o.switch, .bool o.add, i64 o.rule.prio, i64 o.rule.cube.mask, i64 o.rule.cube.bits, i64 o.rule.out, i64 o.rule.set, i64 o.rule.value] 37)
theorem boxOpD_cells (w : World) (o : Op) : ∀ w', Ext (boxOpD w o) w' → w'.cell? ⟨w.heap.size, 0, none⟩ = some (i64 o.switch) ∧ w'.cell? ⟨w.heap.size, 1, none⟩ = some (.bool o.add) ∧ w'.cell? ⟨w.heap.size, 2, none⟩ = some (i64 o.rule.prio) ∧ w'.cell? ⟨w.heap.size, 3, none⟩ = some (i64 o.rule.cube.mask) ∧
    w'.cell? ⟨w.heap.size, 4, none⟩ = some (i64 o.rule.cube.bits) ∧ w'.cell? ⟨w.heap.size, 5, none⟩ = some (i64 o.rule.out) ∧ w'.cell? ⟨w.heap.size, 6, none⟩ = some (i64 o.rule.set) ∧ w'.cell? ⟨w.heap.size, 7, none⟩ = some (i64 o.rule.value) :=
  fun _ h => have r := box_range (cs := o.cells) h; ⟨r 0 _ rfl, r 1 _ rfl, r 2 _ rfl, r 3 _ rfl, r 4 _ rfl, r 5 _ rfl, r 6 _ rfl, r 7 _ rfl⟩
/-- So far. -/
def NewMid (w1 : World) (wait : Int) (vr : Value) (vs : List Value) (L : List (List Op)) (wr : World) : Prop :=
  Ext w1 wr ∧ wr.heap[w1.heap.size]? = some (.cells #[vr, i64 wait, i64 0, .slice none 0 0, i64 0] 63 (0, 0)) ∧ RoundsTo wr w1.heap.size vr vs L
theorem NewMid.ext {w1 wr w' : World} {wait : Int} {vr : Value} {vs : List Value} {L : List (List Op)} (h : NewMid w1 wait vr vs L wr) (hE : Ext wr w') : NewMid w1 wait vr vs L w' :=
  ⟨h.1.trans hE, (hE.block (Array.getElem?_eq_some_iff.1 h.2.1).1).trans h.2.1, h.2.2.ext hE⟩
theorem NewMid.step {w1 wr w3 w4 : World} {wait : Int} {vr v3 v5 : Value} {vs : List Value} {L : List (List Op)} {r : List Op} (h : NewMid w1 wait vr vs L wr) (hE : Ext wr w3) (h3 : w3.ownsRow (w1.heap.size + 1) 37 8 v3 r.length (r.flatMap Op.cells)) (hg : w3.grownBy w4 vr.ownBlock)
    (h5 : w4.ownsRow (w1.heap.size + 1) 43 1 v5 (L.length + 1) (vs ++ [v3])) : NewMid w1 wait v5 (vs ++ [v3]) (L ++ [r]) (w4.setCell ⟨w1.heap.size, 0, none⟩ v5) := by
  have h' := h.ext hE
  have hlt := (Array.getElem?_eq_some_iff.1 h'.2.1).1
  have hb : w4.heap[w1.heap.size]? = some (.cells #[vr, i64 wait, i64 0, .slice none 0 0, i64 0] 63 (0, 0)) := (hg.block _ hlt (fun e => by have := (h'.2.2.1.lt _ e.symm).1; omega)).trans h'.2.1
  refine ⟨ext_set (ext_grown h'.1 hg fun k hk => by have := (h'.2.2.1.lt k hk).1; omega) _ (Nat.le_refl _) _, heap_setCell_same w4 _ 0 _ _ v5 hb, h'.2.2.step h3 hg h5 rfl⟩
theorem NewMid.blk5 {w1 wr w3 w5 : World} {wait : Int} {vr : Value} {vs : List Value} {L : List (List Op)} (h : NewMid w1 wait vr vs L wr) (hE : Ext wr w3) (hg : w3.grownBy w5 vr.ownBlock) : w5.heap[w1.heap.size]? = some (.cells #[vr, i64 wait, i64 0, .slice none 0 0, i64 0] 63 (0, 0)) := by
  have h' := h.ext hE
  exact (hg.block _ (Array.getElem?_eq_some_iff.1 h'.2.1).1 (fun e => by have := (h'.2.2.1.lt _ e.symm).1; omega)).trans h'.2.1
set_option maxRecDepth 100000 in
set_option maxHeartbeats 3200000 in
theorem dnew_any (l : List (List Op)) (wait : Int) (v : Value) (w : World) (hv : RdL TOp.slice w l v) :
    Calls Tryd.prog 5 #[v, i64 wait] w (NewDPost l wait w) := by
  have HC := Lib.hid (contains_rnds l v w hv)
  obtain ⟨A, c, rfl, hn, hc, _⟩ := hv.form
  unfold maxLen at hc
  by_cases hw : wait < 1 ∨ 100 < wait
  · have HE := Lib.hid (show drvErr l wait = 1 by rw [drvErr, if_pos hw])
    clear hv
    rcases hw with hw | hw
    all_goals
      go_enter Tryd.func5, Tryd.ntmps5
      go_wp2
      refine bodyPost_ret (v := .tuple #[.pointer none, errV 1]) (by simp [results, Tryd.results5, go_sem, errV]) rfl (NewDPost.err HE.out (by decide) (ext_refl _) rfl)
  · have hw1 : 1 ≤ wait := by omega
    have hw2 : wait ≤ 100 := by omega
    by_cases h20 : 20 < l.length
    · have HE := Lib.hid (show drvErr l wait = 4 by rw [drvErr, if_neg hw, if_pos (.inl h20)])
      have h21 : (20 : Int) < (l.length : Int) := by omega
      clear hw hv h20
      go_enter Tryd.func5, Tryd.ntmps5
      go_wp2_with fail
      refine bodyPost_ret (v := .tuple #[.pointer none, errV 4]) (by simp [results, Tryd.results5, go_sem, errV]) rfl (NewDPost.err HE.out (by decide) (ext_refl _) rfl)
    · have h21 : (l.length : Int) ≤ 20 := by omega
      cases ha : l.any longR
      · have HE := Lib.hid (show drvErr l wait = rndsErr l by rw [drvErr, if_neg hw, if_neg (by rintro (h | h); exact h20 h; rw [show (fun r : List Op => decide (200 < r.length)) = longR from rfl, ha] at h; cases h)])
        have HR := Lib.hid (show ∀ r ∈ l, r.length ≤ 200 from fun r hr => by
          have := List.any_eq_false.1 ha r hr
          unfold longR at this
          simp at this
          exact this)
        rw [ha] at HC
        have hbd : ∀ (w' : World) (n : Int), (Instr.build 63 #[(1, i64 n)]).run Tryd.prog w' = .ok (.agg #[.slice none 0 0, i64 n, i64 0, .slice none 0 0, i64 0]) w' := fun w' n => by kernel_rfl
        clear hw ha h20
        go_enter Tryd.func5, Tryd.ntmps5
        go_wp2_with (go_at_call 19; refine HC.out.mono ?_; rintro e w1 ⟨rfl, hE1⟩)
        go_loopw [34] (fun i wr => ∃ (k : Nat) (vr : Value) (vs : List Value), k ≤ l.length ∧ i = .int .i64 k ∧ NewMid w1 wait vr vs (l.take k) wr ∧ rndsErr l = rndsErr (l.drop k)) (fun i _ => l.length - (intOf i).toNat)
        case atStart => exact ⟨0, .slice none 0 0, [], Nat.zero_le _, rfl, ⟨ext_alloc (ext_refl _) _, heap_alloc_new w1 _, World.ownsRow_nil _ _ _ _, fun j r hr => by simp at hr⟩, rfl⟩
        case round =>
          obtain ⟨k, vr, vs, hk, rfl, hm, hgo⟩ := hrel
          have HM := Lib.hid hm
          have HG := Lib.hid hgo
          clear hm hgo
          by_cases hlt : k < l.length
          · have hlt2 : (k : Int) < (l.length : Int) := by omega
            obtain ⟨b, off, rfl, hb, hrow⟩ := hv.at_ hlt
            obtain ⟨vk, hcell, hrd⟩ := row_slice hrow rfl hlt
            have hwr : Ext w wr := hE1.trans HM.out.1
            have hcr := (World.cell?_of_block (hwr.block hb)).trans hcell
            have hrl := HR.out _ (List.getElem_mem hlt)
            have HD := Lib.hid (List.drop_eq_getElem_cons hlt)
            have HT := Lib.hid (List.take_succ_eq_append_getElem hlt)
            have HTL := Lib.hid (show (l.take k).length = k by rw [List.length_take]; omega)
            clear hrow hcell
            generalize l[k] = r at hrd hrl HD HT
            have HRD := Lib.hid (hrd.ext hwr)
            obtain ⟨C, c3, rfl, _, hc3, _⟩ := hrd.form
            unfold maxLen at hc3
            clear hrd
            obtain ⟨wo, rfl⟩ : ∃ wo : World, wo = wr := ⟨_, rfl⟩
            go_wp2_with fail
            go_loopw [40] (fun i wr => ∃ q : Nat, q ≤ r.length ∧ i = .int .i64 q ∧ Ext wo wr ∧ opsErr r = opsErr (r.drop q)) (fun i _ => r.length - (intOf i).toNat)
            case atStart => exact ⟨0, Nat.zero_le _, rfl, ext_refl _, rfl⟩
            case round =>
              obtain ⟨q, hq, rfl, hE2, hgo2⟩ := hrel
              have HG2 := Lib.hid hgo2
              clear hgo2
              by_cases hq2 : q < r.length
              · have hq3 : (q : Int) < (r.length : Int) := by omega
                obtain ⟨bc, oc, rfl, hbc, hrow⟩ := HRD.out.at_ hq2
                obtain ⟨cs, hro, hrel⟩ := hrow q _ (List.getElem?_eq_getElem hq2)
                obtain ⟨rfl, _⟩ : cs = Op.cells r[q] ∧ _ := hrel
                have HRO := Lib.hid (rangeAt_block hro (hE2.block hbc) : wr.rangeAt bc (oc + q * 8) _)
                have HD2 := Lib.hid (List.drop_eq_getElem_cons hq2)
                clear hro hrow
                generalize r[q] = o at HRO HD2
                have hbo := boxOpD_cells wr o
                have hwe : Ext w wr := hwr.trans hE2
                by_cases hout : o.switch < 1 ∨ 6 < o.switch
                · have HQ : Hid (drvErr l wait = 1) := by
                    show _ = _
                    have h1 : ¬ opErr o = 0 := by rw [opErr_out hout]; decide
                    have h2 : opsErr r = 1 := by rw [HG2.out, HD2.out, opsErr_1 h1, opErr_out hout]
                    rw [HE.out, HG.out, HD.out, rndsErr_1 (by rw [h2]; decide), h2]
                  rcases hout with hout | hout
                  all_goals
                    go_wp2_with (refine wpList_load_mid rfl 37 _ rfl bc _ rfl _ _ HRO.out Tryd.underlying37 rfl (by kernel_rfl) ?_; unfold Op.cells)
                    refine bodyPost_ret (v := .tuple #[.pointer none, errV 1]) (by simp [results, Tryd.results5, go_sem, errV]) rfl (NewDPost.err HQ.out (by decide) (ext_alloc hwe _) rfl)
                · have ho1 : 1 ≤ o.switch := by omega
                  have ho2 : o.switch ≤ 6 := by omega
                  have HOE := Lib.hid (opErr_in hout)
                  clear hout
                  by_cases hre : ruleErr o.rule = 0
                  · have HRE := Lib.hid hre
                    clear hre
                    go_wp2_with (first
                      | (refine wpList_load_mid rfl 37 _ rfl bc _ rfl _ _ HRO.out Tryd.underlying37 rfl (by kernel_rfl) ?_; unfold Op.cells)
                      | (go_at_call 21; refine (rcheck_any o.rule _).mono ?_; rintro e w3 ⟨rfl, hE⟩; have hX3 : Ext (boxOpD wr o) w3 := Ext.trans (by repeat first | assumption | exact ext_refl _ | apply ext_alloc | apply ext_drewN | apply ext_drew) hE; clear hE; rw [HRE.out, errV_zero]))
                    go_roundw
                    case rel => exact ⟨q + 1, by omega, by go_num, hE2.trans hX3.of_box, by rw [HG2.out, HD2.out, opsErr_n (HOE.out.trans HRE.out)]⟩
                    case measure => simp [intOf]; omega
                  · have HQ : Hid (drvErr l wait = ruleErr o.rule) := by
                      show _ = _
                      have h1 : ¬ opErr o = 0 := by rw [HOE.out]; exact hre
                      have h2 : opsErr r = ruleErr o.rule := by rw [HG2.out, HD2.out, opsErr_1 h1, HOE.out]
                      rw [HE.out, HG.out, HD.out, rndsErr_1 (by rw [h2]; exact hre), h2]
                    have hd : decide (ruleErr o.rule = 0) = false := by simpa using hre
                    have HRE := Lib.hid hre
                    clear hre
                    go_wp2_with (first
                      | (refine wpList_load_mid rfl 37 _ rfl bc _ rfl _ _ HRO.out Tryd.underlying37 rfl (by kernel_rfl) ?_; unfold Op.cells)
                      | (go_at_call 21; refine (rcheck_any o.rule _).mono ?_; rintro e w3 ⟨rfl, hE⟩; have hX3 : Ext (boxOpD wr o) w3 := Ext.trans (by repeat first | assumption | exact ext_refl _ | apply ext_alloc | apply ext_drewN | apply ext_drew) hE; clear hE))
                    refine bodyPost_ret (v := .tuple #[.pointer none, errV (ruleErr o.rule)]) (by simp [results, Tryd.results5, go_sem]) rfl (NewDPost.err HQ.out HRE.out (hwe.trans hX3.of_box) rfl)
              · have hqe : q = r.length := by omega
                have h0 : opsErr r = 0 := by rw [HG2.out, hqe, List.drop_length]; rfl
                have HG3 : Hid (rndsErr l = rndsErr (l.drop (k + 1))) := by
                  show _ = _
                  rw [HG.out, HD.out, rndsErr_n h0]
                clear h0
                subst hqe
                have HM2 := Lib.hid (HM.out.ext hE2)
                have hbc : ∀ w', Ext wr w' → w'.cell? ⟨w1.heap.size, 0, none⟩ = some vr := fun w' e => cell_of_row w' _ 0 _ _ _ (HM2.out.ext e).2.1
                have hbf : ∀ w', Ext wr w' → w'.frozen? ⟨w1.heap.size, 0, none⟩ = false := fun w' e => frozen_of_row w' _ 0 _ _ (HM2.out.ext e).2.1
                have hbs : ∀ (w' : World) (A : Option Addr) (n c : Nat), (Instr.buildSlice 22 1 #[(0, .slice A n c)]).run Tryd.prog w' = .ok (.slice (some ⟨w'.heap.size, 0, none⟩) 1 1) (w'.alloc (.cells #[.slice A n c] 43)) := fun w' _ _ _ => by kernel_rfl
                obtain ⟨i0, hi0, hz0, hz1, hz2⟩ := info_of (show (Tryd.prog.info? 43).map (fun i => (i.zero, i.size, i.bytes)) = some (some (.slice none 0 0), 1, 24) by kernel_rfl)
                have HCL := Lib.hid fun w' (e : Ext wr w') => clone_op r _ w' (HRD.out.ext (hE2.trans e)) (by omega)
                have c1 := Lib.hid (show (l.take k).length + 1 ≤ maxLen by have := HTL.out; unfold maxLen; omega)
                have c2 := Lib.hid (show ((l.take k).length + 1) * 24 ≤ 140737488355328 by have := HTL.out; omega)
                have hps : w1.heap.size + 1 ≤ wr.heap.size := (Array.getElem?_eq_some_iff.1 HM2.out.2.1).1
                go_upto_region 18 with fail
                go_region_law (first
                  | (refine step_append_src rfl (.tmp 64) (.tmp 67) _ rfl (w1.heap.size + 1) 43 i0 _ 1 24 Tryd.underlying22 hi0 hz0 hz1 hz2 rfl (Nat.zero_lt_succ _) vr (l.take k).length vs rfl (own_keep HM2.out.2.2.1 (show Ext wr _ from (by repeat first | assumption | exact ext_refl _ | apply ext_alloc | apply ext_drewN | apply ext_drew))) _ 1 1 [.slice A3 r.length c3'] rfl (src_one (heap_alloc_new _ _) rfl) (fun u hu => by simp at hu; subst hu; rfl) c1.out c2.out (Nat.le_trans hps (Nat.le_trans hX3.size (le_alloc _ _))) ?_; intro v5 w5 hown5 hgr5 _; obtain ⟨A5, c5, rfl⟩ := own_slice hown5; have hp5 := HM2.out.blk5 (show Ext wr (w3.alloc (.cells #[.slice A3 r.length c3'] 43)) from ext_alloc hX3 _) hgr5; have hc5 := cell_of_row w5 _ 0 _ _ _ hp5; have hf5 := frozen_of_row w5 _ 0 _ _ hp5; clear hp5)
                  | (go_simp; go_at_call 22; refine (HCL.out _ (by repeat first | assumption | exact ext_refl _ | apply ext_drewN | apply ext_drew)).mono ?_; rintro e w3 ⟨v3, rfl, hown3, hE3⟩; obtain ⟨A3, c3', rfl⟩ := own_slice hown3; have hX3 : Ext wr w3 := Ext.trans (by repeat first | assumption | exact ext_refl _ | apply ext_drewN | apply ext_drew) hE3))
                all_goals
                  go_wp2
                  have HSTEP := HM2.out.step (r := r) (show Ext wr (w3.alloc (.cells #[.slice A3 r.length c3'] 43)) from ext_alloc hX3 _) ((own_base hown3 (Nat.le_trans hps (by simp))).alloc _) hgr5 hown5
                  rw [← HT.out] at HSTEP
                  have e5 : Value.slice A5 ((l.take k).length + 1) c5 = Value.slice A5 (k + 1) c5 := by rw [HTL.out]
                  rw [e5] at HSTEP
                  refine ⟨⟨k + 1, _, _, by omega, by go_num, HSTEP, HG3.out⟩, ?_⟩
                  simp [intOf]
                  omega
          · have hke : k = l.length := by omega
            subst hke
            have hz : drvErr l wait = 0 := by rw [HE.out, HG.out, List.drop_length]; rfl
            have HZ := Lib.hid hz
            have hm := HM.out
            rw [List.take_length] at hm
            have HM2 := Lib.hid hm
            clear hz hm HM
            go_wp2
            refine bodyPost_ret (v := .tuple #[.pointer (some ⟨w1.heap.size, 0, none⟩), .nilIface]) (by simp [results, Tryd.results5, go_sem]) rfl ⟨hE1.trans HM2.out.1, fun _ => ⟨w1.heap.size, _, rfl, hE1.size, HM2.out.2.2.drive HM2.out.2.1⟩, fun h => absurd HZ.out h⟩
      · have HE := Lib.hid (show drvErr l wait = 4 by rw [drvErr, if_neg hw, if_pos (.inr ha)])
        rw [ha] at HC
        clear hw hv ha h20
        go_enter Tryd.func5, Tryd.ntmps5
        go_wp2_with (go_at_call 19; refine HC.out.mono ?_; rintro e w1 ⟨rfl, hE1⟩)
        refine bodyPost_ret (v := .tuple #[.pointer none, errV 4]) (by simp [results, Tryd.results5, go_sem, errV]) rfl (NewDPost.err HE.out (by decide) hE1 rfl)
end Go.Proofs.YtkfckanbpmkbgaaDoor
