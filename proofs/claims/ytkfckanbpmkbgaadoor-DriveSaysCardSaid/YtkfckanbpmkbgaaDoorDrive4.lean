/- Walks: (*Drive).Hear, Tick. -/
import Derived.Test.YtkfckanbpmkbgaaDoorDrive3
namespace Go.Proofs.YtkfckanbpmkbgaaDoor
open Go Go.RowKit
abbrev msgVal2 (m : Msg) : Value := .agg #[i64 m.kind, i64 m.switch, i64 m.round, i64 m.index, i64 m.op.switch, .bool m.op.add, i64 m.op.rule.prio, i64 m.op.rule.cube.mask, i64 m.op.rule.cube.bits, i64 m.op.rule.out, i64 m.op.rule.set, i64 m.op.rule.value]
theorem msg_cells3 (w : World) (m : Msg) : ∀ w', Ext (boxMsg w m) w' → w'.cell? ⟨w.heap.size, 0, none⟩ = some (i64 m.kind) ∧ w'.cell? ⟨w.heap.size, 1, none⟩ = some (i64 m.switch) ∧ w'.cell? ⟨w.heap.size, 2, none⟩ = some (i64 m.round) := fun w' e =>
  have r := box_range (cs := m.cells) e
  ⟨r 0 _ rfl, r 1 _ rfl, r 2 _ rfl⟩
/-- One is taken out of those that are left. -/
theorem DriveAt.cut {w w2 : World} {p : Nat} {d : Drv} {vr vl v : Value} (h : DriveAt w p d vr vl) (l : List Int) (hg : w.grownBy w2 vl.ownBlock) (ho : w2.ownsRow (p + 1) 3 1 v l.length (l.map i64)) (hb : v.ownBlock = vl.ownBlock) :
    DriveAt (w2.setCell ⟨p, 3, none⟩ v) p { d with left := l } vr v := by
  have hp : w2.heap[p]? = some (.cells #[vr, i64 d.wait, i64 d.said, vl, i64 d.ticks] 63 (0, 0)) := (hg.block p h.lt (fun e => by have := (h.own.lt p e.symm).1; omega)).trans h.blk
  refine ⟨heap_setCell_same w2 p 3 _ _ v hp, ?_, ownsRow_setCell_below ho (by simp) _⟩
  obtain ⟨lo, hi, hr, h1, h2, h3⟩ := h.rnds
  refine ⟨lo, hi, TOp.slice.slice.ext hr (fun b hb hb2 => ?_) (Nat.le_refl _) (Nat.le_refl _), ?_, h2, fun g e => h3 g (hb ▸ e)⟩
  · rw [Below.heap_setCell _ _ _ _ (by simp; omega)]
    exact hg.block b (by omega) (fun e => by have := h3 b e.symm; omega)
  · have := hg.size; simp [World.setCell]; omega
theorem dropI_at {l : List Int} {s : Int} {k : Nat} (h : idxOf (fun x => decide (x = s)) l = k) (_ : k < l.length) : dropI l s = l.take k ++ l.drop (k + 1) ∧ s ∈ l := by
  unfold idxOf at h
  split at h
  · rename_i hlt
    have e : l.findIdx (fun x => decide (x = s)) = k := by omega
    refine ⟨by rw [dropI, e], ?_⟩
    have := List.findIdx_getElem (w := hlt)
    simp at this
    exact this ▸ List.getElem_mem _
  · omega
theorem notIn_of {l : List Int} {s : Int} (h : idxOf (fun x => decide (x = s)) l = -1) : s ∉ l := fun hm => by
  unfold idxOf at h
  split at h
  · omega
  · rename_i hn
    exact hn (List.findIdx_lt_length.2 ⟨s, hm, by simp⟩)
theorem DriveAt.blk3 {w w2 : World} {p : Nat} {d : Drv} {vr vl : Value} (h : DriveAt w p d vr vl) (hg : w.grownBy w2 vl.ownBlock) : w2.heap[p]? = some (.cells #[vr, i64 d.wait, i64 d.said, vl, i64 d.ticks] 63 (0, 0)) :=
  (hg.block p h.lt (fun e => by have := (h.own.lt p e.symm).1; omega)).trans h.blk
theorem map_drop (l : List Int) (k : Nat) : (l.map i64).take (k * 1) ++ (l.map i64).drop ((k + 1) * 1) = (l.take k ++ l.drop (k + 1)).map i64 := by simp [List.map_take, List.map_drop]
theorem one_ints (l : List Int) : ∀ u ∈ l.map i64, u.oneCell' = true := fun u hu => by
  obtain ⟨x, _, rfl⟩ := List.mem_map.1 hu
  rfl
def HearDPost (p : Nat) (d : Drv) (m : Msg) (vr vl : Value) (w : World) (e : Ending) (w' : World) : Prop :=
  ∃ vl', e = .returned (errV (hearD d m).2) ∧ DriveAt w' p (hearD d m).1 vr vl' ∧ OffV p vl w w' ∧ vl'.ownBlock = vl.ownBlock
set_option maxRecDepth 100000 in
set_option maxHeartbeats 1600000 in
theorem heard_any (p : Nat) (d : Drv) (m : Msg) (vr vl : Value) (w : World) (h : DriveAt w p d vr vl) (h0 : 0 ≤ d.said) (h1 : d.said ≤ 100000) (hll : d.left.length ≤ 1000) :
    Calls Tryd.prog 9 #[.pointer (some ⟨p, 0, none⟩), msgVal2 m] w (HearDPost p d m vr vl w) := by
  have hc := h.cells
  have hbm := msg_cells3 w m
  have HH := Lib.hid h
  by_cases he : msgErr m = 0
  · have HZ := Lib.hid he
    clear he
    by_cases hk : m.kind = 3
    · have hk4 : (m.kind != 3) = false := by simpa using hk
      have HK := Lib.hid hk
      clear hk
      have hs1 : IntKind.i64.wrap (d.said - 1) = d.said - 1 := IntWalk.i64_in _ (by omega)
      have hs0 : -1 ≤ d.said - 1 := by omega
      obtain ⟨A, c, hvl⟩ := own_slice h.own
      subst hvl
      have HI := Lib.hid fun w' (e : Ext w w') => index_int d.left _ m.switch w' (h.leftR.ext e)
      clear h h0 h1
      by_cases hr : m.round = d.said - 1
      · have hr2 : (m.round != d.said - 1) = false := by simpa using hr
        have HR := Lib.hid hr
        clear hr
        rcases idx_cases (fun x => decide (x = m.switch)) d.left with hi | ⟨k, hi, hkl⟩
        · have HIX := Lib.hid hi
          have HE := Lib.hid (show hearD d m = (d, 6) by rw [hearD, if_neg (by simp [HZ.out, HK.out]), if_pos (.inr (notIn_of hi))])
          clear hi
          go_enter Tryd.func9, Tryd.ntmps9
          go_wp2_with (first | (go_at_call 28; refine (wcheck_any m _).mono ?_; rintro e w1 ⟨rfl, hE⟩; have hX : Ext (boxMsg w m) w1 := Ext.trans (by repeat first | assumption | exact ext_refl _ | apply ext_alloc | apply ext_drewN | apply ext_drew) hE; have hY := hX.of_box; have hb1 := hbm _ hX; have hc1 := hc _ hY; rw [HZ.out, errV_zero]))
          go_quiet ((go_at_call 29; exact Calls.quiet_of_same (HI.out _ (ext_drewN hY _))))
          rw [HIX.out]
          go_wp2
          go_quiet (fail)
          go_wp2
          refine bodyPost_ret (v := errV 6) (by simp [results, Tryd.results9, go_sem, errV]) rfl ?_
          unfold HearDPost
          rw [HE.out]
          exact ⟨_, rfl, HH.out.ext (ext_drewN hY _), OffV.of_ext (ext_drewN hY _), rfl⟩
        · have HIX := Lib.hid hi
          have hdr := dropI_at hi hkl
          have HE := Lib.hid (show hearD d m = ({ d with left := dropI d.left m.switch }, 0) by rw [hearD, if_neg (by simp [HZ.out, HK.out]), if_neg (by simp [HR.out, hdr.2])])
          have HDR := Lib.hid hdr.1
          clear hi hdr
          have hk0 : (0 : Int) ≤ (k : Int) := by omega
          have hlen1 : d.left.length ≤ 1000 := hll
          have hwk : IntKind.i64.wrap ((k : Int) + 1) = (k : Int) + 1 := IntWalk.i64_in _ (by omega)
          have HKL := Lib.hid hkl
          clear hkl
          go_enter Tryd.func9, Tryd.ntmps9
          go_wp2_with (first | (go_at_call 28; refine (wcheck_any m _).mono ?_; rintro e w1 ⟨rfl, hE⟩; have hX : Ext (boxMsg w m) w1 := Ext.trans (by repeat first | assumption | exact ext_refl _ | apply ext_alloc | apply ext_drewN | apply ext_drew) hE; have hY := hX.of_box; have hb1 := hbm _ hX; have hc1 := hc _ hY; rw [HZ.out, errV_zero]))
          go_quiet ((go_at_call 29; exact Calls.quiet_of_same (HI.out _ (ext_drewN hY _))))
          rw [HIX.out]
          go_wp2
          go_quiet (fail)
          generalize hwy : w1.drewN _ = wy
          generalize hwz : wy.drewN nq = wz
          have hEy : Ext w1 wy := hwy ▸ ext_drewN (ext_refl _) _
          have hEz : Ext w wz := hY.trans (hEy.trans (hwz ▸ ext_drewN (ext_refl _) _))
          clear hwz hwy
          have hcz := hc wz hEz
          have HDZ := Lib.hid (HH.out.ext hEz)
          have HMP := Lib.hid (map_drop d.left k)
          go_wp2_with (go_at_call 30; refine (delete_int (p + 1) (d.left.map i64) d.left.length k _ _ HDZ.out.own HKL.out (one_ints d.left)).mono ?_; rintro e w3 ⟨v3, rfl, hown3, hgr3, hb3⟩; rw [HMP.out] at hown3; obtain ⟨A3, c3, rfl⟩ := own_slice hown3; have hp3 := HDZ.out.blk3 hgr3; have hc3 := cell_of_row w3 p 3 _ _ _ hp3; have hf3 := frozen_of_row w3 p 3 _ _ hp3; have HO3 := Lib.hid hown3; have HG3 := Lib.hid hgr3; have HB3 := Lib.hid hb3; clear hown3 hgr3 hp3 hb3)
          refine bodyPost_ret (v := .nilIface) (by simp [results, Tryd.results9, go_sem]) rfl ?_
          unfold HearDPost
          rw [HE.out]
          refine ⟨_, by rw [errV_zero], HDZ.out.cut (dropI d.left m.switch) HG3.out ?_ HB3.out, ?_, HB3.out⟩
          · rw [HDR.out]
            have hl : (d.left.take k ++ d.left.drop (k + 1)).length = d.left.length - 1 := by have := HKL.out; simp; omega
            rw [hl]
            exact HO3.out
          · exact OffV.set (q := ⟨p, 3, none⟩) ((OffV.of_ext hEz).grown HG3.out) rfl _
      · have hr2 : (m.round != d.said - 1) = true := by simpa using hr
        have HE := Lib.hid (show hearD d m = (d, 6) by rw [hearD, if_neg (by simp [HZ.out, HK.out]), if_pos (.inl hr)])
        clear hr
        go_enter Tryd.func9, Tryd.ntmps9
        go_wp2_with (first | (go_at_call 28; refine (wcheck_any m _).mono ?_; rintro e w1 ⟨rfl, hE⟩; have hX : Ext (boxMsg w m) w1 := Ext.trans (by repeat first | assumption | exact ext_refl _ | apply ext_alloc | apply ext_drewN | apply ext_drew) hE; have hY := hX.of_box; have hb1 := hbm _ hX; have hc1 := hc _ hY; rw [HZ.out, errV_zero]))
        go_quiet ((go_at_call 29; exact Calls.quiet_of_same (HI.out _ (ext_drewN hY _))))
        skip
        go_wp2
        go_quiet (fail)
        go_wp2
        refine bodyPost_ret (v := errV 6) (by simp [results, Tryd.results9, go_sem, errV]) rfl ?_
        unfold HearDPost
        rw [HE.out]
        exact ⟨_, rfl, HH.out.ext (ext_drewN hY _), OffV.of_ext (ext_drewN hY _), rfl⟩
    · have hk4 : (m.kind != 3) = true := by simpa using hk
      have HE := Lib.hid (show hearD d m = (d, 3) by rw [hearD, if_pos (.inr hk)])
      clear hk h
      go_enter Tryd.func9, Tryd.ntmps9
      go_wp2_with (first | (go_at_call 28; refine (wcheck_any m _).mono ?_; rintro e w1 ⟨rfl, hE⟩; have hX : Ext (boxMsg w m) w1 := Ext.trans (by repeat first | assumption | exact ext_refl _ | apply ext_alloc | apply ext_drewN | apply ext_drew) hE; have hY := hX.of_box; have hb1 := hbm _ hX; have hc1 := hc _ hY; rw [HZ.out, errV_zero]))
      refine bodyPost_ret (v := errV 3) (by simp [results, Tryd.results9, go_sem, errV]) rfl ?_
      unfold HearDPost
      rw [HE.out]
      exact ⟨vl, rfl, HH.out.ext hY, OffV.of_ext hY, rfl⟩
  · have hd : decide (msgErr m = 0) = false := by simpa using he
    have HE := Lib.hid (show hearD d m = (d, 3) by rw [hearD, if_pos (.inl he)])
    clear he h
    go_enter Tryd.func9, Tryd.ntmps9
    go_wp2_with (first | (go_at_call 28; refine (wcheck_any m _).mono ?_; rintro e w1 ⟨rfl, hE⟩; have hX : Ext (boxMsg w m) w1 := Ext.trans (by repeat first | assumption | exact ext_refl _ | apply ext_alloc | apply ext_drewN | apply ext_drew) hE; have hY := hX.of_box; have hb1 := hbm _ hX; have hc1 := hc _ hY))
    refine bodyPost_ret (v := errV 3) (by simp [results, Tryd.results9, go_sem, errV]) rfl ?_
    unfold HearDPost
    rw [HE.out]
    exact ⟨vl, rfl, HH.out.ext hY, OffV.of_ext hY, rfl⟩
end Go.Proofs.YtkfckanbpmkbgaaDoor
