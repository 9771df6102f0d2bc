/- Walks: (*Drive).Next, Hear, Tick. -/
import Derived.Test.YtkfckanbpmkbgaaDoorDrive2
import Derived.Deep.DeepCutAuto
namespace Go.Proofs.YtkfckanbpmkbgaaDoor
open Go Go.RowKit
def NextPost (p : Nat) (d : Drv) (vr vl : Value) (w : World) (e : Ending) (w' : World) : Prop :=
  ∃ v' vl', e = .returned (.tuple #[v', errV (nextA d).2.2]) ∧ TMsg.slice.rel w' w.heap.size w'.heap.size (nextA d).2.1 [v'] ∧ DriveAt w' p (nextA d).1 vr vl' ∧ OffV p vl w w' ∧ (mayA d = false → vl' = vl ∧ Ext w w') ∧ (mayA d = true → ∀ g, vl'.ownBlock = some g → w.heap.size ≤ g)
/-- Behind 'd.left = mix.Touched(..)'. -/
def NextMid (p : Nat) (r : List Op) (w1 wx : World) : Prop := ∃ w2 A2 c2, Ext w1 w2 ∧ w2.ownsRow w1.heap.size 3 1 (.slice A2 (touched r).length c2) (touched r).length ((touched r).map i64) ∧ wx = w2.setCell ⟨p, 3, none⟩ (.slice A2 (touched r).length c2)
set_option maxRecDepth 100000 in
set_option maxHeartbeats 1600000 in
theorem next_any (p : Nat) (d : Drv) (vr vl : Value) (w : World) (h : DriveAt w p d vr vl) (h0 : 0 ≤ d.said) (hkl : d.rounds.length ≤ 100000) (hrl : ∀ r ∈ d.rounds, r.length ≤ 200) :
    Calls Tryd.prog 7 #[.pointer (some ⟨p, 0, none⟩)] w (NextPost p d vr vl w) := by
  have HMAY := Lib.hid (may_any p d vr vl w h)
  have HH := Lib.hid h
  cases hm : mayA d
  · have HE := Lib.hid (show nextA d = (d, [], 6) by rw [nextA, if_neg (by simp [hm])])
    rw [hm] at HMAY
    have HM := Lib.hid hm
    clear h hm
    go_enter Tryd.func7, Tryd.ntmps7
    go_wp2_with (go_at_call 24; refine HMAY.out.mono ?_; rintro e w1 ⟨rfl, hE⟩)
    refine bodyPost_ret (v := .tuple #[.slice none 0 0, errV 6]) (by simp [results, Tryd.results7, go_sem, errV]) rfl ?_
    unfold NextPost
    rw [HE.out]
    exact ⟨_, vl, rfl, rel_none _ _ _ _, HH.out.ext hE, OffV.of_ext hE, fun _ => ⟨rfl, hE⟩, fun h => by rw [HM.out] at h; cases h⟩
  · have HE := Lib.hid (show nextA d = (nextD d, sayA (nextD d), 0) by rw [nextA, if_pos hm])
    have hlt : d.said < d.rounds.length := by unfold mayA at hm; simp at hm; exact hm.2
    rw [hm] at HMAY
    have HM := Lib.hid hm
    obtain ⟨k, hk⟩ : ∃ k : Nat, d.said = k := ⟨d.said.toNat, by omega⟩
    have hkr : k < d.rounds.length := by omega
    have hc := h.cells
    have hf := h.free
    rw [hk] at hc
    have hgr : d.rounds[k]? = some d.rounds[k] := List.getElem?_eq_getElem hkr
    have hgd : d.rounds.getD d.said.toNat [] = d.rounds[k] := by rw [hk]; simp [hkr]
    have hrl2 := hrl _ (List.getElem_mem hkr)
    obtain ⟨A, c, hvl⟩ := own_slice h.own
    obtain ⟨B, c2, hvr, _⟩ := h.rndR.form
    subst hvl hvr
    obtain ⟨b, off, rfl, hb, hrow⟩ := h.rndR.at_ hkr
    obtain ⟨vk, hcell, hrd⟩ := row_slice hrow rfl hkr
    generalize d.rounds[k] = r at hgr hgd hrl2 hrd
    have hck : ∀ w', Ext w w' → w'.cell? ⟨b, off + k, none⟩ = some vk := fun w' e => (World.cell?_of_block (e.block hb)).trans hcell
    have HRD := Lib.hid hrd
    have HG := Lib.hid hgr
    have HGD := Lib.hid hgd
    have HK := Lib.hid hk
    have hk0 : (0 : Int) ≤ (k : Int) := by omega
    have hk1 : (k : Int) < (d.rounds.length : Int) := by omega
    have hwk : IntKind.i64.wrap (k : Int) = (k : Int) := IntWalk.i64_in _ (by omega)
    clear h hrow hcell hrd hgr hgd hk hm hlt hrl
    go_enter Tryd.func7, Tryd.ntmps7
    go_upto_region 3 with (go_at_call 24; refine HMAY.out.mono ?_; rintro e w1 ⟨rfl, hE⟩)
    have hc1 := fun w' (e : Ext w1 w') => hc w' (hE.trans e)
    have hf1 := fun w' (e : Ext w1 w') => hf w' (hE.trans e)
    have hck1 := fun w' (e : Ext w1 w') => hck w' (hE.trans e)
    have HC := Lib.hid hc
    have HF := Lib.hid hf
    clear hc hf hck
    go_cut [] (fun wx => NextMid p r w1 wx)
    case first =>
      go_region_with (go_at_call 25; refine (touched_any r _ _ (HRD.out.ext (hE.trans (show Ext w1 _ from (by repeat first | assumption | exact ext_refl _ | apply ext_drewN | apply ext_drew)))) (by omega)).mono ?_; rintro e w2 ⟨v2, rfl, hown2, hE2⟩; have hX2 : Ext w1 w2 := Ext.trans (by repeat first | assumption | exact ext_refl _ | apply ext_drewN | apply ext_drew) hE2; obtain ⟨A2, c3, rfl⟩ := own_slice hown2)
      all_goals
        go_wp2_with fail
        go_meet
        exact ⟨w2, A2, c3, hX2, own_base hown2 (by simp), rfl⟩
    case rest =>
      obtain ⟨w2, A2, c3, hX2, hown2, rfl⟩ := hcut
      have HA1 := Lib.hid (HH.out.leftSet hE hX2 (touched r) hown2)
      have HO2 := Lib.hid hown2
      have hca := HA1.out.cells _ (ext_refl _)
      have hfa := HA1.out.free _ (ext_refl _)
      simp only [HK.out] at hca
      have HD : Hid (nextD d = { d with left := touched r, said := (k : Int) + 1, ticks := 0 }) := by
        show _ = _
        rw [nextD, HGD.out, HK.out]
      have hk2 : (k : Int) + 1 ≤ 100000 := by omega
      have HA3 : Hid (DriveAt (((w2.setCell ⟨p, 3, none⟩ (.slice A2 (touched r).length c3)).setCell ⟨p, 2, none⟩ (i64 ((k : Int) + 1))).setCell ⟨p, 4, none⟩ (i64 0)) p (nextD d) (.slice (some ⟨b, off, none⟩) d.rounds.length c2) (.slice A2 (touched r).length c3)) := by
        show DriveAt _ _ _ _ _
        rw [HD.out]
        exact (HA1.out.put { d with left := touched r, said := (k : Int) + 1 } _ rfl rfl rfl).put _ _ rfl rfl rfl
      have HSAY := Lib.hid (say_any p (nextD d) _ _ _ HA3.out k (by rw [HD.out]) (by rw [HD.out]; omega) (by rw [HD.out]; exact hkl) r (by rw [HD.out]; exact HG.out) hrl2 (by rw [HD.out]; exact touched_len r hrl2))
      clear hown2
      go_wp2_with (go_at_call 26; refine HSAY.out.mono ?_; rintro e w4 ⟨v4, rfl, hown4, hX4⟩)
      refine bodyPost_ret (v := .tuple #[v4, .nilIface]) (by simp [results, Tryd.results7, go_sem]) rfl ?_
      unfold NextPost
      have hsz : w.heap.size ≤ w2.heap.size := (hE.trans hX2).size
      have hsay : sayA (nextD d) = (nextD d).left.flatMap (sayOne r k) := by
        rw [sayA, HD.out]
        simp [HG.out]
      rw [HE.out]
      refine ⟨v4, _, by rw [errV_zero], ?_, HA3.out.ext hX4, ?_, fun h => (by rw [HM.out] at h; cases h), fun _ g hg => ?_⟩
      · rw [hsay]
        exact TMsg.slice.ext (rel_of_own (n := 12) (enc := Msg.cells) (h := fun _ => rfl) (ok := Msg.ok) hown4 (fun _ _ => trivial)) (fun _ _ _ => rfl) (by simp [World.setCell]; omega) (Nat.le_refl _)
      · exact (OffV.set (q := ⟨p, 4, none⟩) (OffV.set (q := ⟨p, 2, none⟩) (OffV.set (q := ⟨p, 3, none⟩) (OffV.of_ext (hE.trans hX2)) rfl _) rfl _) rfl _).then hX4
      · have := (HO2.out.lt g hg).1
        have := hE.size
        omega
end Go.Proofs.YtkfckanbpmkbgaaDoor
