/- Walk: what is wrong with a net. -/
import Derived.Test.YthimhcbjboffcaaDoorTopo2
import Derived.Test.YthimhcbjboffcaaDoorRule2
namespace Go.Proofs.YthimhcbjboffcaaDoor
open Go Go.RowKit
structure Net where
  topo : Topo
  tables : List (List Rule)
  deriving DecidableEq
def tabsErr : List (List Rule) → Int
  | [] => 0
  | t :: ts => if tabErr t ≠ 0 then tabErr t else tabsErr ts
def netErr (n : Net) : Int := if topoErr n.topo ≠ 0 then topoErr n.topo else if (n.tables.length : Int) ≠ n.topo.switches then 3 else tabsErr n.tables
/-- A net, by its value. -/
def RdNet (w : World) (n : Net) (vl vh vt : Value) : Prop := RdTopo w n.topo vl vh ∧ RdL TRule.slice w n.tables vt
theorem RdNet.ext {w w' : World} {n : Net} {vl vh vt : Value} (h : RdNet w n vl vh vt) (hE : Ext w w') : RdNet w' n vl vh vt := ⟨h.1.ext hE, h.2.ext hE⟩
/-- A net that lies in blocks from lo on. -/
def RelNet (w : World) (lo : Nat) (n : Net) (vl vh vt : Value) : Prop := TLink.slice.rel w lo w.heap.size n.topo.links [vl] ∧ THost.slice.rel w lo w.heap.size n.topo.hosts [vh] ∧ TRule.slice.slice.rel w lo w.heap.size n.tables [vt]
theorem RelNet.rd {w : World} {lo : Nat} {n : Net} {vl vh vt : Value} (h : RelNet w lo n vl vh vt) : RdNet w n vl vh vt := ⟨⟨RdL.of_rel h.1 (Nat.le_refl _), RdL.of_rel h.2.1 (Nat.le_refl _)⟩, RdL.of_rel h.2.2 (Nat.le_refl _)⟩
/-- The k-th of a slice of slices. -/
theorem row_slice {α : Type} {T : Ty α} {w : World} {hi b off : Nat} {xs : List (List α)} (h : rowAt T.slice w 0 w.heap.size b off xs) (_ : hi = w.heap.size) {k : Nat} (hk : k < xs.length) : ∃ v, w.cell? ⟨b, off + k, none⟩ = some v ∧ RdL T w xs[k] v := by
  obtain ⟨cs, hc, hr⟩ := h k _ (List.getElem?_eq_getElem hk)
  obtain ⟨A, c, rfl, h1⟩ := hr
  refine ⟨_, ?_, A, c, rfl, h1⟩
  have := hc 0 _ rfl
  simpa [Ty.slice] using this
abbrev boxNet (w : World) (sw : Int) (vl vh vt : Value) : World := w.alloc (.cells #[i64 sw, vl, vh, vt] 37)
theorem boxNet_cells (w : World) (sw : Int) (vl vh vt : Value) : ∀ w', Ext (boxNet w sw vl vh vt) w' → w'.cell? ⟨w.heap.size, 0, none⟩ = some (i64 sw) ∧ w'.cell? ⟨w.heap.size, 1, none⟩ = some vl ∧ w'.cell? ⟨w.heap.size, 2, none⟩ = some vh ∧ w'.cell? ⟨w.heap.size, 3, none⟩ = some vt :=
  fun _ h => have r := box_range (cs := [i64 sw, vl, vh, vt]) h; ⟨r 0 _ rfl, r 1 _ rfl, r 2 _ rfl, r 3 _ rfl⟩
theorem tabsErr_1 {t : List Rule} {ts : List (List Rule)} (h : ¬ tabErr t = 0) : tabsErr (t :: ts) = tabErr t := by rw [tabsErr, if_pos h]
theorem tabsErr_next {t : List Rule} {ts : List (List Rule)} (h : tabErr t = 0) : tabsErr (t :: ts) = tabsErr ts := by rw [tabsErr, if_neg (by simpa using h)]

set_option maxRecDepth 100000 in
set_option maxHeartbeats 800000 in
theorem ncheck_any (n : Net) (vl vh vt : Value) (w : World) (hr : RdNet w n vl vh vt) :
    Calls Tryd.prog 15 #[.agg #[i64 n.topo.switches, vl, vh, vt]] w fun e w' => e = .returned (errV (netErr n)) ∧ Ext w w' := by
  obtain ⟨ht, hv⟩ := hr
  obtain ⟨A, c, rfl, hn, hc, _⟩ := hv.form
  unfold maxLen at hc
  obtain ⟨Al, cl, rfl, _, _, _⟩ := ht.1.form
  obtain ⟨Ah, ch, rfl, _, _, _⟩ := ht.2.form
  have hbt := boxNet_cells w n.topo.switches (.slice Al n.topo.links.length cl) (.slice Ah n.topo.hosts.length ch) (.slice A n.tables.length c)
  by_cases h1 : topoErr n.topo = 0
  · have H1 := Lib.hid h1
    clear h1
    by_cases h2 : (n.tables.length : Int) = n.topo.switches
    · have HE := Lib.hid (show netErr n = tabsErr n.tables by rw [netErr, if_neg (by simpa using H1.out), if_neg (by simpa using h2)])
      have h20 : ((n.tables.length : Int) != n.topo.switches) = false := by simp [h2]
      have h21 : (decide ((n.tables.length : Int) = n.topo.switches)) = true := by simp [h2]
      clear h2
      go_enter Tryd.func15, Tryd.ntmps15
      go_wp2_with (go_at_call 29; refine (tcheck_any n.topo _ _ _ (ht.ext (by repeat first | assumption | exact ext_refl _ | apply ext_alloc | apply ext_drewN | apply ext_drew))).mono ?_; rintro e w1 ⟨rfl, hE⟩; have hX : Ext (boxNet w n.topo.switches (.slice Al n.topo.links.length cl) (.slice Ah n.topo.hosts.length ch) (.slice A n.tables.length c)) w1 := Ext.trans (by repeat first | assumption | exact ext_refl _ | apply ext_alloc | apply ext_drewN | apply ext_drew) hE; clear hE; rw [H1.out, errV_zero])
      go_loopw [24] (fun i wr => ∃ k : Nat, k ≤ n.tables.length ∧ i = .int .i64 k ∧ Ext w wr ∧ tabsErr n.tables = tabsErr (n.tables.drop k)) (fun i _ => n.tables.length - (intOf i).toNat)
      case atStart => exact ⟨0, Nat.zero_le _, rfl, hX.of_box, rfl⟩
      case round =>
        obtain ⟨k, hk, rfl, hE0, hgo⟩ := hrel
        have HG := Lib.hid hgo; clear hgo
        by_cases hlt : k < n.tables.length
        · obtain ⟨b, off, rfl, hb, hrow⟩ := hv.at_ hlt
          obtain ⟨v, hcell, hrd⟩ := row_slice hrow rfl hlt
          have hck : ∀ w', Ext w w' → w'.cell? ⟨b, off + k, none⟩ = some v := fun w' h => (World.cell?_of_block (h.block hb)).trans hcell
          have HD := Lib.hid (List.drop_eq_getElem_cons hlt)
          clear hrow hcell
          generalize n.tables[k] = t at HD hrd
          go_wp2_with (go_at_call 13; refine (table_any t _ _ (hrd.ext hE0)).mono ?_; rintro e w2 ⟨rfl, hE⟩)
          all_goals (have HQ : Hid (netErr n = tabsErr (t :: n.tables.drop (k + 1))) := by (show _ = _; rw [HE.out, HG.out, HD.out]))
          · go_ret
            exact ⟨ret_err (by rw [HQ.out, tabsErr_1 (nz_of ‹_›)]), hE0.trans hE⟩
          · go_roundw
            case rel => exact ⟨k + 1, by omega, by go_num, hE0.trans hE, by rw [HG.out, HD.out, tabsErr_next (z_of ‹_›)]⟩
            case measure => simp [intOf]; omega
        · have hke : k = n.tables.length := by omega
          have HK := Lib.hid hke; clear hke
          go_wp2
          go_ret
          exact ⟨by rw [HE.out, HG.out, HK.out, List.drop_length, tabsErr, errV_zero]; rfl, hE0⟩
    · have HE := Lib.hid (show netErr n = 3 by rw [netErr, if_neg (by simpa using H1.out), if_pos (by simpa using h2)])
      have h20 : ((n.tables.length : Int) != n.topo.switches) = true := by simpa using h2
      have h21 : (decide ((n.tables.length : Int) = n.topo.switches)) = false := by simpa using h2
      clear h2
      go_enter Tryd.func15, Tryd.ntmps15
      go_wp2_with (go_at_call 29; refine (tcheck_any n.topo _ _ _ (ht.ext (by repeat first | assumption | exact ext_refl _ | apply ext_alloc | apply ext_drewN | apply ext_drew))).mono ?_; rintro e w1 ⟨rfl, hE⟩; have hX : Ext (boxNet w n.topo.switches (.slice Al n.topo.links.length cl) (.slice Ah n.topo.hosts.length ch) (.slice A n.tables.length c)) w1 := Ext.trans (by repeat first | assumption | exact ext_refl _ | apply ext_alloc | apply ext_drewN | apply ext_drew) hE; clear hE; rw [H1.out, errV_zero])
      go_ret
      exact ⟨by rw [HE.out]; rfl, hX.of_box⟩
  · have HE := Lib.hid (show netErr n = topoErr n.topo by rw [netErr, if_pos h1])
    go_enter Tryd.func15, Tryd.ntmps15
    go_wp2_with (go_at_call 29; refine (tcheck_any n.topo _ _ _ (ht.ext (by repeat first | assumption | exact ext_refl _ | apply ext_alloc | apply ext_drewN | apply ext_drew))).mono ?_; rintro e w1 ⟨rfl, hE⟩)
    go_ret
    exact ⟨ret_err HE.out.symm, Ext.of_box hE⟩
end Go.Proofs.YthimhcbjboffcaaDoor
