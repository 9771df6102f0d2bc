/- Walks: tables of rules. -/
import Derived.Test.YthimhcbjboffcaaDoorRule1
import Derived.Test.YthimhcbjboffcaaDoorIdx
namespace Go.Proofs.YthimhcbjboffcaaDoor
open Go Go.RowKit
/-- What is wrong with the rules of a table, behind those that were looked at. -/
def tabGo : List Rule → List Rule → Int
  | _, [] => 0
  | pre, r :: rest => if ruleErr r ≠ 0 then ruleErr r else if pre.any (fun o => keyEq o r) = true then 7 else tabGo (pre ++ [r]) rest
def tabErr (t : List Rule) : Int := if 12 < t.length then 4 else tabGo [] t

theorem tabGo_err {pre rest : List Rule} {r : Rule} (h : ¬ ruleErr r = 0) : tabGo pre (r :: rest) = ruleErr r := by rw [tabGo, if_pos h]
theorem tabGo_clash {pre rest : List Rule} {r : Rule} (h : ruleErr r = 0) (h2 : pre.any (fun o => keyEq o r) = true) : tabGo pre (r :: rest) = 7 := by rw [tabGo, if_neg (by simpa using h), if_pos h2]
theorem tabGo_next {pre rest : List Rule} {r : Rule} (h : ruleErr r = 0) (h2 : pre.any (fun o => keyEq o r) = false) : tabGo pre (r :: rest) = tabGo (pre ++ [r]) rest := by rw [tabGo, if_neg (by simpa using h), if_neg (by simp [h2])]

theorem tableClo_any (o r : Rule) (g : Nat) (w : World) (hr : w.rangeAt g 0 (Rule.cells r)) :
    Calls Tryd.prog 27 #[.agg (Rule.cells o).toArray, .pointer (some ⟨g, 0, none⟩)] w fun e w' => e = .returned (.bool (keyEq o r)) ∧ Ext w w' := by
  have HR := Lib.hid (fun ob => World.rangeAt_alloc hr ob)
  clear hr
  unfold Rule.cells
  go_enter Tryd.func27, Tryd.ntmps27
  go_wp2_with (first
    | (refine wpList_load_mid rfl 41 _ rfl g 0 rfl _ _ (HR.out _) Tryd.underlying41 rfl (by kernel_rfl) ?_; unfold Rule.cells)
    | (go_at_call 28; refine (key_any o r _).mono ?_; rintro e w1 ⟨rfl, hE⟩))
  go_ret
  exact ⟨rfl, Ext.trans (by repeat first | assumption | exact ext_refl _ | apply ext_alloc | apply ext_drewN | apply ext_drew) hE⟩

set_option maxHeartbeats 400000 in
theorem table_any (t : List Rule) (v : Value) (w : World) (hv : RdL TRule w t v) :
    Calls Tryd.prog 13 #[v] w fun e w' => e = .returned (errV (tabErr t)) ∧ Ext w w' := by
  obtain ⟨A, c, rfl, hn, hc, _⟩ := hv.form
  unfold maxLen at hc
  have hmf := mf
  by_cases h12 : 12 < t.length
  · go_enter Tryd.func13, Tryd.ntmps13
    go_wp2
    go_ret
    exact ⟨by simp [tabErr, h12, errV], ext_refl _⟩
  · go_enter Tryd.func13, Tryd.ntmps13
    go_wp2_with fail
    go_loopw [12] (fun i wr => ∃ k : Nat, k ≤ t.length ∧ i = .int .i64 k ∧ Ext w wr ∧ tabErr t = tabGo (t.take k) (t.drop k)) (fun i _ => t.length - (intOf i).toNat)
    case atStart => exact ⟨0, Nat.zero_le _, rfl, ext_refl _, by simp [tabErr, h12]⟩
    case round =>
      obtain ⟨k, hk, rfl, hE0, hgo⟩ := hrel
      have HG := Lib.hid hgo; clear hgo
      by_cases hlt : k < t.length
      · obtain ⟨b, off, rfl, hb, hrow⟩ := hv.at_ hlt
        obtain ⟨cs, hr, hrel⟩ := hrow k _ (List.getElem?_eq_getElem hlt)
        obtain ⟨rfl, _⟩ : cs = Rule.cells t[k] ∧ _ := hrel
        have HR := Lib.hid (rangeAt_block hr (hE0.block hb) : wr.rangeAt b (off + k * 6) _)
        clear hr hrow
        generalize hrk : t[k] = r at HR
        have HK := Lib.hid hrk; clear hrk
        have hdrop := Lib.hid (List.drop_eq_getElem_cons hlt)
        have htake := Lib.hid (List.take_succ_eq_append_getElem hlt)
        go_wp2_with (first
          | (refine wpList_load_mid rfl 41 _ rfl b _ rfl _ _ HR.out Tryd.underlying41 rfl (by kernel_rfl) ?_; unfold Rule.cells)
          | (go_at_call 25; refine (rcheck_any r _).mono ?_; rintro e w1 ⟨rfl, hE⟩; obtain ⟨hc1, hf1⟩ := hE.cells; have hX : Ext wr w1 := Ext.trans (by repeat first | assumption | exact ext_refl _ | apply ext_alloc | apply ext_drewN | apply ext_drew) hE; have HB := Lib.hid (rangeAt_block (rangeAt_new wr (Rule.cells r) 41) (hE.block (by simp)) : w1.rangeAt wr.heap.size 0 (Rule.cells r)); have HS := Lib.hid (Nat.lt_of_lt_of_le (by simp) hE.size : wr.heap.size < w1.heap.size); clear hE)
          | (go_at_call 26; refine (containsFunc_rule (t.take k) _ 27 #[.pointer (some ⟨wr.heap.size, 0, none⟩)] (fun o => keyEq o r) _ ((hv.take (by omega)).ext (hE0.trans hX)) (fun args W => by kernel_rfl) (fun x _ cs w' hrel hE' => by obtain ⟨rfl, _⟩ : cs = Rule.cells x ∧ _ := hrel; exact tableClo_any x r _ w' (rangeAt_block HB.out (hE'.block HS.out)))).mono ?_; rintro e w2 ⟨rfl, hE2⟩))
        all_goals (have HQ : Hid (tabErr t = tabGo (t.take k) (r :: t.drop (k + 1))) := by (show _ = _; rw [HG.out, hdrop.out, HK.out]))
        · go_ret
          exact ⟨ret_err (by rw [HQ.out, tabGo_err (nz_of ‹_›)]), hE0.trans hX⟩
        · go_ret
          exact ⟨by rw [HQ.out, tabGo_clash (z_of ‹_›) ‹_›]; rfl, hE0.trans (hX.trans hE2)⟩
        · go_roundw
          case rel => exact ⟨k + 1, by omega, by go_num, hE0.trans (hX.trans hE2), by rw [htake.out, HK.out, HQ.out, tabGo_next (z_of ‹_›) ‹_›]⟩
          case measure => simp [intOf]; omega
      · have hke : k = t.length := by omega
        have HK := Lib.hid hke; clear hke
        go_wp2
        go_ret
        exact ⟨by rw [HG.out, HK.out, List.drop_length]; rfl, hE0⟩
end Go.Proofs.YthimhcbjboffcaaDoor
