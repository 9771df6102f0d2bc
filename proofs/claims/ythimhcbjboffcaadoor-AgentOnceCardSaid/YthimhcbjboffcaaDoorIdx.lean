/- Walks: slices.IndexFunc and slices.ContainsFunc, at each element type. -/
import Derived.Test.YthimhcbjboffcaaDoorStructs
import Derived.Lib.Hide
namespace Go.Proofs.YthimhcbjboffcaaDoor
open Go Go.RowKit
set_option maxHeartbeats 400000 in
/-- IndexFunc. -/
theorem indexFunc_rule (xs : List Rule) (v : Value) (g : FuncId) (cap : Array Value) (p : Rule → Bool) (w : World) (hv : RdL TRule w xs v)
    (hg : ∀ args W, (callFunc g args).run Tryd.prog W = .ok (.enter g args) W) (hp : Asks TRule w aggOf xs g cap p) :
    Calls Tryd.prog 38 #[v, .func (.func g) #[] cap] w fun e w' => e = .returned (.int .i64 (idxOf p xs)) ∧ Ext w w' := by
  obtain ⟨A, c, rfl, hn, hc, _⟩ := hv.form
  unfold maxLen at hc
  go_enter Tryd.func38, Tryd.ntmps38
  go_wp2
  go_loopw [8] (fun i wr => ∃ k : Nat, k ≤ xs.length ∧ i = .int .i64 k ∧ Ext w wr ∧ ∀ (j : Nat) x, j < k → xs[j]? = some x → p x = false) (fun i _ => xs.length - (intOf i).toNat)
  case atStart => exact ⟨0, Nat.zero_le _, rfl, ext_refl _, fun _ _ h => by omega⟩
  case round =>
    obtain ⟨k, hk, rfl, hE, hno⟩ := hrel
    have HN := Lib.hid hno; clear hno
    by_cases hlt : k < xs.length
    · obtain ⟨b, off, rfl, hb, hrow⟩ := hv.at_ hlt
      obtain ⟨cs, hr, hrel⟩ := hrow k _ (List.getElem?_eq_getElem hlt)
      have hr' : wr.rangeAt b (off + k * 6) cs := rangeAt_block hr (hE.block hb)
      have hlen := Lib.hid (TRule.len hrel)
      have HP := Lib.hid (hp _ (List.getElem_mem hlt) cs wr hrel hE)
      have HR := Lib.hid hr'
      clear hr hrel hr' hrow
      cases hpx : p xs[k]
      all_goals
        rw [hpx] at HP
        have HX := Lib.hid hpx
        clear hpx
        go_wp2_with (first
          | (refine wpList_load_mid rfl 41 _ rfl b _ rfl cs _ HR.out Tryd.underlying41 rfl (by rw [hlen.out]; kernel_rfl) ?_)
          | (with_reducible refine HP.out.mono ?_; rintro e w1 ⟨rfl, hE1⟩))
      · go_roundw
        case rel => exact ⟨k + 1, by omega, by go_num, hE.trans hE1, none_succ hlt HN.out HX.out⟩
        case measure => simp [intOf]; omega
      · go_ret
        exact ⟨ret_int (idxOf_at (List.getElem?_eq_getElem hlt) HX.out HN.out).symm, hE.trans hE1⟩
    · have hke : k = xs.length := by omega
      have HK := Lib.hid hke; clear hke
      go_wp2
      go_ret
      exact ⟨ret_int (idxOf_none fun j x hx => HN.out j x (by rw [HK.out]; exact (List.getElem?_eq_some_iff.1 hx).1) hx).symm, hE⟩
/-- ContainsFunc. -/
theorem containsFunc_rule (xs : List Rule) (v : Value) (g : FuncId) (cap : Array Value) (p : Rule → Bool) (w : World) (hv : RdL TRule w xs v) (hg : ∀ args W, (callFunc g args).run Tryd.prog W = .ok (.enter g args) W) (hp : Asks TRule w aggOf xs g cap p) : Calls Tryd.prog 26 #[v, .func (.func g) #[] cap] w fun e w' => e = .returned (.bool (xs.any p)) ∧ Ext w w' := by
  go_enter Tryd.func26, Tryd.ntmps26
  go_wp2_with (go_at_call 38; refine (indexFunc_rule xs v g cap p _ hv hg hp).mono ?_; rintro e w1 ⟨rfl, hE⟩)
  go_ret
  exact ⟨ret_bool (idxOf_nonneg p xs), hE⟩

end Go.Proofs.YthimhcbjboffcaaDoor
