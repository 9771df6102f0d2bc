/- Walk: drive.New. -/
import Derived.Test.YtkfckanbpmkbgaaDoorDrive4
namespace Go.Proofs.YtkfckanbpmkbgaaDoor
open Go Go.RowKit
def longR (r : List Op) : Bool := decide (200 < r.length)
theorem long_any (r : List Op) (v : Value) (w : World) (h : RdL TOp w r v) :
    Calls Tryd.prog 20 #[v] w fun e w' => e = .returned (.bool (longR r)) ∧ Ext w w' := by
  obtain ⟨A, c, rfl, _, hc, _⟩ := h.form
  unfold maxLen at hc
  have hb : decide (200 < (r.length : Int)) = longR r := by unfold longR; rw [decide_eq_decide]; omega
  have HB := Lib.hid hb
  clear h hb
  go_enter Tryd.func20, Tryd.ntmps20
  go_wp2
  go_ret
  exact ⟨ret_bool HB.out, ext_refl _⟩
set_option maxHeartbeats 400000 in
theorem indexFunc_rnds (xs : List (List Op)) (v : Value) (w : World) (hv : RdL TOp.slice w xs v) :
    Calls Tryd.prog 38 #[v, .func (.func 20) #[] #[]] w fun e w' => e = .returned (.int .i64 (idxOf longR xs)) ∧ Ext w w' := by
  obtain ⟨A, c, rfl, hn, hc, _⟩ := hv.form
  unfold maxLen at hc
  have hg : ∀ args W, (callFunc 20 args).run Tryd.prog W = .ok (.enter 20 args) W := fun args W => by kernel_rfl
  go_enter Tryd.func38, Tryd.ntmps38
  go_wp2_with fail
  go_loopw [8] (fun i wr => ∃ k : Nat, k ≤ xs.length ∧ i = .int .i64 k ∧ Ext w wr ∧ ∀ (j : Nat) x, j < k → xs[j]? = some x → longR x = false) (fun i _ => xs.length - (intOf i).toNat)
  case atStart => exact ⟨0, Nat.zero_le _, rfl, ext_refl _, fun _ _ h => by omega⟩
  case round =>
    obtain ⟨k, hk, rfl, hE, hno⟩ := hrel
    have HN := Lib.hid hno; clear hno
    by_cases hlt : k < xs.length
    · obtain ⟨b, off, rfl, hb, hrow⟩ := hv.at_ hlt
      obtain ⟨vk, hcell, hrd⟩ := row_slice hrow rfl hlt
      have hcr := (World.cell?_of_block (hE.block hb)).trans hcell
      have HP := Lib.hid (long_any _ vk wr (hrd.ext hE))
      clear hrow hcell hrd
      cases hpx : longR xs[k]
      all_goals
        rw [hpx] at HP
        have HX := Lib.hid hpx
        clear hpx
        go_wp2_with (with_reducible refine HP.out.mono ?_; rintro e w1 ⟨rfl, hE1⟩)
      · go_roundw
        case rel => exact ⟨k + 1, by omega, by go_num, hE.trans hE1, none_succ hlt HN.out HX.out⟩
        case measure => simp [intOf]; omega
      · go_ret
        exact ⟨ret_int (idxOf_at (List.getElem?_eq_getElem hlt) HX.out HN.out).symm, hE.trans hE1⟩
    · have hke : k = xs.length := by omega
      have HK := Lib.hid hke; clear hke
      go_wp2
      go_ret
      exact ⟨ret_int (idxOf_none fun j x hx => HN.out j x (by rw [HK.out]; exact (List.getElem?_eq_some_iff.1 hx).1) hx).symm, hE⟩
theorem contains_rnds (xs : List (List Op)) (v : Value) (w : World) (hv : RdL TOp.slice w xs v) :
    Calls Tryd.prog 19 #[v, .func (.func 20) #[] #[]] w fun e w' => e = .returned (.bool (xs.any longR)) ∧ Ext w w' := by
  go_enter Tryd.func19, Tryd.ntmps19
  go_wp2_with (go_at_call 38; refine (indexFunc_rnds xs v _ hv).mono ?_; rintro e w1 ⟨rfl, hE⟩)
  go_ret
  exact ⟨ret_bool (idxOf_nonneg longR xs), hE⟩
/-- What New has copied so far. -/
def RoundsTo (w : World) (p : Nat) (vr : Value) (vs : List Value) (L : List (List Op)) : Prop :=
  w.ownsRow (p + 1) 43 1 vr L.length vs ∧ ∀ (j : Nat) r, L[j]? = some r → ∃ v, vs[j]? = some v ∧ w.ownsRow (p + 1) 37 8 v r.length (r.flatMap Op.cells)
theorem RoundsTo.ext {w w' : World} {p : Nat} {vr : Value} {vs : List Value} {L : List (List Op)} (h : RoundsTo w p vr vs L) (hE : Ext w w') : RoundsTo w' p vr vs L :=
  ⟨own_keep h.1 hE, fun j r hr => by obtain ⟨v, h1, h2⟩ := h.2 j r hr; exact ⟨v, h1, own_keep h2 hE⟩⟩
theorem own_ne {w : World} {b1 b2 s1 s2 n1 n2 : Nat} {e1 e2 : TypeId} {v1 v2 : Value} {xs1 xs2 : List Value} (h1 : w.ownsRow b1 e1 s1 v1 n1 xs1) (h2 : w.ownsRow b2 e2 s2 v2 n2 xs2) (hne : e1 ≠ e2) : v1.ownBlock = none ∨ v1.ownBlock ≠ v2.ownBlock := by
  rcases h1.2 with ⟨rfl, _⟩ | ⟨g, cap, cur, rfl, _, hg, _⟩
  · exact .inl rfl
  · refine .inr fun e => ?_
    rcases h2.2 with ⟨rfl, _⟩ | ⟨g2, cap2, cur2, rfl, _, hg2, _⟩
    · simp [Value.ownBlock] at e
    · have : g = g2 := by simpa [Value.ownBlock] using e
      subst this
      rw [hg] at hg2
      injection hg2 with h3
      injection h3 with _ h4 _
      exact hne h4
theorem RoundsTo.step {w w' : World} {p : Nat} {vr v5 v3 u : Value} {vs : List Value} {L : List (List Op)} {r : List Op} {q : Addr} (h : RoundsTo w p vr vs L) (h3 : w.ownsRow (p + 1) 37 8 v3 r.length (r.flatMap Op.cells)) (hg : w.grownBy w' vr.ownBlock)
    (h5 : w'.ownsRow (p + 1) 43 1 v5 (L.length + 1) (vs ++ [v3])) (hq : q.block = p) : RoundsTo (w'.setCell q u) p v5 (vs ++ [v3]) (L ++ [r]) := by
  have hlen : vs.length = L.length := by have := h.1.1; simpa using this
  refine ⟨by rw [List.length_append]; exact ownsRow_setCell_below h5 (by omega) _, fun j r' hr => ?_⟩
  rw [List.getElem?_append] at hr
  split at hr
  · rename_i hj
    obtain ⟨v, e1, e2⟩ := h.2 j r' hr
    refine ⟨v, by rw [List.getElem?_append_left (by omega)]; exact e1, ownsRow_setCell_below (e2.kept hg (own_ne e2 h.1 (by decide))) (by omega) _⟩
  · rename_i hj
    have hj0 : j - L.length = 0 := by
      have := (List.getElem?_eq_some_iff.1 hr).1
      simp at this; omega
    rw [hj0] at hr
    simp at hr
    subst hr
    refine ⟨v3, ?_, ownsRow_setCell_below (h3.kept hg (own_ne h3 h.1 (by decide))) (by omega) _⟩
    rw [List.getElem?_append_right (by omega), show j - vs.length = 0 by omega]
    rfl
theorem RoundsTo.rel {w : World} {p : Nat} {vr : Value} {vs : List Value} {L : List (List Op)} (h : RoundsTo w p vr vs L) : TOp.slice.slice.rel w (p + 1) w.heap.size L [vr] := by
  rcases h.1.2 with ⟨rfl, h0⟩ | ⟨g, cap, cur, rfl, hb, hg, hnc, hcm, hcs, htake⟩
  · have e : L = [] := List.eq_nil_of_length_eq_zero h0
    subst e
    exact rel_none _ _ _ _
  · have hlt := (Array.getElem?_eq_some_iff.1 hg).1
    refine ⟨_, cap, rfl, hnc, hcm, fun _ => ⟨g, 0, rfl, hb, hlt, fun k r hr => ?_⟩⟩
    obtain ⟨v, h1, h2⟩ := h.2 k r hr
    refine ⟨[v], fun j u hu => ?_, rel_of_own h2 (fun _ _ => trivial)⟩
    have hj : j = 0 := by have := (List.getElem?_eq_some_iff.1 hu).1; simpa using this
    subst hj
    simp at hu; subst hu
    have hc := h.1.cells (g := g) (by simp [Value.ownBlock]) k v h1
    rw [Addr.add_mid] at hc
    simpa [Ty.slice] using hc
theorem RoundsTo.drive {w : World} {p : Nat} {vr : Value} {vs : List Value} {L : List (List Op)} {wait : Int} (h : RoundsTo w p vr vs L) (hb : w.heap[p]? = some (.cells #[vr, i64 wait, i64 0, .slice none 0 0, i64 0] 63 (0, 0))) : DriveAt w p ⟨L, wait, 0, [], 0⟩ vr (.slice none 0 0) :=
  ⟨hb, ⟨p + 1, w.heap.size, h.rel, Nat.le_refl _, Nat.le_refl _, fun g e => by simp [Value.ownBlock] at e⟩, World.ownsRow_nil _ _ _ _⟩
end Go.Proofs.YtkfckanbpmkbgaaDoor
