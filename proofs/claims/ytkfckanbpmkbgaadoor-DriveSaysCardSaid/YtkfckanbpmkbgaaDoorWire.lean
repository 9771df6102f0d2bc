/- Walk: what is wrong with a message. -/
import Derived.Test.YtkfckanbpmkbgaaDoorRule1
import Derived.Lib.Hide
namespace Go.Proofs.YtkfckanbpmkbgaaDoor
open Go Go.RowKit
def noOp : Op := ⟨0, false, ⟨0, ⟨0, 0⟩, 0, 0, 0⟩⟩
def msgOut (m : Msg) : Prop := m.kind < 1 ∨ 3 < m.kind ∨ m.switch < 1 ∨ 6 < m.switch ∨ m.round < 0 ∨ 20 ≤ m.round ∨ m.index < 0 ∨ 200 < m.index
instance (m : Msg) : Decidable (msgOut m) := by unfold msgOut; infer_instance
def msgErr (m : Msg) : Int :=
  if msgOut m then 1
  else if m.kind ≠ 1 then (if m.op ≠ noOp ∨ (m.kind = 3 ∧ m.index ≠ 0) then 3 else 0)
  else if ruleErr m.op.rule ≠ 0 then ruleErr m.op.rule else if m.op.switch ≠ m.switch then 3 else 0
abbrev boxMsg (w : World) (m : Msg) : World := w.alloc (.cells #[i64 m.kind, i64 m.switch, i64 m.round, i64 m.index, i64 m.op.switch, .bool m.op.add, i64 m.op.rule.prio, i64 m.op.rule.cube.mask, i64 m.op.rule.cube.bits, i64 m.op.rule.out, i64 m.op.rule.set, i64 m.op.rule.value] 39)
theorem msg_1 {m : Msg} (h : msgOut m) : msgErr m = 1 := by rw [msgErr, if_pos h]
theorem msg_2 {m : Msg} (h : ¬ msgOut m) (hk : ¬ m.kind = 1) : msgErr m = if m.op ≠ noOp ∨ (m.kind = 3 ∧ m.index ≠ 0) then 3 else 0 := by rw [msgErr, if_neg h, if_pos hk]
theorem msg_3 {m : Msg} (h : ¬ msgOut m) (hk : m.kind = 1) : msgErr m = if ruleErr m.op.rule ≠ 0 then ruleErr m.op.rule else if m.op.switch ≠ m.switch then 3 else 0 := by rw [msgErr, if_neg h, if_neg (by simpa using hk)]
set_option maxRecDepth 100000 in
set_option maxHeartbeats 1600000 in
theorem wcheck_any (m : Msg) (w : World) :
    Calls Tryd.prog 28 #[.agg #[i64 m.kind, i64 m.switch, i64 m.round, i64 m.index, i64 m.op.switch, .bool m.op.add, i64 m.op.rule.prio, i64 m.op.rule.cube.mask, i64 m.op.rule.cube.bits, i64 m.op.rule.out, i64 m.op.rule.set, i64 m.op.rule.value]] w
      fun e w' => e = .returned (errV (msgErr m)) ∧ Ext w w' := by
  have hbd : ∀ w' : World, (Instr.build 37 #[]).run Tryd.prog w' = .ok (.agg #[i64 0, .bool false, i64 0, i64 0, i64 0, i64 0, i64 0, i64 0]) w' := fun w' => by kernel_rfl
  by_cases hout : msgOut m
  · have HE := Lib.hid (msg_1 hout)
    unfold msgOut at hout
    rcases hout with h | h | h | h | h | h | h | h
    all_goals
      go_enter Tryd.func28, Tryd.ntmps28
      go_wp2
      all_goals go_ret
      all_goals exact ⟨by rw [HE.out]; rfl, (by repeat first | assumption | exact ext_refl _ | apply ext_alloc | apply ext_drewN | apply ext_drew)⟩
  · have HO := Lib.hid hout
    have hin : 1 ≤ m.kind ∧ m.kind ≤ 3 ∧ 1 ≤ m.switch ∧ m.switch ≤ 6 ∧ 0 ≤ m.round ∧ m.round < 20 ∧ 0 ≤ m.index ∧ m.index ≤ 200 := by unfold msgOut at hout; omega
    obtain ⟨h1, h2, h3, h4, h5, h6, h7, h8⟩ := hin
    clear hout
    by_cases hk : m.kind = 1
    · have HE := Lib.hid (msg_3 HO.out hk)
      go_enter Tryd.func28, Tryd.ntmps28
      go_wp2_with (go_at_call 21; refine (rcheck_any m.op.rule _).mono ?_; rintro e w1 ⟨rfl, hE⟩; obtain ⟨hc, hf⟩ := hE.cells; have hX : Ext w w1 := Ext.trans (by repeat first | assumption | exact ext_refl _ | apply ext_alloc | apply ext_drewN | apply ext_drew) hE; clear hE)
      all_goals go_ret
      all_goals rw [HE.out]
      · exact ⟨ret_err (by rw [if_pos (nz_of ‹_›)]), hX⟩
      · exact ⟨by rw [if_neg (by simpa using z_of ‹(!decide (ruleErr m.op.rule = 0)) = false›), if_pos (by simpa using ‹(m.op.switch != m.switch) = true›)]; rfl, hX⟩
      · exact ⟨by rw [if_neg (by simpa using z_of ‹(!decide (ruleErr m.op.rule = 0)) = false›), if_neg (by simpa using ‹(m.op.switch != m.switch) = false›), errV_zero]; rfl, hX⟩
    · have HE := Lib.hid (msg_2 HO.out hk)
      have hk1 : (m.kind != 1) = true := by simpa using hk
      have hk2 : decide (m.kind = 1) = false := by simpa using hk
      clear hk
      by_cases hop : m.op = noOp
      · have hf := (Op.eq_iff _ _).1 hop
        obtain ⟨a1, a2, a3, a4, a5, a6, a7, a8⟩ := hf
        have HP := Lib.hid hop
        clear hop
        go_enter Tryd.func28, Tryd.ntmps28
        go_wp2
        · go_ret
          exact ⟨by rw [HE.out, if_pos (.inr ⟨‹m.kind = 3›, by simpa using ‹(m.index != 0) = true›⟩)]; rfl, (by repeat first | assumption | exact ext_refl _ | apply ext_alloc | apply ext_drewN | apply ext_drew)⟩
        · have hi : m.index = 0 := by simpa using ‹(m.index != 0) = false›
          go_ret
          exact ⟨by rw [HE.out, if_neg (by rintro (h | ⟨_, h⟩); exact h HP.out; exact h hi), errV_zero]; rfl, (by repeat first | assumption | exact ext_refl _ | apply ext_alloc | apply ext_drewN | apply ext_drew)⟩
        · have hk3 : ¬ m.kind = 3 := ‹_›
          go_ret
          exact ⟨by rw [HE.out, if_neg (by rintro (h | ⟨h, _⟩); exact h HP.out; exact hk3 h), errV_zero]; rfl, (by repeat first | assumption | exact ext_refl _ | apply ext_alloc | apply ext_drewN | apply ext_drew)⟩
      · have hb : (!decide (m.op.switch = 0) || (m.op.add || (!decide (m.op.rule.prio = 0) || (!decide (m.op.rule.cube.mask = 0) || (!decide (m.op.rule.cube.bits = 0) || (!decide (m.op.rule.out = 0) || (!decide (m.op.rule.set = 0) || !decide (m.op.rule.value = 0)))))))) = true := by
          cases hq : (!decide (m.op.switch = 0) || (m.op.add || (!decide (m.op.rule.prio = 0) || (!decide (m.op.rule.cube.mask = 0) || (!decide (m.op.rule.cube.bits = 0) || (!decide (m.op.rule.out = 0) || (!decide (m.op.rule.set = 0) || !decide (m.op.rule.value = 0))))))))
          · exact absurd ((Op.eq_iff _ _).2 (by simpa [noOp, and_assoc] using hq)) hop
          · rfl
        have HP := Lib.hid hop
        clear hop
        go_enter Tryd.func28, Tryd.ntmps28
        go_wp2
        go_ret
        exact ⟨by rw [HE.out, if_pos (.inl HP.out)]; rfl, (by repeat first | assumption | exact ext_refl _ | apply ext_alloc | apply ext_drewN | apply ext_drew)⟩
end Go.Proofs.YtkfckanbpmkbgaaDoor
