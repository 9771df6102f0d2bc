/- AgentOnce, proved: for every input that can be read, the law 'done once, at once' answers true, and each argument reads behind the call as it read before. Conditions: errors.errorType holds the handle of the type error (tied to the program's text by the card). -/
import Derived.Test.YthimhcbjboffcaaDoorLaid
import Derived.Test.YthimhcbjboffcaaDoorOnce2
import Derived.Test.YthimhcbjboffcaaDoorTie
import Derived.Test.YthimhcbjboffcaaDoorCards
import Derived.SevenTiedAt
namespace Go.Proofs.YthimhcbjboffcaaDoor
open Go Go.ChangeShapes Go.WideShapes Go.RowKit
set_option maxRecDepth 100000 in
theorem once_lifted (os : Os) (started : os.Started) (H : Type) (enc : TypeId × Value → H) :
    ReturnsInHanded {} Tryd.checked os 3 .any (fun w args => (Rows.agentOnceSpec.pre enc Tryd.prog Tryd.f3 [] false w args ∧ laidMetH Tryd.prog laidL w) ∧ sizedMet enc Tryd.prog Tryd.f3 (OpenSpec.ofChange Rows.agentOnceSpec) false w args)
      (Rows.agentOnceSpec.post enc Tryd.prog Tryd.f3 false true false false) := by
  refine returnsInHanded_of_change_and (C := Tryd.checked) (X := fun w _ => laidMetH Tryd.prog laidL w) (fun _ _ _ hh h => h.of_heap hh) ownK started (by kernel_rfl) Tryd.func3
    (ChangeSpec.witness_at (enc := enc) (C := Tryd.checked) (os := os) (X := fun w _ => laidMetH Tryd.prog laidL w) false (laidWorld os) #[.slice none 0 0, .slice none 0 0, .slice none 0 0, .slice none 0 0] 8 rfl (by kernel_rfl) (by kernel_rfl) (by kernel_rfl) (by kernel_rfl) (by kernel_rfl) (laidWorld_met os _)) ?_
  intro W base args ds gs before hval0 hW _ _ hL _
  have hval : ∀ (j : Nat) t v, Tryd.f3.params[j]? = some t → args[j]? = some v → Value.okWide Tryd.prog W .any base t v := hval0
  have hW' := hW
  obtain ⟨p, q, hA0, hV0, rfl, hfz, hnd⟩ := hW
  have hA : DataW.TrodAll enc Tryd.prog W 0 (fun _ => true) true Tryd.f3.params.toList args.toList ds p := hA0
  have hV : DataW.TrodVars enc Tryd.prog W (fun _ => true) [] gs q := hV0
  rw [Tryd.params3] at hA hval
  obtain ⟨v0, v1, v2, v3, d0, d1, d2, d3, p0, p1, p2, p3, rfl, rfl, rfl, t0, t1, t2, t3⟩ := trodAll_four hA
  have hlt : ∀ x ∈ p0 ++ p1 ++ p2 ++ p3, x.block < W.heap.size := fun x hx => hW'.lt x (List.mem_append_left _ hx)
  obtain ⟨xs0, r0⟩ := (opens_slice Tryd.underlying23 cc_rule (by decide) opens_rule).arg Tryd.underlying23 (hval 0 _ v0 rfl rfl) t0
  obtain ⟨xs1, r1⟩ := (opens_slice Tryd.underlying24 cc_op (by decide) opens_op).arg Tryd.underlying24 (hval 1 _ v1 rfl rfl) t1
  obtain ⟨xs2, r2⟩ := (opens_slice Tryd.underlying25 cc_int (by decide) opens_int).arg Tryd.underlying25 (hval 2 _ v2 rfl rfl) t2
  obtain ⟨xs3, r3⟩ := (opens_slice Tryd.underlying25 cc_int (by decide) opens_int).arg Tryd.underlying25 (hval 3 _ v3 rfl rfl) t3
  obtain ⟨rfl, rfl⟩ : gs = [] ∧ q = [] := by
    cases gs with
    | nil => exact ⟨rfl, hV⟩
    | cons g r => exact absurd hV (by intro h; cases h)
  have e1 : Rows.agentOnceSpec.fn H ([d0, d1, d2, d3] ++ []) = { results := [.lit (.bool true)], args := [d0, d1, d2, d3] } := by simp [Rows.agentOnceSpec]
  refine (once_any xs0 xs1 xs2 xs3 v0 v1 v2 v3 W r0 r1 r2 r3 (laid_of hL)).mono fun e W' ⟨he, hE⟩ => ?_
  subst he
  have hb : Below W.heap.size W W' := hE
  refine ⟨_, rfl, _, _, _, [], p0 ++ (p1 ++ (p2 ++ p3)), [], hW', ?_, ?_, ?_, hb.frame _, fun h => by cases h⟩
  · rw [e1]; exact trodAll_mk1 (shut_bool Tryd.underlying4 true)
  · rw [e1]
    exact trodAll_mk4 (Below.trod laidOutA (by kernel_rfl) (of_decide_eq_true (by kernel_rfl)) t0 hb (fun x hx => hlt x (by simp [hx]))) (Below.trod laidOutA (by kernel_rfl) (of_decide_eq_true (by kernel_rfl)) t1 hb (fun x hx => hlt x (by simp [hx])))
      (Below.trod laidOutA (by kernel_rfl) (of_decide_eq_true (by kernel_rfl)) t2 hb (fun x hx => hlt x (by simp [hx]))) (Below.trod laidOutA (by kernel_rfl) (of_decide_eq_true (by kernel_rfl)) t3 hb (fun x hx => hlt x (by simp [hx])))
  · rw [e1]; rfl
theorem once_row : Rows.AgentOnceSaid :=
  OpenClaim.holds_of_wide 3 Tryd.f3 rfl rfl rfl rfl rfl rfl rfl ⟨rfl, rfl, rfl, rfl, rfl⟩ rfl rfl rfl rfl rfl (by kernel_rfl) Tryd.func3 (by kernel_rfl)
    (of_decide_eq_true (by kernel_rfl)) (by unfold Func.isWrapper; rw [if_neg (of_decide_eq_false (by kernel_rfl))]; exact ⟨rfl, rfl⟩)
    (fun os started H enc _ => once_lifted os started H enc)
theorem once_card : Rows.AgentOnceCardSaid :=
  Claim7.holds_tied_plain_at .later [] [.handle] true (true, "98d8d731a06b1ceb64d795651c5cfc5998a49a03b4d7bf765f9d7aa9228b3e26") true
    once_row (fun _ h => by cases h) (by kernel_rfl) (fun _ h => by cases h) agentOnce_row_tie rfl ⟨rfl, rfl⟩ (by kernel_rfl) rfl
    (fun f fn hf hfn => by
      obtain rfl : f = 3 := Option.some.inj ((show Tryd.prog.funcNamed "railpoint/raillaw2.AgentOnce" = some 3 by kernel_rfl).symm.trans hf) |>.symm
      obtain rfl : fn = Tryd.f3 := (Option.some.inj (Tryd.func3.symm.trans hfn)).symm
      exact ⟨by kernel_rfl, fun j t ht => by
        rw [Tryd.params3] at ht
        have h : t = 23 ∨ t = 24 ∨ t = 25 := by
          rcases j with _ | _ | _ | _ | j <;> simp at ht <;> simp [← ht]
        rcases h with rfl | rfl | rfl
        · exact (show Tryd.prog.wantsStandIn 23 = false by kernel_rfl)
        · exact (show Tryd.prog.wantsStandIn 24 = false by kernel_rfl)
        · exact (show Tryd.prog.wantsStandIn 25 = false by kernel_rfl)⟩)
    (by kernel_rfl)
#print axioms once_card
end Go.Proofs.YthimhcbjboffcaaDoor
