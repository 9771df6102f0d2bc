/- Plain law: an agent that hears the ops of one round, each once or twice, in any order, and then works. No walk stands here. -/
import Derived.Test.YthimhcbjboffcaaDoorAgent4
import Derived.Test.YthimhcbjboffcaaDoorApply
namespace Go.Proofs.YthimhcbjboffcaaDoor
open Go Go.RowKit
/-- Ops of switch 1. -/
def sw1 (o : Op) : Op := { o with switch := 1 }
def netOne (t : List Rule) : Net := ⟨⟨1, [], []⟩, [t]⟩
theorem applyGo_one : ∀ (L : List Op) (t : List Rule), (∀ o ∈ L, o.switch = 1) → applyGo 1 [t] L = if (allT t L).2 = 0 then ([(allT t L).1], 0) else ([], (allT t L).2)
  | [], t, _ => by simp [applyGo, allT]
  | o :: os, t, h => by
    have h1 : o.switch = 1 := h o (by simp)
    obtain ⟨s, add, r⟩ := o
    subst h1
    have e : (1 : Int) = ((0 : Nat) : Int) + 1 := by omega
    by_cases hd : (doT t add r).2 = 0
    · have := applyGo_n (sw := 1) (ts := [t]) (j := 0) (add := add) (r := r) (os := os) (by omega) hd
      rw [allT_next (o := ⟨1, add, r⟩) hd]
      simp only [Int.natCast_zero, Int.zero_add] at this
      rw [this]
      simpa using applyGo_one os (doT t add r).1 (fun o ho => h o (by simp [ho]))
    · have := applyGo_e (sw := 1) (ts := [t]) (j := 0) (add := add) (r := r) (os := os) (by omega) hd
      rw [allT_err (o := ⟨1, add, r⟩) hd, if_neg hd]
      simp only [Int.natCast_zero, Int.zero_add] at this
      rw [this]; rfl
/-- What the other package makes of it. -/
theorem applyN_one {L : List Op} {t : List Rule} (hs : ∀ o ∈ L, o.switch = 1) (h : (applyN (netOne t) L).2 = 0) : tabErr t = 0 ∧ (allTab t L).2 = 0 ∧ (applyN (netOne t) L).1 = ⟨⟨1, [], []⟩, [(allTab t L).1]⟩ ∧ L.length ≤ 200 := by
  rw [applyN] at h ⊢
  by_cases h1 : netErr (netOne t) = 0
  · rw [if_neg (by simpa using h1)] at h ⊢
    by_cases h2 : 200 < L.length
    · rw [if_pos h2] at h; cases h
    · rw [if_neg h2] at h ⊢
      have ht : tabErr t = 0 := (netOk_of h1).tabs t (by simp [netOne])
      have ha : allTab t L = allT t L := by rw [allTab, if_neg (by simpa using ht)]
      rw [ha]
      have hg : applyGo (netOne t).topo.switches (netOne t).tables L = _ := applyGo_one L t hs
      rw [hg] at h ⊢
      by_cases h3 : (allT t L).2 = 0
      · rw [if_pos h3]; simp [h3, ht, netOne]; omega
      · rw [if_neg h3] at h; simp [h3] at h
  · rw [if_pos h1] at h; exact absurd h h1
/-! ### The round -/
def onceR (L : List Op) (hs : List Nat) : Rnd := ⟨hs.map fun x : Nat => ((x : Int), L.getD x noOp), L.length, false⟩
def onceA (t : List Rule) (L : List Op) (hs : List Nat) : Agt := ⟨1, t, (List.replicate 20 noRnd).set 3 (onceR L hs), []⟩
theorem once_rounds (t : List Rule) (L : List Op) (hs : List Nat) : (onceA t L hs).rounds = (List.replicate 20 noRnd).set 3 (onceR L hs) := rfl
def newA (t : List Rule) : Agt := ⟨1, t, List.replicate 20 noRnd, []⟩
theorem onceR_has (L : List Op) (hs : List Nat) (x : Nat) : (onceR L hs).has (x : Int) = decide (x ∈ hs) := by
  have : ∀ (l : List Nat) (k : Nat), (fnd (x : Int) (l.map fun y : Nat => ((y : Int), aggOf (Op.cells (L.getD y noOp)))) k).isSome = decide (x ∈ l) := by
    intro l
    induction l with
    | nil => intro k; rfl
    | cons y l ih =>
      intro k
      rw [List.map_cons, fnd]
      by_cases e : x = y
      · simp [e]
      · rw [if_neg (by omega), ih]; simp [e]
  simpa [Rnd.has, Rnd.vals, onceR, List.map_map, Function.comp_def] using this hs 0
theorem onceR_get (L : List Op) (hs : List Nat) (x : Nat) (h : x ∈ hs) : (onceR L hs).get (x : Int) = L.getD x noOp := by
  unfold Rnd.get onceR
  simp only [List.find?_map]
  have : ∃ y, hs.find? ((fun p : Int × Op => decide ((x : Int) = p.1)) ∘ fun x : Nat => ((x : Int), L.getD x noOp)) = some y := by
    cases hf : hs.find? ((fun p : Int × Op => decide ((x : Int) = p.1)) ∘ fun x : Nat => ((x : Int), L.getD x noOp)) with
    | some y => exact ⟨y, rfl⟩
    | none => rw [List.find?_eq_none] at hf; have := hf x h; simp at this
  obtain ⟨y, hy⟩ := this
  have he := List.find?_some hy
  have he2 : x = y := by simp at he; omega
  rw [hy, ← he2]; rfl
theorem noRnd_whole : noRnd.whole = false := by decide
theorem onceR_whole (L : List Op) (hs : List Nat) : (onceR L hs).whole = decide (∀ x, x < L.length → x ∈ hs) := by
  have hm : (onceR L hs).many.toNat = L.length := by simp [onceR]
  by_cases h : ∀ x, x < L.length → x ∈ hs
  · rw [decide_eq_true h, whole_yes (fun j hj => by rw [onceR_has]; simp; exact h j (by omega))]; simp [onceR]
  · rw [decide_eq_false h]
    obtain ⟨x, hx⟩ := Classical.not_forall.1 h
    obtain ⟨hx1, hx2⟩ := Classical.not_imp.1 hx
    exact whole_no (by rw [hm]; exact hx1) (by rw [onceR_has]; simpa using hx2)
theorem rounds_get (r : Rnd) (k : Nat) : ((List.replicate 20 noRnd).set 3 r)[k]? = if k = 3 then some r else if k < 20 then some noRnd else none := by
  rw [List.getElem?_set]
  by_cases e : 3 = k
  · subst e; simp
  · rw [if_neg e, if_neg (fun h => e h.symm), List.getElem?_replicate]
theorem ready_none (t : List Rule) (L : List Op) (hs : List Nat) (x : Nat) (hx : x < L.length) (hn : x ∉ hs) : readyA (onceA t L hs) = -1 := by
  refine idxOf_none fun j r hr => ?_
  rw [once_rounds, rounds_get] at hr
  split at hr
  · cases hr
    rw [onceR_whole, decide_eq_false (fun h => hn (h x hx))]; simp
  · split at hr
    · cases hr; rw [noRnd_whole]; simp
    · cases hr
theorem ready_three (t : List Rule) (L : List Op) (hs : List Nat) (h : ∀ x, x < L.length → x ∈ hs) : readyA (onceA t L hs) = 3 := by
  refine idxOf_at (k := 3) (x := onceR L hs) (by rw [once_rounds, rounds_get]; simp) ?_ (fun j r hj hr => ?_)
  · rw [onceR_whole, decide_eq_true h]; rfl
  · rw [once_rounds, rounds_get, if_neg (by omega), if_pos (by omega)] at hr
    cases hr; rw [noRnd_whole]; simp
def askMsg (n : Int) : Msg := ⟨2, 1, 3, n, noOp⟩
def doMsg (x : Int) (o : Op) : Msg := ⟨1, 1, 3, x, o⟩
theorem askMsg_ok {n : Int} (h0 : 0 ≤ n) (h : n ≤ 200) : msgErr (askMsg n) = 0 := by
  rw [msg_2 (by unfold msgOut askMsg; simp; omega) (by simp [askMsg]), if_neg (by simp [askMsg])]
theorem doMsg_ok {x : Int} {o : Op} (h0 : 0 ≤ x) (h : x ≤ 200) (hr : ruleErr o.rule = 0) (hs : o.switch = 1) : msgErr (doMsg x o) = 0 := by
  rw [msg_3 (by unfold msgOut doMsg; simp; omega) (by simp [doMsg]), if_neg (by simpa [doMsg] using hr), if_neg (by simpa [doMsg] using hs)]
theorem hear_ask_new (t : List Rule) (L : List Op) (h : L.length ≤ 200) : hearA (newA t) (askMsg L.length) = (onceA t L [], [], 0) := by
  rw [hearA_in (k := 3) (r := noRnd) (askMsg_ok (by omega) (by omega)) rfl (by simp [askMsg]) rfl (by simp [newA]), if_neg (by decide), if_pos (by rfl), if_pos (by decide)]
  rfl
theorem set3 (r r2 : Rnd) : ((List.replicate 20 noRnd).set 3 r).set 3 r2 = (List.replicate 20 noRnd).set 3 r2 := List.set_set ..
theorem hear_do_new (t : List Rule) (L : List Op) (hs : List Nat) (x : Nat) (hx : x < L.length) (hl : L.length ≤ 200) (hn : x ∉ hs) (hr : ruleErr (L.getD x noOp).rule = 0) (hsw : (L.getD x noOp).switch = 1) :
    hearA (onceA t L hs) (doMsg x (L.getD x noOp)) = (onceA t L (hs ++ [x]), [], 0) := by
  have hg : (onceA t L hs).rounds[3]? = some (onceR L hs) := by rw [once_rounds, rounds_get]; simp
  rw [hearA_in (k := 3) (r := onceR L hs) (doMsg_ok (by omega) (by omega) hr hsw) rfl (by simp [doMsg]) rfl hg, if_neg (by simp [onceR]), if_neg (by simp [doMsg])]
  rw [if_neg (by show ¬ (onceR L hs).has (x : Int) = true; rw [onceR_has]; simpa using hn)]
  simp [onceA, Agt.put, onceR, doMsg]
theorem hear_do_old (t : List Rule) (L : List Op) (hs : List Nat) (x : Nat) (hx : x < L.length) (hl : L.length ≤ 200) (hn : x ∈ hs) (hr : ruleErr (L.getD x noOp).rule = 0) (hsw : (L.getD x noOp).switch = 1) :
    hearA (onceA t L hs) (doMsg x (L.getD x noOp)) = (onceA t L hs, [], 0) := by
  have hg : (onceA t L hs).rounds[3]? = some (onceR L hs) := by rw [once_rounds, rounds_get]; simp
  rw [hearA_in (k := 3) (r := onceR L hs) (doMsg_ok (by omega) (by omega) hr hsw) rfl (by simp [doMsg]) rfl hg, if_neg (by simp [onceR]), if_neg (by simp [doMsg])]
  rw [if_pos (by show (onceR L hs).has (x : Int) = true; rw [onceR_has]; simpa using hn)]
def doneR (L : List Op) (hs : List Nat) : Rnd := { onceR L hs with done := true }
def doneA (t : List Rule) (L : List Op) (hs : List Nat) : Agt := ⟨1, (allTab t L).1, (List.replicate 20 noRnd).set 3 (doneR L hs), [3]⟩
theorem done_rounds (t : List Rule) (L : List Op) (hs : List Nat) : (doneA t L hs).rounds = (List.replicate 20 noRnd).set 3 (doneR L hs) := rfl
theorem once_list (L : List Op) (hs : List Nat) (h : ∀ x, x < L.length → x ∈ hs) : (onceR L hs).list = L := by
  unfold Rnd.list
  rw [show (onceR L hs).many.toNat = L.length by simp [onceR]]
  refine List.ext_getElem? fun k => ?_
  rw [List.getElem?_map]
  by_cases hk : k < L.length
  · rw [List.getElem?_range hk, Option.map_some, onceR_get L hs k (h k hk)]; simp [hk]
  · rw [List.getElem?_eq_none (by simp; omega), List.getElem?_eq_none (by omega)]; rfl
theorem work_once (t : List Rule) (L : List Op) (hs : List Nat) (h : ∀ x, x < L.length → x ∈ hs) (ha : (allTab t L).2 = 0) : workA (onceA t L hs) = (doneA t L hs, [yesMsg 1 3], 0) := by
  have hr := ready_three t L hs h
  have hg : (onceA t L hs).rounds.getD 3 noRnd = onceR L hs := by
    rw [List.getD_eq_getElem?_getD, once_rounds, rounds_get]; rfl
  have hw : workT (onceA t L hs) 3 = (allTab t L).1 := by
    rw [workT, hg, once_list L hs h, show (onceA t L hs).table = t from rfl, if_pos ha]
  rw [workA, if_neg (by rw [hr]; omega), hr]
  rw [show (3 : Int).toNat = 3 from rfl, hw, hg]
  simp [doneA, onceA, doneR]
theorem ready_done (t : List Rule) (L : List Op) (hs : List Nat) : readyA (doneA t L hs) = -1 := by
  refine idxOf_none fun j r hr => ?_
  rw [done_rounds, rounds_get] at hr
  split at hr
  · cases hr; rfl
  · split at hr
    · cases hr; rw [noRnd_whole]; simp
    · cases hr
theorem work_done (t : List Rule) (L : List Op) (hs : List Nat) : workA (doneA t L hs) = (doneA t L hs, [], 6) := by
  rw [workA, if_pos (by rw [ready_done]; omega)]
theorem hear_done_ask (t : List Rule) (L : List Op) (hs : List Nat) : hearA (doneA t L hs) (askMsg 7) = (doneA t L hs, [yesMsg 1 3], 0) := by
  have hg : (doneA t L hs).rounds[3]? = some (doneR L hs) := by rw [done_rounds, rounds_get]; simp
  rw [hearA_in (k := 3) (r := doneR L hs) (askMsg_ok (by omega) (by omega)) rfl (by simp [askMsg]) rfl hg, if_pos (by rfl), if_pos (by rfl)]
  rfl
theorem doT_len {t : List Rule} {add : Bool} {r : Rule} (h : (doT t add r).2 = 0) : (doT t add r).1.length ≤ 12 := by
  have ht : tabErr t = 0 := Classical.byContradiction fun hn => hn (by rw [doT_1 hn] at h; exact h)
  have hl := tabErr_len ht
  rw [doT] at h ⊢
  repeat' split
  all_goals simp at *
  all_goals omega
theorem allT_len : ∀ {L : List Op} {t : List Rule}, t.length ≤ 12 → (allT t L).2 = 0 → (allT t L).1.length ≤ 12
  | [], _, h, _ => h
  | o :: os, t, h, h2 => by
    by_cases hd : (doT t o.add o.rule).2 = 0
    · rw [allT_next hd] at h2 ⊢
      exact allT_len (doT_len hd) h2
    · rw [allT_err hd] at h2; exact absurd h2 hd
theorem allTab_len {L : List Op} {t : List Rule} (h : tabErr t = 0) (h2 : (allTab t L).2 = 0) : (allTab t L).1.length ≤ 12 := by
  have e : allTab t L = allT t L := by rw [allTab, if_neg (by simpa using h)]
  rw [e] at h2 ⊢
  exact allT_len (tabErr_len h) h2
/-- The ops are right, each of them. -/
theorem allT_rules : ∀ {L : List Op} {t : List Rule}, (allT t L).2 = 0 → ∀ o ∈ L, ruleErr o.rule = 0
  | [], _, _ => fun o h => by simp at h
  | o :: os, t, h => fun x hx => by
    by_cases hd : (doT t o.add o.rule).2 = 0
    · rw [allT_next hd] at h
      rcases List.mem_cons.1 hx with rfl | hx
      · refine Classical.byContradiction fun hne => ?_
        by_cases h1 : tabErr t = 0
        · rw [doT_2 h1 hne] at hd; exact hne hd
        · rw [doT_1 h1] at hd; exact h1 hd
      · exact allT_rules h x hx
    · rw [allT_err hd] at h; exact absurd h hd
theorem allTab_rules {L : List Op} {t : List Rule} (h : (allTab t L).2 = 0) : ∀ o ∈ L, ruleErr o.rule = 0 := by
  rw [allTab] at h
  split at h
  · rename_i h1; exact absurd h h1
  · exact allT_rules h
/-- One is heard: what was heard, what is left. -/
theorem left_step {hs lf : List Nat} {n k : Nat} (h : (hs ++ lf).Perm (List.range n)) (hk : k < lf.length) : ((hs ++ [lf[k]]) ++ (lf.take k ++ lf.drop (k + 1))).Perm (List.range n) := by
  refine List.Perm.trans ?_ h
  rw [List.append_assoc]
  refine List.Perm.append_left hs ?_
  have h2 : lf = lf.take k ++ (lf[k] :: lf.drop (k + 1)) := by rw [← List.drop_eq_getElem_cons hk, List.take_append_drop]
  have h3 : (lf[k] :: (lf.take k ++ lf.drop (k + 1))).Perm (lf.take k ++ (lf[k] :: lf.drop (k + 1))) := List.perm_middle.symm
  rw [← h2] at h3
  exact h3
theorem left_mem {hs lf : List Nat} {n k : Nat} (h : (hs ++ lf).Perm (List.range n)) (hk : k < lf.length) : lf[k] < n ∧ lf[k] ∉ hs := by
  have h1 : lf[k] ∈ hs ++ lf := by simp
  have h2 := h.nodup_iff.2 List.nodup_range
  refine ⟨by simpa using h.mem_iff.1 h1, fun hm => ?_⟩
  exact (List.nodup_append.1 h2).2.2 _ hm _ (List.getElem_mem hk) rfl
theorem left_all {hs : List Nat} {n : Nat} (h : (hs ++ []).Perm (List.range n)) : ∀ x, x < n → x ∈ hs := fun x hx => by
  have := h.mem_iff.2 (List.mem_range.2 hx)
  simpa using this
theorem left_len {hs lf : List Nat} {n : Nat} (h : (hs ++ lf).Perm (List.range n)) : hs.length + lf.length = n := by
  have := h.length_eq; simpa using this
end Go.Proofs.YthimhcbjboffcaaDoor
