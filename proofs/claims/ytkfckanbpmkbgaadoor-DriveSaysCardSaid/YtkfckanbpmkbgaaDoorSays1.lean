/- Plain law: a round is said, heard, and the next one. No walk stands here. -/
import Derived.Test.YtkfckanbpmkbgaaDoorDriveP
namespace Go.Proofs.YtkfckanbpmkbgaaDoor
open Go Go.RowKit
def isK (n : Int) (m : Msg) : Bool := decide (m.kind = n)
def cntK (n : Int) (l : List Msg) : Int := ((l.filter (isK n)).length : Nat)
theorem cntK_snoc (n : Int) (l : List Msg) (m : Msg) : cntK n (l ++ [m]) = cntK n l + (if m.kind = n then 1 else 0) := by
  by_cases h : m.kind = n <;> simp [cntK, isK, h]
theorem doMsgs_k1 (s i : Int) : ∀ (l : List Op) (n : Int), ((doMsgs s i n l).filter (isK 1)).length = (l.filter (atSw s)).length ∧ ((doMsgs s i n l).filter (isK 2)).length = 0
  | [], _ => ⟨rfl, rfl⟩
  | o :: l, n => by
    have h1 := doMsgs_k1 s i l n
    have h2 := doMsgs_k1 s i l (n + 1)
    rw [doMsgs]
    by_cases h : atSw s o = true
    · simp [h, isK] at h2 ⊢; exact ⟨h2.1, h2.2⟩
    · simp [h, isK] at h1 ⊢; exact ⟨h1.1, h1.2⟩
theorem sayOne_k (r : List Op) (i s : Int) : ((sayOne r i s).filter (isK 1)).length = (r.filter (atSw s)).length ∧ ((sayOne r i s).filter (isK 2)).length = 1 := by
  have h := doMsgs_k1 s i r 0
  rw [sayOne, List.filter_append, List.filter_append, List.length_append, List.length_append, h.1, h.2]
  constructor <;> simp [isK]
theorem say_k (r : List Op) (i : Int) : ∀ l : List Int, ((l.flatMap (sayOne r i)).filter (isK 1)).length = (l.map fun s => (r.filter (atSw s)).length).sum ∧ ((l.flatMap (sayOne r i)).filter (isK 2)).length = l.length
  | [] => ⟨rfl, rfl⟩
  | s :: l => by
    have h := say_k r i l
    have h2 := sayOne_k r i s
    rw [List.flatMap_cons, List.filter_append, List.filter_append, List.length_append, List.length_append, h.1, h.2, h2.1, h2.2]
    exact ⟨by simp, by simp; omega⟩
theorem say_ops (r : List Op) (i : Int) : cntK 1 ((touched r).flatMap (sayOne r i)) = r.length ∧ cntK 2 ((touched r).flatMap (sayOne r i)) = (touched r).length := by
  have h := say_k r i (touched r)
  have h2 := touched_sum (touched r) r (touched_nodup r) (fun o ho => (touched_mem r o.switch).2 ⟨o, ho, rfl⟩)
  unfold cntK
  rw [h.1, h.2]
  exact ⟨by rw [← h2]; rfl, rfl⟩
theorem say_all (r : List Op) (i : Int) (l : List Int) : ∀ m ∈ l.flatMap (sayOne r i), m.round = i ∧ (m.kind = 1 ∨ m.kind = 2) := fun m hm => by
  obtain ⟨s, _, hs⟩ := List.mem_flatMap.1 hm
  rcases List.mem_append.1 hs with h | h
  · have := doMsgs_all s i r 0 m h
    exact ⟨this.2, .inl this.1⟩
  · simp at h; subst h; exact ⟨rfl, .inr rfl⟩
theorem opsErr_all : ∀ {r : List Op}, opsErr r = 0 → ∀ o ∈ r, 1 ≤ o.switch ∧ o.switch ≤ 6
  | [], _ => fun o h => by simp at h
  | o :: os, h => fun x hx => by
    rw [opsErr] at h
    split at h
    · rename_i h1; exact absurd h h1
    · rename_i h1
      rcases List.mem_cons.1 hx with rfl | hx
      · unfold opErr at h1
        split at h1
        · simp at h1
        · omega
      · exact opsErr_all h x hx
theorem rndsErr_all : ∀ {l : List (List Op)}, rndsErr l = 0 → ∀ r ∈ l, opsErr r = 0
  | [], _ => fun o h => by simp at h
  | r :: rs, h => fun x hx => by
    rw [rndsErr] at h
    split at h
    · rename_i h1; exact absurd h h1
    · rename_i h1
      rcases List.mem_cons.1 hx with rfl | hx
      · simpa using h1
      · exact rndsErr_all h x hx
structure DrvOk (l : List (List Op)) (wait : Int) : Prop where
  len : l.length ≤ 20
  rows : ∀ r ∈ l, r.length ≤ 200
  sw : ∀ r ∈ l, ∀ o ∈ r, 1 ≤ o.switch ∧ o.switch ≤ 6
theorem drvOk_of {l : List (List Op)} {wait : Int} (h : drvErr l wait = 0) : DrvOk l wait := by
  rw [drvErr] at h
  split at h
  · cases h
  · split at h
    · cases h
    · rename_i h1
      refine ⟨by omega, fun r hr => ?_, fun r hr => opsErr_all (rndsErr_all h r hr)⟩
      have h2 : ¬ l.any (fun r => decide (200 < r.length)) = true := fun h => h1 (.inr h)
      rw [List.any_eq_true] at h2
      refine Classical.byContradiction fun hn => h2 ⟨r, hr, by simp; omega⟩
/-- Ahead of a round; while it is answered. -/
def roundD (l : List (List Op)) (wait : Int) (k : Nat) : Drv := ⟨l, wait, k, [], 0⟩
def waitD (l : List (List Op)) (wait : Int) (k : Nat) (left : List Int) : Drv := ⟨l, wait, (k : Int) + 1, left, 0⟩
theorem next_round {l : List (List Op)} {wait : Int} {k : Nat} {r : List Op} (hr : l[k]? = some r) : mayA (roundD l wait k) = true ∧ nextA (roundD l wait k) = (waitD l wait k (touched r), (touched r).flatMap (sayOne r k), 0) := by
  have hk := (List.getElem?_eq_some_iff.1 hr).1
  have hm : mayA (roundD l wait k) = true := by simp [mayA, roundD]; exact hk
  refine ⟨hm, ?_⟩
  have hn : nextD (roundD l wait k) = waitD l wait k (touched r) := by simp [nextD, roundD, waitD, hr]
  rw [nextA, if_pos hm, hn]
  simp [sayA, waitD, hr]
theorem next_soon {l : List (List Op)} {wait : Int} {k : Nat} {s : Int} {ss : List Int} : mayA (waitD l wait k (s :: ss)) = false ∧ nextA (waitD l wait k (s :: ss)) = (waitD l wait k (s :: ss), [], 6) := by
  have hm : mayA (waitD l wait k (s :: ss)) = false := by simp [mayA, waitD]
  exact ⟨hm, by rw [nextA, if_neg (by simp [hm])]⟩
def yesMsg3 (s i : Int) : Msg := ⟨3, s, i, 0, noOp⟩
theorem yes_ok {s : Int} {k : Nat} (h1 : 1 ≤ s) (h2 : s ≤ 6) (hk : k < 20) : msgErr (yesMsg3 s k) = 0 := by
  rw [msg_2 (by unfold msgOut yesMsg3; simp; omega) (by simp [yesMsg3]), if_neg (by simp [yesMsg3])]
theorem hear_first {l : List (List Op)} {wait : Int} {k : Nat} {s : Int} {ss : List Int} (h1 : 1 ≤ s) (h2 : s ≤ 6) (hk : k < 20) : hearD (waitD l wait k (s :: ss)) (yesMsg3 s k) = (waitD l wait k ss, 0) := by
  rw [hearD, if_neg (by rw [yes_ok h1 h2 hk]; simp [yesMsg3]), if_neg (by simp [yesMsg3, waitD])]
  simp [waitD, dropI, yesMsg3, List.findIdx_cons]
theorem hear_twice {l : List (List Op)} {wait : Int} {k : Nat} {s : Int} {ss : List Int} (h1 : 1 ≤ s) (h2 : s ≤ 6) (hk : k < 20) (hn : s ∉ ss) : hearD (waitD l wait k ss) (yesMsg3 s k) = (waitD l wait k ss, 6) := by
  rw [hearD, if_neg (by rw [yes_ok h1 h2 hk]; simp [yesMsg3]), if_pos (.inr hn)]
theorem wait_done (l : List (List Op)) (wait : Int) (k : Nat) : waitD l wait k [] = roundD l wait (k + 1) := by simp [waitD, roundD]
theorem done_end (l : List (List Op)) (wait : Int) : (decide ((roundD l wait l.length).left = []) && decide ((roundD l wait l.length).said = ((roundD l wait l.length).rounds.length : Int))) = true := by simp [roundD]
end Go.Proofs.YtkfckanbpmkbgaaDoor
