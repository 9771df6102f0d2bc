/- Plain law: a drive of rounds: what it says, what it hears. No walk stands here. -/
import Derived.Test.YtkfckanbpmkbgaaDoorTouch
import Derived.Test.YtkfckanbpmkbgaaDoorWire
namespace Go.Proofs.YtkfckanbpmkbgaaDoor
open Go Go.RowKit
structure Drv where
  rounds : List (List Op)
  wait : Int
  said : Int
  left : List Int
  ticks : Int
  deriving DecidableEq
/-- Is an op one of a switch? -/
def atSw (s : Int) (o : Op) : Bool := decide (o.switch = s)
/-- Ops of a switch, numbered from n on. -/
def doMsgs (s i : Int) : Int → List Op → List Msg
  | _, [] => []
  | n, o :: os => if atSw s o = true then ⟨1, s, i, n, o⟩ :: doMsgs s i (n + 1) os else doMsgs s i n os
def cntSw (s : Int) (r : List Op) : Int := ((r.filter (atSw s)).length : Nat)
/-- What is said to one switch. -/
def sayOne (r : List Op) (i s : Int) : List Msg := doMsgs s i 0 r ++ [⟨2, s, i, cntSw s r, noOp⟩]
def sayA (d : Drv) : List Msg := d.left.flatMap (sayOne (d.rounds.getD (d.said - 1).toNat []) (d.said - 1))
def mayA (d : Drv) : Bool := decide (d.left = []) && decide (d.said < d.rounds.length)
def nextD (d : Drv) : Drv := { d with left := touched (d.rounds.getD d.said.toNat []), said := d.said + 1, ticks := 0 }
def nextA (d : Drv) : Drv × List Msg × Int := if mayA d = true then (nextD d, sayA (nextD d), 0) else (d, [], 6)
def dropI (l : List Int) (s : Int) : List Int := l.take (l.findIdx fun x => decide (x = s)) ++ l.drop (l.findIdx (fun x => decide (x = s)) + 1)
def hearD (d : Drv) (m : Msg) : Drv × Int :=
  if msgErr m ≠ 0 ∨ m.kind ≠ 3 then (d, 3)
  else if m.round ≠ d.said - 1 ∨ m.switch ∉ d.left then (d, 6)
  else ({ d with left := dropI d.left m.switch }, 0)
def tickA (d : Drv) : Drv × List Msg :=
  if d.left = [] then (d, [])
  else ({ d with ticks := d.ticks + 1 }, if (d.ticks + 1).tmod d.wait ≠ 0 then [] else sayA d)
def opErr (o : Op) : Int := if o.switch < 1 ∨ 6 < o.switch then 1 else ruleErr o.rule
def opsErr : List Op → Int
  | [] => 0
  | o :: os => if opErr o ≠ 0 then opErr o else opsErr os
def rndsErr : List (List Op) → Int
  | [] => 0
  | r :: rs => if opsErr r ≠ 0 then opsErr r else rndsErr rs
def drvErr (l : List (List Op)) (wait : Int) : Int :=
  if wait < 1 ∨ 100 < wait then 1
  else if 20 < l.length ∨ l.any (fun r => decide (200 < r.length)) = true then 4
  else rndsErr l
theorem doMsgs_snoc (s i : Int) : ∀ (l : List Op) (n : Int) (o : Op), doMsgs s i n (l ++ [o]) = doMsgs s i n l ++ (if atSw s o = true then [⟨1, s, i, n + cntSw s l, o⟩] else [])
  | [], n, o => by by_cases h : atSw s o = true <;> simp [doMsgs, cntSw, h]
  | a :: l, n, o => by
    rw [List.cons_append, doMsgs, doMsgs]
    by_cases h : atSw s a = true
    · rw [if_pos h, if_pos h, doMsgs_snoc s i l (n + 1) o, List.cons_append]
      by_cases h2 : atSw s o = true
      · simp [h2, cntSw, h]; omega
      · simp [h2]
    · rw [if_neg h, if_neg h, doMsgs_snoc s i l n o]
      by_cases h2 : atSw s o = true
      · simp [h2, cntSw, h]
      · simp [h2]
theorem cntSw_snoc (s : Int) (l : List Op) (o : Op) : cntSw s (l ++ [o]) = cntSw s l + (if atSw s o = true then 1 else 0) := by
  by_cases h : atSw s o = true <;> simp [cntSw, List.filter_append, h]
theorem doMsgs_len (s i : Int) : ∀ (l : List Op) (n : Int), (doMsgs s i n l).length = (l.filter (atSw s)).length
  | [], _ => rfl
  | o :: l, n => by
    by_cases h : atSw s o = true
    · rw [doMsgs, if_pos h, List.length_cons, doMsgs_len s i l, List.filter_cons, if_pos h, List.length_cons]
    · rw [doMsgs, if_neg h, doMsgs_len s i l, List.filter_cons, if_neg h]
theorem doMsgs_all (s i : Int) : ∀ (l : List Op) (n : Int), ∀ m ∈ doMsgs s i n l, m.kind = 1 ∧ m.round = i
  | [], _ => fun m h => by simp [doMsgs] at h
  | o :: l, n => fun m h => by
    rw [doMsgs] at h
    split at h
    · rcases List.mem_cons.1 h with rfl | h
      · exact ⟨rfl, rfl⟩
      · exact doMsgs_all s i l _ m h
    · exact doMsgs_all s i l _ m h
end Go.Proofs.YtkfckanbpmkbgaaDoor
