/- Words: a drive, as it lies. Walks: May, say, Left, Round, Done. -/
import Derived.Test.YtkfckanbpmkbgaaDoorDriveP
import Derived.Test.YtkfckanbpmkbgaaDoorTouch2
import Derived.Test.YtkfckanbpmkbgaaDoorDelete
import Derived.Test.YtkfckanbpmkbgaaDoorIdxInt
import Derived.BigRegion
import Derived.IntWalk
namespace Go.Proofs.YtkfckanbpmkbgaaDoor
open Go Go.RowKit
structure DriveAt (w : World) (p : Nat) (d : Drv) (vr vl : Value) : Prop where
  blk : w.heap[p]? = some (.cells #[vr, i64 d.wait, i64 d.said, vl, i64 d.ticks] 63 (0, 0))
  rnds : ∃ lo hi, TOp.slice.slice.rel w lo hi d.rounds [vr] ∧ hi ≤ w.heap.size ∧ p + 1 ≤ lo ∧ ∀ g, vl.ownBlock = some g → g < lo ∨ hi ≤ g
  own : w.ownsRow (p + 1) 3 1 vl d.left.length (d.left.map i64)
/-- Nothing but block p and the row of vl is other than it was. -/
structure OffV (p : Nat) (vl : Value) (w w' : World) : Prop where
  os : w'.os = w.os
  tape : w'.tape = w.tape
  output : w'.output = w.output
  size : w.heap.size ≤ w'.heap.size
  block : ∀ k, k < w.heap.size → k ≠ p → vl.ownBlock ≠ some k → w'.heap[k]? = w.heap[k]?
theorem OffV.of_ext {p : Nat} {vl : Value} {w w' : World} (h : Ext w w') : OffV p vl w w' := ⟨h.below.os, h.below.tape, h.below.output, h.size, fun _ hk _ _ => h.block hk⟩
theorem OffV.set {p : Nat} {vl : Value} {w a : World} (h : OffV p vl w a) {q : Addr} (h1 : q.block = p) (u : Value) : OffV p vl w (a.setCell q u) :=
  ⟨h.os, h.tape, h.output, by simpa [World.setCell] using h.size, fun j hj hp hv => (Below.heap_setCell a q u j (by omega)).trans (h.block j hj hp hv)⟩
theorem OffV.grown {p : Nat} {vl : Value} {w a b : World} (h : OffV p vl w a) (hg : a.grownBy b vl.ownBlock) : OffV p vl w b :=
  ⟨hg.os.trans h.os, hg.tape.trans h.tape, hg.output.trans h.output, Nat.le_trans h.size hg.size, fun j hj hp hv => (hg.block j (Nat.lt_of_lt_of_le hj h.size) (Ne.symm hv)).trans (h.block j hj hp hv)⟩
theorem OffV.then {p : Nat} {vl : Value} {w a b : World} (h : OffV p vl w a) (hE : Ext a b) : OffV p vl w b :=
  ⟨hE.below.os.trans h.os, hE.below.tape.trans h.tape, hE.below.output.trans h.output, Nat.le_trans h.size hE.size, fun j hj hp hv => (hE.block (Nat.lt_of_lt_of_le hj h.size)).trans (h.block j hj hp hv)⟩
/-- A world ahead of the drive. -/
theorem OffV.ext {p : Nat} {vl : Value} {W a b : World} (h : Ext W a) (k : OffV p vl a b) (hp : W.heap.size ≤ p) (hv : ∀ g, vl.ownBlock = some g → W.heap.size ≤ g) : Ext W b :=
  ⟨k.os.trans h.below.os, k.tape.trans h.below.tape, k.output.trans h.below.output, Nat.le_trans h.size k.size, fun j hj => (k.block j (Nat.lt_of_lt_of_le hj h.size) (by omega) (fun e => by have := hv j e; omega)).trans (h.block hj)⟩
theorem DriveAt.lt {w : World} {p : Nat} {d : Drv} {vr vl : Value} (h : DriveAt w p d vr vl) : p < w.heap.size := (Array.getElem?_eq_some_iff.1 h.blk).1
theorem DriveAt.ext {w w' : World} {p : Nat} {d : Drv} {vr vl : Value} (h : DriveAt w p d vr vl) (hE : Ext w w') : DriveAt w' p d vr vl where
  blk := (hE.block h.lt).trans h.blk
  rnds := by
    obtain ⟨lo, hi, hr, h1, h2, h3⟩ := h.rnds
    exact ⟨lo, hi, TOp.slice.slice.ext hr (fun b _ hb => hE.block (by omega)) (Nat.le_refl _) (Nat.le_refl _), Nat.le_trans h1 hE.size, h2, h3⟩
  own := own_keep h.own hE
theorem DriveAt.cells {w : World} {p : Nat} {d : Drv} {vr vl : Value} (h : DriveAt w p d vr vl) : ∀ w', Ext w w' → w'.cell? ⟨p, 0, none⟩ = some vr ∧ w'.cell? ⟨p, 1, none⟩ = some (i64 d.wait) ∧ w'.cell? ⟨p, 2, none⟩ = some (i64 d.said) ∧ w'.cell? ⟨p, 3, none⟩ = some vl ∧ w'.cell? ⟨p, 4, none⟩ = some (i64 d.ticks) := fun w' hE => by
  have e := (h.ext hE).blk
  exact ⟨cell_of_row w' _ 0 _ _ _ e, cell_of_row w' _ 1 _ _ _ e, cell_of_row w' _ 2 _ _ _ e, cell_of_row w' _ 3 _ _ _ e, cell_of_row w' _ 4 _ _ _ e⟩
theorem DriveAt.free {w : World} {p : Nat} {d : Drv} {vr vl : Value} (h : DriveAt w p d vr vl) : ∀ w', Ext w w' → ∀ o, w'.frozen? ⟨p, o, none⟩ = false := fun w' hE o => frozen_of_row w' _ o _ _ (h.ext hE).blk
theorem DriveAt.leftR {w : World} {p : Nat} {d : Drv} {vr vl : Value} (h : DriveAt w p d vr vl) : RdL TInt w d.left vl :=
  RdL.of_own (n := 1) (enc := fun n => [i64 n]) (h := fun _ => rfl) (ok := fun _ => True) (by rw [show d.left.flatMap (fun n => [i64 n]) = d.left.map i64 from flat_int d.left]; exact h.own) (fun _ _ => trivial)
theorem DriveAt.rndR {w : World} {p : Nat} {d : Drv} {vr vl : Value} (h : DriveAt w p d vr vl) : RdL TOp.slice w d.rounds vr := by
  obtain ⟨lo, hi, hr, h1, _⟩ := h.rnds
  exact RdL.of_rel hr h1
theorem DriveAt.leftSet {w w1 : World} {p : Nat} {d : Drv} {vr vl v : Value} (h0 : DriveAt w p d vr vl) {w2 : World} (hE : Ext w w1) (hE2 : Ext w1 w2) (l : List Int) (ho : w2.ownsRow w1.heap.size 3 1 v l.length (l.map i64)) :
    DriveAt (w2.setCell ⟨p, 3, none⟩ v) p { d with left := l } vr v := by
  have h := h0.ext (hE.trans hE2)
  have hp := h0.lt
  have hs := hE.size
  refine ⟨heap_setCell_same w2 p 3 _ _ v h.blk, ?_, ownsRow_setCell_below (own_base ho (by omega)) (by simp) _⟩
  obtain ⟨lo, hi, hr, h1, h2, h3⟩ := h0.rnds
  refine ⟨lo, hi, TOp.slice.slice.ext hr (fun b hb hb2 => ?_) (Nat.le_refl _) (Nat.le_refl _), ?_, h2, fun g hg => .inr ?_⟩
  · rw [Below.heap_setCell _ _ _ _ (by simp; omega)]
    exact (hE.trans hE2).block (by omega)
  · have := (hE.trans hE2).size; simp [World.setCell]; omega
  · have := (ho.lt g hg).1; omega
/-- A number of the drive. -/
theorem DriveAt.put {w : World} {p o : Nat} {d : Drv} {vr vl : Value} (h : DriveAt w p d vr vl) (d' : Drv) (u : Value) (hr : d'.rounds = d.rounds) (hl : d'.left = d.left)
    (hcs : #[vr, i64 d.wait, i64 d.said, vl, i64 d.ticks].setIfInBounds o u = #[vr, i64 d'.wait, i64 d'.said, vl, i64 d'.ticks]) : DriveAt (w.setCell ⟨p, o, none⟩ u) p d' vr vl := by
  refine ⟨by rw [← hcs]; exact heap_setCell_same w p o _ _ u h.blk, ?_, by rw [hl]; exact ownsRow_setCell_below h.own (by simp) _⟩
  obtain ⟨lo, hi, hr2, h1, h2, h3⟩ := h.rnds
  rw [hr]
  exact ⟨lo, hi, TOp.slice.slice.ext hr2 (fun b hb hb2 => Below.heap_setCell _ _ _ _ (by simp; omega)) (Nat.le_refl _) (Nat.le_refl _), by simp [World.setCell]; exact h1, h2, h3⟩
theorem left_any (p : Nat) (d : Drv) (vr vl : Value) (w : World) (h : DriveAt w p d vr vl) (hl : d.left.length ≤ 1000) :
    Calls Tryd.prog 8 #[.pointer (some ⟨p, 0, none⟩)] w fun e w' => ∃ v', e = .returned v' ∧ w'.ownsRow w.heap.size 3 1 v' d.left.length (d.left.flatMap Int.cells) ∧ Ext w w' := by
  have hc := h.cells w (ext_refl w)
  have HC := Lib.hid (clone_int d.left vl w h.leftR (by omega))
  go_enter Tryd.func8, Tryd.ntmps8
  go_wp2_with (go_at_call 27; refine HC.out.mono ?_; rintro e w2 ⟨v2, rfl, hown, hX2⟩)
  go_ret
  exact ⟨_, rfl, hown, hX2⟩
theorem round_any (p : Nat) (d : Drv) (vr vl : Value) (w : World) (h : DriveAt w p d vr vl) :
    Calls Tryd.prog 11 #[.pointer (some ⟨p, 0, none⟩)] w fun e w' => e = .returned (i64 d.said) ∧ w = w' := by
  have hc := h.cells w (ext_refl w)
  go_enter Tryd.func11, Tryd.ntmps11
  go_wp2
  go_ret
  exact ⟨rfl, rfl⟩
def doneB (d : Drv) : Bool := decide (d.left = []) && decide (d.said = d.rounds.length)
theorem may_any (p : Nat) (d : Drv) (vr vl : Value) (w : World) (h : DriveAt w p d vr vl) :
    Calls Tryd.prog 24 #[.pointer (some ⟨p, 0, none⟩)] w fun e w' => e = .returned (.bool (mayA d)) ∧ Ext w w' := by
  have hc := h.cells w (ext_refl w)
  obtain ⟨A, c, hvl⟩ := own_slice h.own
  obtain ⟨B, c2, hvr, _⟩ := h.rndR.form
  subst hvl hvr
  clear h
  cases hl : d.left with
  | nil =>
    rw [hl] at hc
    have hm : mayA d = decide (d.said < d.rounds.length) := by simp [mayA, hl]
    have HM := Lib.hid hm
    clear hm hl
    simp only [List.length_nil] at hc
    go_enter Tryd.func24, Tryd.ntmps24
    go_wp2
    go_quiet (fail)
    go_wp2
    go_ret
    exact ⟨by rw [HM.out]; rfl, (by repeat first | assumption | exact ext_refl _ | apply ext_alloc | apply ext_drewN | apply ext_drew)⟩
  | cons a l =>
    rw [hl] at hc
    have hm : mayA d = false := by simp [mayA, hl]
    have HM := Lib.hid hm
    clear hm hl
    simp only [List.length_cons] at hc
    obtain ⟨n, hn⟩ : ∃ n, n = l.length + 1 := ⟨_, rfl⟩
    have hd : ((n : Int) == 0) = false := by simp; omega
    rw [← hn] at hc
    clear hn
    go_enter Tryd.func24, Tryd.ntmps24
    go_wp2
    go_quiet (fail)
    go_wp2
    go_ret
    exact ⟨by rw [HM.out]; rfl, (by repeat first | assumption | exact ext_refl _ | apply ext_alloc | apply ext_drewN | apply ext_drew)⟩
theorem done_any (p : Nat) (d : Drv) (vr vl : Value) (w : World) (h : DriveAt w p d vr vl) :
    Calls Tryd.prog 10 #[.pointer (some ⟨p, 0, none⟩)] w fun e w' => e = .returned (.bool (doneB d)) ∧ Ext w w' := by
  have hc := h.cells w (ext_refl w)
  obtain ⟨A, c, hvl⟩ := own_slice h.own
  obtain ⟨B, c2, hvr, _⟩ := h.rndR.form
  subst hvl hvr
  clear h
  cases hl : d.left with
  | nil =>
    rw [hl] at hc
    have hm : doneB d = (d.said == (d.rounds.length : Int)) := by simp [doneB, hl]; rw [Bool.eq_iff_iff]; simp
    have HM := Lib.hid hm
    clear hm hl
    simp only [List.length_nil] at hc
    go_enter Tryd.func10, Tryd.ntmps10
    go_wp2
    go_quiet (fail)
    go_wp2
    go_ret
    exact ⟨by rw [HM.out]; rfl, (by repeat first | assumption | exact ext_refl _ | apply ext_alloc | apply ext_drewN | apply ext_drew)⟩
  | cons a l =>
    rw [hl] at hc
    have hm : doneB d = false := by simp [doneB, hl]
    have HM := Lib.hid hm
    clear hm hl
    simp only [List.length_cons] at hc
    obtain ⟨n, hn⟩ : ∃ n, n = l.length + 1 := ⟨_, rfl⟩
    have hd : ((n : Int) == 0) = false := by simp; omega
    rw [← hn] at hc
    clear hn
    go_enter Tryd.func10, Tryd.ntmps10
    go_wp2
    go_quiet (fail)
    go_wp2
    go_ret
    exact ⟨by rw [HM.out]; rfl, (by repeat first | assumption | exact ext_refl _ | apply ext_alloc | apply ext_drewN | apply ext_drew)⟩
end Go.Proofs.YtkfckanbpmkbgaaDoor
