/- Words: an agent, as it lies: block p, and behind it a map for each of its 20 rounds. Walk: agent.New. -/
import Derived.Test.YthimhcbjboffcaaDoorMaps
import Derived.Test.YthimhcbjboffcaaDoorAll
import Derived.Test.YthimhcbjboffcaaDoorWire
import Derived.Test.YthimhcbjboffcaaDoorOwn
namespace Go.Proofs.YthimhcbjboffcaaDoor
open Go Go.RowKit
structure Rnd where
  ops : List (Int × Op)
  many : Int
  done : Bool
  deriving DecidableEq
def Rnd.vals (r : Rnd) : List (Int × Value) := r.ops.map fun p => (p.1, aggOf (Op.cells p.2))
def Rnd.cells (g : Nat) (r : Rnd) : List Value := [.map (some g), i64 r.many, .bool r.done]
structure Agt where
  number : Int
  table : List Rule
  rounds : List Rnd
  dones : List Int
  deriving DecidableEq
def TRnd : Ty Rnd where
  size := 3
  rel := fun w lo hi r cs => ∃ g, lo ≤ g ∧ g < hi ∧ cs = Rnd.cells g r ∧ MapAt i64 w g r.vals
  len := by rintro _ _ _ r cs ⟨g, _, _, rfl, _⟩; rfl
  ext := by
    rintro w w' lo hi lo' hi' r cs ⟨g, h1, h2, rfl, hm⟩ hk hlo hhi
    exact ⟨g, by omega, by omega, rfl, hm.block (hk g h1 h2)⟩
/-- A table that lies off the blocks p .. p + 20, and off the row of vd. -/
def TabOff (w : World) (p : Nat) (t : List Rule) (v vd : Value) : Prop := ∃ lo hi, TRule.slice.rel w lo hi t [v] ∧ hi ≤ w.heap.size ∧ (hi ≤ p ∨ p + 21 ≤ lo) ∧ ∀ g, vd.ownBlock = some g → g < lo ∨ hi ≤ g
structure AgentAt (w : World) (p : Nat) (a : Agt) (vt vd : Value) (cs : Array Value) : Prop where
  blk : w.heap[p]? = some (.cells cs 66 (0, 0))
  size : cs.size = 63
  num : cs[0]? = some (i64 a.number)
  tab : cs[1]? = some vt
  don : cs[62]? = some vd
  toff : TabOff w p a.table vt vd
  own : ∃ n, w.ownsRow (p + 21) 3 1 vd n (a.dones.map i64)
  len : a.rounds.length = 20
  row : ∀ (k : Nat) r, a.rounds[k]? = some r → cs[2 + k * 3]? = some (.map (some (p + 1 + k))) ∧ cs[2 + k * 3 + 1]? = some (i64 r.many) ∧ cs[2 + k * 3 + 2]? = some (.bool r.done) ∧ MapAt i64 w (p + 1 + k) r.vals
/-- Nothing but the blocks p .. p + 20 is other than it was. -/
structure Off (p : Nat) (w w' : World) : Prop where
  os : w'.os = w.os
  tape : w'.tape = w.tape
  output : w'.output = w.output
  size : w.heap.size ≤ w'.heap.size
  block : ∀ k, k < w.heap.size → (k < p ∨ p + 21 ≤ k) → w'.heap[k]? = w.heap[k]?
theorem Off.of_ext {p : Nat} {w w' : World} (h : Ext w w') : Off p w w' := ⟨h.below.os, h.below.tape, h.below.output, h.size, fun _ hk _ => h.block hk⟩
theorem Off.trans {p : Nat} {a b c : World} (h : Off p a b) (k : Off p b c) : Off p a c :=
  ⟨k.os.trans h.os, k.tape.trans h.tape, k.output.trans h.output, Nat.le_trans h.size k.size, fun j hj hp => (k.block j (Nat.lt_of_lt_of_le hj h.size) hp).trans (h.block j hj hp)⟩
/-- From a world in which block p was not yet: all is as it was. -/
theorem Off.ext {p : Nat} {W a b : World} (h : Ext W a) (k : Off p a b) (hp : W.heap.size ≤ p) : Ext W b :=
  ⟨k.os.trans h.below.os, k.tape.trans h.below.tape, k.output.trans h.below.output, Nat.le_trans h.size k.size, fun j hj => (k.block j (Nat.lt_of_lt_of_le hj h.size) (.inl (Nat.lt_of_lt_of_le hj hp))).trans (h.block hj)⟩
theorem TabOff.off {w w' : World} {p : Nat} {t : List Rule} {v vd : Value} (h : TabOff w p t v vd) (k : Off p w w') : TabOff w' p t v vd := by
  obtain ⟨lo, hi, hr, h1, h2, h5⟩ := h
  exact ⟨lo, hi, TRule.slice.ext hr (fun b h3 h4 => k.block b (by omega) (by omega)) (Nat.le_refl _) (Nat.le_refl _), Nat.le_trans h1 k.size, h2, h5⟩
theorem TabOff.rd {w : World} {p : Nat} {t : List Rule} {v vd : Value} (h : TabOff w p t v vd) : RdL TRule w t v := by
  obtain ⟨lo, hi, hr, h1, _⟩ := h
  exact TRule.slice.ext hr (fun _ _ _ => rfl) (Nat.zero_le _) h1
abbrev zeroRounds : List Value := (List.replicate 20 [.map none, i64 0, .bool false]).flatten
abbrev noRnd : Rnd := ⟨[], -1, false⟩
theorem build_agent (n : Int) (A : Option Addr) (l c : Nat) (w : World) : (Instr.build 66 #[(0, i64 n), (1, Value.slice A l c)]).run Tryd.prog w = .ok (.agg (i64 n :: Value.slice A l c :: zeroRounds ++ [Value.slice none 0 0]).toArray) w := by kernel_rfl
def newErr (n : Int) (t : List Rule) : Int := if n < 1 ∨ 6 < n then 1 else tabErr t
/-- What New has made so far. -/
structure AgentTo (w : World) (p : Nat) (n : Int) (vt : Value) (k : Nat) (cs : Array Value) : Prop where
  blk : w.heap[p]? = some (.cells cs 66 (0, 0))
  size : cs.size = 63
  num : cs[0]? = some (i64 n)
  tab : cs[1]? = some vt
  don : cs[62]? = some (.slice none 0 0)
  top : w.heap.size = p + 1 + k
  row : ∀ (j : Nat), j < k → cs[2 + j * 3]? = some (.map (some (p + 1 + j))) ∧ cs[2 + j * 3 + 1]? = some (i64 (-1)) ∧ cs[2 + j * 3 + 2]? = some (.bool false) ∧ MapAt i64 w (p + 1 + j) ([] : List (Int × Value))
theorem AgentTo.cell {w : World} {p : Nat} {n : Int} {vt : Value} {k : Nat} {cs : Array Value} (h : AgentTo w p n vt k cs) {o : Nat} (ho : o < 63) : ∃ u, w.cell? ⟨p, o, none⟩ = some u ∧ w.frozen? ⟨p, o, none⟩ = false :=
  ⟨cs[o]'(by rw [h.size]; exact ho), by rw [cell_of_row w p o cs _ _ h.blk]; simp [h.size, ho], frozen_of_row w p o cs _ h.blk⟩
theorem AgentTo.step {w : World} {p : Nat} {n : Int} {vt : Value} {k : Nat} {cs : Array Value} (h : AgentTo w p n vt k cs) (hk : k < 20) :
    AgentTo ((((w.setCell ⟨p, 2 + k * 3, none⟩ (.map (some w.heap.size))).setCell ⟨p, 2 + k * 3 + 1, none⟩ (i64 (-1))).setCell ⟨p, 2 + k * 3 + 2, none⟩ (.bool false)).alloc (.map #[] 0)) p n vt (k + 1)
      (((cs.setIfInBounds (2 + k * 3) (.map (some w.heap.size))).setIfInBounds (2 + k * 3 + 1) (i64 (-1))).setIfInBounds (2 + k * 3 + 2) (.bool false)) := by
  have ht := h.top
  have hs := h.size
  have e1 := heap_setCell_same w p (2 + k * 3) _ _ (.map (some w.heap.size)) h.blk
  have e2 := heap_setCell_same _ p (2 + k * 3 + 1) _ _ (i64 (-1)) e1
  have e3 := heap_setCell_same _ p (2 + k * 3 + 2) _ _ (.bool false) e2
  have hz : (((w.setCell ⟨p, 2 + k * 3, none⟩ (.map (some w.heap.size))).setCell ⟨p, 2 + k * 3 + 1, none⟩ (i64 (-1))).setCell ⟨p, 2 + k * 3 + 2, none⟩ (.bool false)).heap.size = w.heap.size := by simp [World.setCell]
  have hoth : ∀ b, b ≠ p → b < w.heap.size → ((((w.setCell ⟨p, 2 + k * 3, none⟩ (.map (some w.heap.size))).setCell ⟨p, 2 + k * 3 + 1, none⟩ (i64 (-1))).setCell ⟨p, 2 + k * 3 + 2, none⟩ (.bool false)).alloc (.map #[] 0)).heap[b]? = w.heap[b]? := fun b hb hlt => by
    rw [(ext_alloc (ext_refl _) _).block (by rw [hz]; exact hlt), Below.heap_setCell _ _ _ _ (by simpa using hb), Below.heap_setCell _ _ _ _ (by simpa using hb), Below.heap_setCell _ _ _ _ (by simpa using hb)]
  have hnew := MapAt.new (key := i64) (((w.setCell ⟨p, 2 + k * 3, none⟩ (.map (some w.heap.size))).setCell ⟨p, 2 + k * 3 + 1, none⟩ (i64 (-1))).setCell ⟨p, 2 + k * 3 + 2, none⟩ (.bool false))
  rw [hz, ht] at hnew
  refine ⟨?_, by simp [hs], ?_, ?_, ?_, ?_, ?_⟩
  · exact ((ext_alloc (ext_refl _) _).block (by rw [hz]; omega)).trans e3
  · rw [Array.getElem?_setIfInBounds_ne (by omega), Array.getElem?_setIfInBounds_ne (by omega), Array.getElem?_setIfInBounds_ne (by omega)]; exact h.num
  · rw [Array.getElem?_setIfInBounds_ne (by omega), Array.getElem?_setIfInBounds_ne (by omega), Array.getElem?_setIfInBounds_ne (by omega)]; exact h.tab
  · rw [Array.getElem?_setIfInBounds_ne (by omega), Array.getElem?_setIfInBounds_ne (by omega), Array.getElem?_setIfInBounds_ne (by omega)]; exact h.don
  · simp [World.setCell, ht]; omega
  · intro j hj
    by_cases hjk : j = k
    · subst hjk
      refine ⟨?_, ?_, ?_, ?_⟩
      · rw [Array.getElem?_setIfInBounds_ne (by omega), Array.getElem?_setIfInBounds_ne (by omega), Array.getElem?_setIfInBounds_self, if_pos (by omega), ht]
      · rw [Array.getElem?_setIfInBounds_ne (by omega), Array.getElem?_setIfInBounds_self, if_pos (by simp; omega)]
      · rw [Array.getElem?_setIfInBounds_self, if_pos (by simp; omega)]
      · rw [ht]; exact hnew
    · obtain ⟨h1, h2, h3, h4⟩ := h.row j (by omega)
      refine ⟨?_, ?_, ?_, ?_⟩
      · rw [Array.getElem?_setIfInBounds_ne (by omega), Array.getElem?_setIfInBounds_ne (by omega), Array.getElem?_setIfInBounds_ne (by omega)]; exact h1
      · rw [Array.getElem?_setIfInBounds_ne (by omega), Array.getElem?_setIfInBounds_ne (by omega), Array.getElem?_setIfInBounds_ne (by omega)]; exact h2
      · rw [Array.getElem?_setIfInBounds_ne (by omega), Array.getElem?_setIfInBounds_ne (by omega), Array.getElem?_setIfInBounds_ne (by omega)]; exact h3
      · exact h4.block (hoth _ (by omega) (by omega))
theorem AgentTo.done {w : World} {p : Nat} {n : Int} {vt : Value} {cs : Array Value} {t : List Rule} (h : AgentTo w p n vt 20 cs) (ht : TabOff w p t vt (.slice none 0 0)) : AgentAt w p ⟨n, t, List.replicate 20 noRnd, []⟩ vt (.slice none 0 0) cs :=
  ⟨h.blk, h.size, h.num, h.tab, h.don, ht, ⟨0, rfl, .inl ⟨rfl, rfl⟩⟩, rfl, fun k r hr => by
    obtain ⟨hk, rfl⟩ := List.getElem?_eq_some_iff.1 hr
    have := h.row k (by simpa using hk)
    simp only [List.getElem_replicate] at this ⊢
    exact this⟩
set_option maxRecDepth 100000 in
set_option maxHeartbeats 1600000 in
theorem new_any (n : Int) (t : List Rule) (v : Value) (w : World) (hv : RdL TRule w t v) :
    Calls Tryd.prog 4 #[i64 n, v] w fun e w' => Ext w w' ∧ (newErr n t = 0 → ∃ p vt cs, e = .returned (.tuple #[.pointer (some ⟨p, 0, none⟩), .nilIface]) ∧ w.heap.size ≤ p ∧ AgentAt w' p ⟨n, t, List.replicate 20 noRnd, []⟩ vt (.slice none 0 0) cs) ∧ (newErr n t ≠ 0 → e = .returned (.tuple #[.pointer none, errV (newErr n t)])) := by
  by_cases hn : n < 1 ∨ 6 < n
  · have HE := Lib.hid (show newErr n t = 1 by rw [newErr, if_pos hn])
    rcases hn with hn | hn
    all_goals
      go_enter Tryd.func4, Tryd.ntmps4
      go_wp2
      refine bodyPost_ret (v := .tuple #[.pointer none, errV 1]) (by simp [results, Tryd.results4, go_sem, errV]) rfl ⟨ext_refl _, fun h => absurd (HE.out.symm.trans h) (by decide), fun _ => by rw [HE.out]⟩
  · have HE := Lib.hid (show newErr n t = tabErr t by rw [newErr, if_neg hn])
    have h1 : 1 ≤ n := by omega
    have h6 : n ≤ 6 := by omega
    clear hn
    have hba := build_agent n
    have hmm := @run_makeMap Tryd.prog
    by_cases ht : tabErr t = 0
    · have HT := Lib.hid ht
      have hl := tabErr_len ht
      clear ht
      go_enter Tryd.func4, Tryd.ntmps4
      go_wp2_with (first
        | (go_at_call 13; refine (table_any t _ _ hv).mono ?_; rintro e w1 ⟨rfl, hX⟩; rw [HT.out, errV_zero])
        | (go_at_call 14; refine (clone_rule t _ _ (hv.ext hX) (by omega)).mono ?_; rintro e w2 ⟨v2, rfl, hown, hX2⟩; obtain ⟨A2, c2, rfl⟩ := own_slice hown))
      have HO := Lib.hid hown
      have HX2 := Lib.hid (hX.trans hX2)
      clear hown
      go_loopw [26] (fun i wr => ∃ (k : Nat) (cs : Array Value), k ≤ 20 ∧ i = .int .i64 k ∧ Ext w2 wr ∧ AgentTo wr w2.heap.size n (.slice A2 t.length c2) k cs) (fun i _ => 20 - (intOf i).toNat)
      case atStart =>
        refine ⟨0, (i64 n :: Value.slice A2 t.length c2 :: zeroRounds ++ [Value.slice none 0 0]).toArray, Nat.zero_le _, rfl, (by repeat first | assumption | exact ext_refl _ | apply ext_alloc | apply ext_drewN | apply ext_drew), ?_⟩
        exact ⟨heap_alloc_new w2 _, rfl, rfl, rfl, rfl, by simp, fun j hj => by omega⟩
      case round =>
        obtain ⟨k, cs, hk, rfl, hE0, hm⟩ := hrel
        have HM := Lib.hid hm
        clear hm
        by_cases hlt : k < 20
        · have hlt2 : (k : Int) < 20 := by omega
          obtain ⟨u0, hc0, hf0⟩ := HM.out.cell (o := 2 + k * 3) (by omega)
          obtain ⟨u1, hc1, hf1⟩ := HM.out.cell (o := 2 + k * 3 + 1) (by omega)
          obtain ⟨u2, hc2, hf2⟩ := HM.out.cell (o := 2 + k * 3 + 2) (by omega)
          have hpl : w2.heap.size < wr.heap.size := by have := HM.out.top; omega
          go_wp2
          refine ⟨⟨k + 1, _, by omega, by go_num, ?_, HM.out.step hlt⟩, ?_⟩
          · exact ext_alloc (ext_set (ext_set (ext_set hE0 _ (Nat.le_refl _) _) _ (Nat.le_refl _) _) _ (Nat.le_refl _) _) _
          · simp [intOf]; omega
        · have hke : k = 20 := by omega
          subst hke
          go_wp2
          refine bodyPost_ret (v := .tuple #[.pointer (some ⟨w2.heap.size, 0, none⟩), .nilIface]) (by simp [results, Tryd.results4, go_sem]) rfl ⟨hE0.trans' HX2.out, fun _ => ⟨w2.heap.size, _, cs, rfl, HX2.out.size, HM.out.done ?_⟩, fun h => absurd (HE.out.trans HT.out) h⟩
          exact ⟨w1.heap.size, w2.heap.size, TRule.slice.ext (lo := w1.heap.size) (rel_of_own HO.out (fun _ _ => trivial)) (fun b _ hb => hE0.block hb) (Nat.le_refl _) (Nat.le_refl _), hE0.size, .inl (Nat.le_refl _), fun g h => by simp [Value.ownBlock] at h⟩
    · have HT := Lib.hid ht
      have hd : decide (tabErr t = 0) = false := by simpa using ht
      clear ht
      go_enter Tryd.func4, Tryd.ntmps4
      go_wp2_with (first
        | (go_at_call 13; refine (table_any t _ _ hv).mono ?_; rintro e w1 ⟨rfl, hX⟩))
      refine bodyPost_ret (v := .tuple #[.pointer none, errV (tabErr t)]) (by simp [results, Tryd.results4, go_sem]) rfl ⟨hX, fun h => absurd (HE.out.symm.trans h) HT.out, fun _ => by rw [HE.out]⟩
end Go.Proofs.YthimhcbjboffcaaDoor
