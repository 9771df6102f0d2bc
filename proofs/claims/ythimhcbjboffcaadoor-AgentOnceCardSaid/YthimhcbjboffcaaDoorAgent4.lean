/- Walk: (*Agent).Work. -/
import Derived.Test.YthimhcbjboffcaaDoorAgent3
namespace Go.Proofs.YthimhcbjboffcaaDoor
open Go Go.RowKit
/-- The ops of a round that is whole. -/
def Rnd.list (r : Rnd) : List Op := (List.range r.many.toNat).map fun k : Nat => r.get (k : Int)
def workT (a : Agt) (k : Nat) : List Rule := if (allTab a.table (a.rounds.getD k noRnd).list).2 = 0 then (allTab a.table (a.rounds.getD k noRnd).list).1 else a.table
def workA (a : Agt) : Agt × List Msg × Int :=
  if readyA a < 0 then (a, [], 6)
  else ({ a with table := workT a (readyA a).toNat, rounds := a.rounds.set (readyA a).toNat { a.rounds.getD (readyA a).toNat noRnd with done := true }, dones := a.dones ++ [readyA a] }, [yesMsg a.number (readyA a)], 0)
theorem AgentAt.base {w : World} {p : Nat} {a : Agt} {vt vd : Value} {cs : Array Value} (h : AgentAt w p a vt vd cs) {k : Nat} (hk : vd.ownBlock = some k) : p + 21 ≤ k ∧ k < w.heap.size := by
  obtain ⟨n, h1⟩ := h.own
  exact h1.lt k hk
/-- Another table. -/
theorem AgentAt.tabSet {w : World} {p : Nat} {a : Agt} {vt vd : Value} {cs : Array Value} (h : AgentAt w p a vt vd cs) (t : List Rule) (v : Value) (ht : TabOff w p t v vd) :
    AgentAt (w.setCell ⟨p, 1, none⟩ v) p { a with table := t } v vd (cs.setIfInBounds 1 v) where
  blk := heap_setCell_same w p 1 cs _ v h.blk
  size := by simp [h.size]
  num := (Array.getElem?_setIfInBounds_ne (by omega)).trans h.num
  tab := by rw [Array.getElem?_setIfInBounds_self, if_pos (by have := h.size; omega)]
  don := (Array.getElem?_setIfInBounds_ne (by omega)).trans h.don
  toff := ht.off ((Off.of_ext (ext_refl _)).set (by simp) (by simp) _)
  own := by
    obtain ⟨n, h1⟩ := h.own
    exact ⟨n, ownsRow_setCell_below h1 (by simp) _⟩
  len := h.len
  row := fun k r hr => by
    obtain ⟨g1, g2, g3, g4⟩ := h.row k r hr
    exact ⟨(Array.getElem?_setIfInBounds_ne (by omega)).trans g1, (Array.getElem?_setIfInBounds_ne (by omega)).trans g2, (Array.getElem?_setIfInBounds_ne (by omega)).trans g3, g4.block (Below.heap_setCell _ _ _ _ (by simp; omega))⟩
theorem AgentAt.doneSet {w : World} {p : Nat} {a : Agt} {vt vd : Value} {cs : Array Value} (h : AgentAt w p a vt vd cs) {k : Nat} {r : Rnd} (hr : a.rounds[k]? = some r) :
    AgentAt (w.setCell ⟨p, 2 + k * 3 + 2, none⟩ (.bool true)) p (a.put k { r with done := true }) vt vd (cs.setIfInBounds (2 + k * 3 + 2) (.bool true)) := by
  have hk : k < 20 := by have := (List.getElem?_eq_some_iff.1 hr).1; rw [h.len] at this; exact this
  obtain ⟨g1, g2, g3, g4⟩ := h.row k r hr
  refine h.off k _ _ ((Off.of_ext (ext_refl _)).set (by simp) (by simp) _) (heap_setCell_same w p _ cs _ _ h.blk) (by simp [h.size]) hk (fun o ho => Array.getElem?_setIfInBounds_ne (by omega)) (fun j hj hne => Below.heap_setCell _ _ _ _ (by simp; omega)) ?_ ?_ ?_ ?_
  · rw [Array.getElem?_setIfInBounds_ne (by omega)]; exact g1
  · rw [Array.getElem?_setIfInBounds_ne (by omega)]; exact g2
  · rw [Array.getElem?_setIfInBounds_self, if_pos (by have := h.size; omega)]
  · exact g4.block (Below.heap_setCell _ _ _ _ (by simp; omega))
/-- One more that is done. -/
theorem AgentAt.more1 {w w2 : World} {p : Nat} {a : Agt} {vt vd vd' : Value} {cs : Array Value} (h : AgentAt w p a vt vd cs) (i : Int) (hg : w.grownBy w2 vd.ownBlock) (n : Nat) (ho : w2.ownsRow (p + 21) 3 1 vd' n ((a.dones ++ [i]).map i64))
    (hb : vd'.ownBlock = vd.ownBlock ∨ vd'.ownBlock = some w.heap.size) : AgentAt (w2.setCell ⟨p, 62, none⟩ vd') p { a with dones := a.dones ++ [i] } vt vd' (cs.setIfInBounds 62 vd') := by
  have htop := h.top
  have hblk : ∀ k, k < w.heap.size → vd.ownBlock ≠ some k → w2.heap[k]? = w.heap[k]? := fun k hk hne => hg.block k hk (Ne.symm hne)
  have hlow : ∀ k, k < p + 21 → w2.heap[k]? = w.heap[k]? := fun k hk => hblk k (by omega) (fun e => by have := h.base e; omega)
  have hb2 : w2.heap[p]? = some (.cells cs 66 (0, 0)) := (hlow p (by omega)).trans h.blk
  exact {
    blk := heap_setCell_same w2 p 62 cs _ vd' hb2
    size := by simp [h.size]
    num := (Array.getElem?_setIfInBounds_ne (by omega)).trans h.num
    tab := (Array.getElem?_setIfInBounds_ne (by omega)).trans h.tab
    don := by rw [Array.getElem?_setIfInBounds_self, if_pos (by have := h.size; omega)]
    toff := by
      obtain ⟨lo, hi, hr, h1, h2, h3⟩ := h.toff
      refine ⟨lo, hi, TRule.slice.ext hr (fun b h4 h5 => ?_) (Nat.le_refl _) (Nat.le_refl _), ?_, h2, fun g e => ?_⟩
      · rw [Below.heap_setCell _ _ _ _ (by simp; omega)]
        exact hblk b (by omega) (fun e => by have := h3 b e; omega)
      · have := hg.size; simp [World.setCell]; omega
      · rcases hb with hb | hb
        · exact h3 g (hb.symm.trans e)
        · rw [hb] at e; injection e; omega
    own := ⟨n, ownsRow_setCell_below ho (by simp) _⟩
    len := h.len
    row := fun k r hr => by
      have hk : k < 20 := by have := (List.getElem?_eq_some_iff.1 hr).1; rw [h.len] at this; exact this
      obtain ⟨g1, g2, g3, g4⟩ := h.row k r hr
      exact ⟨(Array.getElem?_setIfInBounds_ne (by omega)).trans g1, (Array.getElem?_setIfInBounds_ne (by omega)).trans g2, (Array.getElem?_setIfInBounds_ne (by omega)).trans g3, g4.block ((Below.heap_setCell _ _ _ _ (by simp; omega)).trans (hlow _ (by omega)))⟩ }

/-- What is other than it was behind Work: blocks p .. p + 20, and the row of what was done. -/
structure OffD (p : Nat) (vd : Value) (w w' : World) : Prop where
  os : w'.os = w.os
  tape : w'.tape = w.tape
  output : w'.output = w.output
  size : w.heap.size ≤ w'.heap.size
  block : ∀ k, k < w.heap.size → (k < p ∨ p + 21 ≤ k) → vd.ownBlock ≠ some k → w'.heap[k]? = w.heap[k]?
def WorkPost (p : Nat) (a : Agt) (vd : Value) (w : World) (e : Ending) (w' : World) : Prop :=
  ∃ v' vt' vd' cs', e = .returned (.tuple #[v', errV (workA a).2.2]) ∧ TMsg.slice.rel w' w.heap.size w'.heap.size (workA a).2.1 [v'] ∧ AgentAt w' p (workA a).1 vt' vd' cs' ∧ OffD p vd w w' ∧ (readyA a < 0 → Ext w w')
theorem Off.offD {p : Nat} {vd : Value} {w w' : World} (h : Off p w w') : OffD p vd w w' := ⟨h.os, h.tape, h.output, h.size, fun k hk hp _ => h.block k hk hp⟩
theorem readyA_at {a : Agt} {k : Nat} (h : readyA a = k) (hk : k < a.rounds.length) : (a.rounds.getD k noRnd).done = false ∧ (a.rounds.getD k noRnd).whole = true := by
  unfold readyA idxOf at h
  split at h
  · rename_i hlt
    have e : a.rounds.findIdx (fun r : Rnd => !r.done && r.whole) = k := by omega
    have := List.findIdx_getElem (w := hlt)
    simp only [e] at this
    have hd : a.rounds.getD k noRnd = a.rounds[k] := by simp [List.getD_eq_getElem?_getD, hk]
    rw [hd]
    simpa using this
  · omega
theorem list_len (r : Rnd) : r.list.length = r.many.toNat := by simp [Rnd.list]
theorem flat_snoc (r : Rnd) (j : Nat) : ((List.range (j + 1)).map fun k : Nat => r.get (k : Int)).flatMap Op.cells = (((List.range j).map fun k : Nat => r.get (k : Int)).flatMap Op.cells) ++ (r.get (j : Int)).cells := by
  rw [List.range_succ, List.map_append, List.flatMap_append]; simp
theorem AgentAt.own1 {w : World} {p : Nat} {a : Agt} {vt vd : Value} {cs : Array Value} (h : AgentAt w p a vt vd cs) : w.ownsRow (p + 21) 3 1 vd a.dones.length (a.dones.map i64) := by
  obtain ⟨n, h1⟩ := h.own
  have : n = a.dones.length := by have := h1.1; simpa using this.symm
  rw [← this]; exact h1
theorem AgentAt.blk5 {w w5 : World} {p : Nat} {a : Agt} {vt vd : Value} {cs : Array Value} (h : AgentAt w p a vt vd cs) (hg : w.grownBy w5 vd.ownBlock) (k : Nat) :
    w5.cell? ⟨p, k, none⟩ = cs[k]? ∧ w5.frozen? ⟨p, k, none⟩ = false := by
  have e := (hg.block p h.lt (fun e => by have := h.base e.symm; omega)).trans h.blk
  exact ⟨by have := cell_of_row w5 p k cs _ _ e; simpa using this, frozen_of_row w5 p k cs _ e⟩
theorem OffD.set {p : Nat} {vd : Value} {w a : World} (h : OffD p vd w a) {q : Addr} (h1 : p ≤ q.block) (h2 : q.block < p + 21) (u : Value) : OffD p vd w (a.setCell q u) :=
  ⟨h.os, h.tape, h.output, by simpa [World.setCell] using h.size, fun j hj hp hv => (Below.heap_setCell a q u j (by omega)).trans (h.block j hj hp hv)⟩
theorem OffD.grown {p : Nat} {vd : Value} {w a b : World} (h : OffD p vd w a) (hg : a.grownBy b vd.ownBlock) : OffD p vd w b :=
  ⟨hg.os.trans h.os, hg.tape.trans h.tape, hg.output.trans h.output, Nat.le_trans h.size hg.size, fun j hj hp hv => (hg.block j (Nat.lt_of_lt_of_le hj h.size) (Ne.symm hv)).trans (h.block j hj hp hv)⟩
theorem OffD.ext {p : Nat} {vd : Value} {w a b : World} (h : OffD p vd w a) (hE : Ext a b) : OffD p vd w b :=
  ⟨hE.below.os.trans h.os, hE.below.tape.trans h.tape, hE.below.output.trans h.output, Nat.le_trans h.size hE.size, fun j hj hp hv => (hE.block (Nat.lt_of_lt_of_le hj h.size)).trans (h.block j hj hp hv)⟩
theorem heap_alloc_set1 (w : World) (q : Addr) (u : Value) (o : Obj) : ((w.setCell q u).alloc o).heap[w.heap.size]? = some o := by
  have := heap_alloc_new (w.setCell q u) o
  simpa [World.setCell] using this
theorem heap_alloc_set2 (w : World) (q q2 : Addr) (u u2 : Value) (o : Obj) : (((w.setCell q u).setCell q2 u2).alloc o).heap[w.heap.size]? = some o := by
  have := heap_alloc_new ((w.setCell q u).setCell q2 u2) o
  simpa [World.setCell] using this
theorem tabOff_new {w wr w3 : World} {p : Nat} {a : Agt} {vt vd : Value} {cs : Array Value} (h : AgentAt w p a vt vd cs) (hE : Ext w wr) (_ : Ext wr w3) {t : List Rule} {v : Value} (hr : TRule.slice.rel w3 wr.heap.size w3.heap.size t [v]) : TabOff w3 p t v vd :=
  ⟨_, _, hr, Nat.le_refl _, .inr (by have := h.top; have := hE.size; omega), fun g e => .inl (by have := (h.base e).2; have := hE.size; omega)⟩
set_option maxRecDepth 100000 in
set_option maxHeartbeats 1600000 in
theorem work_any (p : Nat) (a : Agt) (vt vd : Value) (cs : Array Value) (w : World) (h : AgentAt w p a vt vd cs) (hmn : ∀ r ∈ a.rounds, r.many ≤ 1000000) (hdn : a.dones.length ≤ 1000000) :
    Calls Tryd.prog 11 #[.pointer (some ⟨p, 0, none⟩)] w (WorkPost p a vd w) := by
  have HR := Lib.hid (ready_any p a vt vd cs w h hmn)
  have HH := Lib.hid h
  clear h
  rcases idx_cases (fun r : Rnd => !r.done && r.whole) a.rounds with hi | ⟨k, hi, hkl⟩
  · have HI := Lib.hid (show readyA a = -1 from hi)
    have HE := Lib.hid (show workA a = (a, [], 6) by rw [workA, if_pos (by rw [HI.out]; omega)])
    clear hi hmn
    go_enter Tryd.func11, Tryd.ntmps11
    go_wp2_with (go_at_call 7; refine HR.out.mono ?_; rintro e w1 ⟨rfl, hE⟩; rw [HI.out])
    refine bodyPost_ret (v := .tuple #[.slice none 0 0, errV 6]) (by simp [results, Tryd.results11, go_sem, errV]) rfl ⟨.slice none 0 0, vt, vd, cs, ?_, ?_, ?_, ?_, fun _ => hE⟩
    · rw [HE.out]
    · rw [HE.out]
      exact rel_none _ _ _ _
    · rw [HE.out]
      exact HH.out.ext hE
    · exact (Off.of_ext hE).offD
  · have HI := Lib.hid (show readyA a = k from hi)
    have hw := readyA_at HI.out hkl
    have hgr : a.rounds[k]? = some (a.rounds.getD k noRnd) := by simp [hkl]
    have hmk : (a.rounds.getD k noRnd).many ≤ 1000000 := hmn _ (List.mem_of_getElem? hgr)
    have HWT : Hid (workT a k = if (allTab a.table (a.rounds.getD k noRnd).list).2 = 0 then (allTab a.table (a.rounds.getD k noRnd).list).1 else a.table) := rfl
    have HE : Hid (workA a = ({ a with table := workT a k, rounds := a.rounds.set k { a.rounds.getD k noRnd with done := true }, dones := a.dones ++ [(k : Int)] }, [yesMsg a.number k], 0)) := by
      show _ = _
      rw [workA, if_neg (by rw [HI.out]; omega), HI.out]; rfl
    clear hi hmn
    generalize a.rounds.getD k noRnd = r at hw hgr hmk HE HWT
    have HG := Lib.hid hgr
    obtain ⟨hrd, hrw⟩ := hw
    obtain ⟨m, hm⟩ : ∃ m : Nat, r.many = m := ⟨r.many.toNat, by unfold Rnd.whole at hrw; simp at hrw; omega⟩
    have HM := Lib.hid hm
    have hm6 : (m : Int) ≤ 1000000 := by omega
    have hk20 : k < 20 := by have := HH.out.len; omega
    have hk2 : (k : Int) < 20 := by omega
    have hk0 : (0 : Int) ≤ (k : Int) := by omega
    have hwk : IntKind.i64.wrap (k : Int) = (k : Int) := IntWalk.i64_in _ (by omega)
    have hrc := HH.out.rowCells hgr
    rw [hm, hrd] at hrc
    have hn := fun w' (e : Ext w w') => ((HH.out.ext e).cell 0).trans HH.out.num
    have hnt := fun w' (e : Ext w w') => ((HH.out.ext e).cell 1).trans HH.out.tab
    have hlk := fun w' (e : Ext w w') (j : Int) => ops_lookup1 ((HH.out.row k r HG.out).2.2.2.ext e) j
    have hms : ∀ (w' : World) (a0 : Int) (a1 : Bool) (a2 a3 a4 a5 a6 a7 : Int), (Instr.buildSlice 24 1 #[(0, .agg #[i64 a0, .bool a1, i64 a2, i64 a3, i64 a4, i64 a5, i64 a6, i64 a7])]).run Tryd.prog w' = .ok (.slice (some ⟨w'.heap.size, 0, none⟩) 1 1) (w'.alloc (.cells #[i64 a0, .bool a1, i64 a2, i64 a3, i64 a4, i64 a5, i64 a6, i64 a7] 43)) := fun w' _ _ _ _ _ _ _ _ => by kernel_rfl
    obtain ⟨i0, hi0, hz0, hz1, hz2⟩ := info_of info_op
    clear hmk hgr hrd hrw hm hkl
    go_enter Tryd.func11, Tryd.ntmps11
    go_wp2_with (go_at_call 7; refine HR.out.mono ?_; rintro e w1 ⟨rfl, hE⟩; have hrc1 := hrc w1 hE; rw [HI.out])
    go_loopw [6, 24] (fun l i wr => ∃ j : Nat, j ≤ m ∧ i = .int .i64 j ∧ Ext w1 wr ∧ wr.ownsRow w1.heap.size 43 8 l j (((List.range j).map fun k : Nat => r.get (k : Int)).flatMap Op.cells)) (fun _ i _ => m - (intOf i).toNat)
    case atStart => exact ⟨0, Nat.zero_le _, rfl, ext_refl _, World.ownsRow_nil _ _ _ _⟩
    case round =>
      obtain ⟨j, hj, rfl, hE1, hown⟩ := hrel
      have HO := Lib.hid hown
      clear hown
      have hEr := hE.trans hE1
      have hrcr := hrc wr hEr
      by_cases hlt : j < m
      · have hlt2 : (j : Int) < (m : Int) := by omega
        have HS := Lib.hid (flat_snoc r j)
        have hlr := hlk wr hEr j
        have c1 := Lib.hid (by unfold maxLen; omega : j + 1 ≤ maxLen)
        have c2 := Lib.hid (by omega : (j + 1) * 64 ≤ 140737488355328)
        have c3 := Lib.hid (Nat.le_trans hE1.size (le_alloc wr (.cells (Op.cells (r.get (j : Int))).toArray 43)))
        go_wp2_with (at_builtin; refine wpList_append_src _ rfl (.tmp 27) (.tmp 34) _ rfl w1.heap.size 43 i0 _ 8 64 Tryd.underlying24 hi0 hz0 hz1 hz2 rfl (Nat.zero_lt_succ _) _ j _ rfl (HO.out.alloc _) _ 1 1 (Op.cells (r.get (j : Int))) rfl (src_one (heap_alloc_new wr _) rfl) (one_op _) c1.out c2.out c3.out ?_; intro v' w2 hown' hgr _; have hX2 := own_ext (W := w1) (ext_alloc hE1 _) (HO.out.alloc _) hgr (Nat.le_refl _); rw [← HS.out] at hown')
        go_roundw
        case rel => exact ⟨j + 1, by omega, by go_num, hX2, hown'⟩
        case measure => simp [intOf]; omega
      · have hje : j = m := by omega
        subst hje
        have hrl : RdL TOp wr r.list u6 := by
          have e : r.list = (List.range j).map fun k : Nat => r.get (k : Int) := by rw [Rnd.list, HM.out]; simp
          have hl : ((List.range j).map fun k : Nat => r.get (k : Int)).length = j := by simp
          rw [e]
          exact RdL.of_own (by rw [hl]; exact HO.out) (fun _ _ => trivial)
        have HRL := Lib.hid hrl
        clear hrl
        have HA := Lib.hid (all_any a.table r.list vt u6 wr (HH.out.toff.rd.ext hEr) HRL.out)
        have hnt1 := hnt wr hEr
        have d1 := Lib.hid (by unfold maxLen; omega : a.dones.length + 1 ≤ maxLen)
        have d2 := Lib.hid (by omega : (a.dones.length + 1) * 8 ≤ 140737488355328)
        obtain ⟨i1, hi1, hy0, hy1, hy2⟩ := info_of (show (Tryd.prog.info? 3).map (fun i => (i.zero, i.size, i.bytes)) = some (some (i64 0), 1, 8) by kernel_rfl)
        by_cases ht : (allTab a.table r.list).2 = 0
        · have HT := Lib.hid ht
          clear ht
          have HW := Lib.hid (HWT.out.trans (if_pos HT.out))
          go_wp2_with (first
            | (go_at_call 23; refine HA.out.mono ?_; rintro e w3 ⟨v3, rfl, hr3, hE3⟩; obtain ⟨A3, c3, rfl⟩ := slice_val hr3; have hX3 := hEr.trans hE3; have A0 := HH.out.ext hX3; have hrc3 := hrc w3 hX3; have hf3 := A0.free; have hc1 := hnt w3 hX3; have hc62 := (A0.cell 62).trans A0.don; have HA2 := Lib.hid ((A0.tabSet _ _ (tabOff_new HH.out hEr hE3 hr3)).doneSet (k := k) (r := r) HG.out); clear hr3; clear A0; rw [HT.out, errV_zero])
            | (at_builtin; refine wpList_append_src _ rfl (.tmp 59) (.tmp 61) _ rfl (p + 21) 3 i1 _ 1 8 Tryd.underlying25 hi1 hy0 hy1 hy2 rfl (Nat.zero_lt_succ _) vd a.dones.length _ rfl (HA2.out.own1.alloc _) _ 1 1 [i64 (k : Int)] rfl (src_one (heap_alloc_set2 _ _ _ _ _ _) rfl) (fun u hu => by simp at hu; subst hu; rfl) d1.out d2.out (Nat.le_trans HA2.out.top (le_alloc _ _)) ?_; intro v5 w5 hown5 hgr5 hb5; obtain ⟨A5, c5, rfl⟩ := own_slice hown5; have hb50 := ((HA2.out.ext (ext_alloc (ext_refl _) _)).blk5 hgr5 0).1.trans HA2.out.num; have hb562 := ((HA2.out.ext (ext_alloc (ext_refl _) _)).blk5 hgr5 62).1.trans HA2.out.don; have hf5 := fun j => ((HA2.out.ext (ext_alloc (ext_refl _) _)).blk5 hgr5 j).2))
          have HA6 := Lib.hid ((HA2.out.ext (ext_alloc (ext_refl _) _)).more1 (k : Int) hgr5 (a.dones.length + 1) (by rw [List.map_append]; exact hown5) (by simpa [World.setCell] using hb5))
          have HG5 := Lib.hid hgr5
          clear hgr5 hown5 hb5
          go_wp2_with (go_at_call 19; refine (yes_any p a.number k _ ((HA6.out.cell 0).trans HA6.out.num)).mono ?_; rintro e w6 ⟨rfl, rfl⟩)
          refine bodyPost_ret (v := .tuple #[.slice (some ⟨w5.heap.size, 0, none⟩) 1 1, .nilIface]) (by simp [results, Tryd.results11, go_sem]) rfl ?_
          unfold WorkPost
          have HA7 := HA6.out.ext (ext_alloc (ext_refl _) (.cells (yesMsg a.number k).cells.toArray 50))
          have HD6 : OffD p vd w (w5.setCell ⟨p, 62, none⟩ (.slice A5 (a.dones.length + 1) c5)) := OffD.set (OffD.grown (OffD.ext (OffD.set (OffD.set (Off.of_ext hX3).offD (by simp) (by simp) _) (by simp) (by simp) _) (ext_alloc (ext_refl _) _)) HG5.out) (by simp) (by simp) _
          have HY := rd_yes (w5.setCell ⟨p, 62, none⟩ (.slice A5 (a.dones.length + 1) c5)) a.number k w.heap.size HD6.size
          rw [HE.out, HW.out]
          refine ⟨_, _, _, _, rfl, by simpa [World.setCell] using HY, HA7, OffD.ext HD6 (ext_alloc (ext_refl _) _), fun h => ?_⟩
          rw [HI.out] at h
          omega
        · have HW := Lib.hid (HWT.out.trans (if_neg ht))
          have hd : decide ((allTab a.table r.list).2 = 0) = false := by simpa using ht
          clear ht
          go_wp2_with (first
            | (go_at_call 23; refine HA.out.mono ?_; rintro e w3 ⟨v3, rfl, hr3, hE3⟩; obtain ⟨A3, c3, rfl⟩ := slice_val hr3; have hX3 := hEr.trans hE3; have A0 := HH.out.ext hX3; have hrc3 := hrc w3 hX3; have hf3 := A0.free; have hc1 := hnt w3 hX3; have hc62 := (A0.cell 62).trans A0.don; have HA2 := Lib.hid (A0.doneSet (k := k) (r := r) HG.out); clear hr3; clear A0)
            | (at_builtin; refine wpList_append_src _ rfl (.tmp 59) (.tmp 61) _ rfl (p + 21) 3 i1 _ 1 8 Tryd.underlying25 hi1 hy0 hy1 hy2 rfl (Nat.zero_lt_succ _) vd a.dones.length _ rfl (HA2.out.own1.alloc _) _ 1 1 [i64 (k : Int)] rfl (src_one (heap_alloc_set1 _ _ _ _) rfl) (fun u hu => by simp at hu; subst hu; rfl) d1.out d2.out (Nat.le_trans HA2.out.top (le_alloc _ _)) ?_; intro v5 w5 hown5 hgr5 hb5; obtain ⟨A5, c5, rfl⟩ := own_slice hown5; have hb50 := ((HA2.out.ext (ext_alloc (ext_refl _) _)).blk5 hgr5 0).1.trans HA2.out.num; have hb562 := ((HA2.out.ext (ext_alloc (ext_refl _) _)).blk5 hgr5 62).1.trans HA2.out.don; have hf5 := fun j => ((HA2.out.ext (ext_alloc (ext_refl _) _)).blk5 hgr5 j).2))
          have HA6 := Lib.hid ((HA2.out.ext (ext_alloc (ext_refl _) _)).more1 (k : Int) hgr5 (a.dones.length + 1) (by rw [List.map_append]; exact hown5) (by simpa [World.setCell] using hb5))
          have HG5 := Lib.hid hgr5
          clear hgr5 hown5 hb5
          go_wp2_with (go_at_call 19; refine (yes_any p a.number k _ ((HA6.out.cell 0).trans HA6.out.num)).mono ?_; rintro e w6 ⟨rfl, rfl⟩)
          refine bodyPost_ret (v := .tuple #[.slice (some ⟨w5.heap.size, 0, none⟩) 1 1, .nilIface]) (by simp [results, Tryd.results11, go_sem]) rfl ?_
          unfold WorkPost
          have HA7 := HA6.out.ext (ext_alloc (ext_refl _) (.cells (yesMsg a.number k).cells.toArray 50))
          have HD6 : OffD p vd w (w5.setCell ⟨p, 62, none⟩ (.slice A5 (a.dones.length + 1) c5)) := OffD.set (OffD.grown (OffD.ext (OffD.set (Off.of_ext hX3).offD (by simp) (by simp) _) (ext_alloc (ext_refl _) _)) HG5.out) (by simp) (by simp) _
          have HY := rd_yes (w5.setCell ⟨p, 62, none⟩ (.slice A5 (a.dones.length + 1) c5)) a.number k w.heap.size HD6.size
          rw [HE.out, HW.out]
          refine ⟨_, _, _, _, rfl, by simpa [World.setCell] using HY, HA7, OffD.ext HD6 (ext_alloc (ext_refl _) _), fun h => ?_⟩
          rw [HI.out] at h
          omega
end Go.Proofs.YthimhcbjboffcaaDoor
