/- Walk: (*Agent).Hear. -/
import Derived.Test.YthimhcbjboffcaaDoorAgent2
import Derived.BigRegion
namespace Go.Proofs.YthimhcbjboffcaaDoor
open Go Go.RowKit
def Agt.put (a : Agt) (k : Nat) (r : Rnd) : Agt := { a with rounds := a.rounds.set k r }
def hearA (a : Agt) (m : Msg) : Agt × List Msg × Int :=
  if msgErr m ≠ 0 then (a, [], msgErr m)
  else if m.switch ≠ a.number then (a, [], 5)
  else if m.kind = 3 then (a, [], 6)
  else
    let r := a.rounds.getD m.round.toNat noRnd
    if r.done = true then (if m.kind = 2 then (a, [yesMsg a.number m.round], 0) else (a, [], 0))
    else if m.kind = 2 then (if r.many < 0 then (a.put m.round.toNat { r with many := m.index }, [], 0) else (a, [], 0))
    else if r.has m.index = true then (a, [], 0) else (a.put m.round.toNat { r with ops := r.ops ++ [(m.index, m.op)] }, [], 0)
theorem putIn_ops {r : Rnd} {i : Int} {o : Op} (h : r.has i = false) : putIn i (opVal o) r.vals = ({ r with ops := r.ops ++ [(i, o)] } : Rnd).vals := by
  unfold Rnd.has at h
  unfold putIn
  cases hq : fnd i r.vals 0 with
  | none => simp [Rnd.vals, Op.cells]
  | some v => rw [hq] at h; cases h
theorem AgentAt.off {w w' : World} {p : Nat} {a : Agt} {vt vd : Value} {cs : Array Value} (h : AgentAt w p a vt vd cs) (k : Nat) (r : Rnd) (cs' : Array Value) (hO : Off p w w')
    (hb : w'.heap[p]? = some (.cells cs' 66 (0, 0))) (hs : cs'.size = 63) (hk : k < 20)
    (hc : ∀ o, (o < 2 + k * 3 ∨ 2 + k * 3 + 3 ≤ o) → cs'[o]? = cs[o]?) (hm : ∀ j, j < 20 → j ≠ k → w'.heap[p + 1 + j]? = w.heap[p + 1 + j]?)
    (h1 : cs'[2 + k * 3]? = some (.map (some (p + 1 + k)))) (h2 : cs'[2 + k * 3 + 1]? = some (i64 r.many)) (h3 : cs'[2 + k * 3 + 2]? = some (.bool r.done)) (h4 : MapAt i64 w' (p + 1 + k) r.vals) :
    AgentAt w' p (a.put k r) vt vd cs' where
  blk := hb
  size := hs
  num := (hc 0 (by omega)).trans h.num
  tab := (hc 1 (by omega)).trans h.tab
  don := (hc 62 (by omega)).trans h.don
  toff := h.toff.off hO
  own := by
    obtain ⟨n, h1, h2⟩ := h.own
    refine ⟨n, h1, ?_⟩
    rcases h2 with h2 | ⟨g, cap, cur, e, hg, hb, hr⟩
    · exact .inl h2
    · exact .inr ⟨g, cap, cur, e, hg, (hO.block g (Array.getElem?_eq_some_iff.1 hb).1 (.inr hg)).trans hb, hr⟩
  len := by simp [Agt.put, h.len]
  row := fun j r' hr => by
    have hj : j < 20 := by have := (List.getElem?_eq_some_iff.1 hr).1; simp [Agt.put, h.len] at this; exact this
    by_cases e : j = k
    · subst e
      have : r = r' := by simpa [Agt.put, List.getElem?_set_self, h.len, hj] using hr
      subst this
      exact ⟨h1, h2, h3, h4⟩
    · have hr2 : a.rounds[j]? = some r' := by simpa [Agt.put, List.getElem?_set_ne (Ne.symm e)] using hr
      obtain ⟨g1, g2, g3, g4⟩ := h.row j r' hr2
      exact ⟨(hc _ (by omega)).trans g1, (hc _ (by omega)).trans g2, (hc _ (by omega)).trans g3, g4.block (hm j hj e)⟩
theorem msg_in {m : Msg} (h : msgErr m = 0) : ¬ msgOut m := fun ho => by rw [msg_1 ho] at h; cases h
theorem boxMsg_cells (w : World) (m : Msg) : ∀ w', Ext (boxMsg w m) w' → w'.rangeAt w.heap.size 0 m.cells := fun _ h => box_range (cs := m.cells) h
theorem rdMsg_none (w : World) : RdL TMsg w ([] : List Msg) (.slice none 0 0) := RdL.mk (Nat.le_refl _) (by unfold maxLen; omega) (fun h => absurd rfl h)
theorem Off.set {p : Nat} {w a : World} (h : Off p w a) {q : Addr} (h1 : p ≤ q.block) (h2 : q.block < p + 21) (u : Value) : Off p w (a.setCell q u) :=
  ⟨h.os, h.tape, h.output, by simpa [World.setCell] using h.size, fun j hj hp => (Below.heap_setCell a q u j (by omega)).trans (h.block j hj hp)⟩
theorem Off.grown {p : Nat} {w a b : World} (h : Off p w a) {g : Nat} (hg : a.grownBy b (some g)) (h1 : p ≤ g) (h2 : g < p + 21) : Off p w b :=
  ⟨hg.os.trans h.os, hg.tape.trans h.tape, hg.output.trans h.output, Nat.le_trans h.size hg.size, fun j hj hp => (hg.block j (Nat.lt_of_lt_of_le hj h.size) (fun e => by injection e; omega)).trans (h.block j hj hp)⟩
/-- What Hear leaves. -/
def HearPost (p : Nat) (a : Agt) (m : Msg) (vt vd : Value) (w : World) (e : Ending) (w' : World) : Prop :=
  ∃ v' cs', e = .returned (.tuple #[v', errV (hearA a m).2.2]) ∧ TMsg.slice.rel w' w.heap.size w'.heap.size (hearA a m).2.1 [v'] ∧ AgentAt w' p (hearA a m).1 vt vd cs' ∧ Off p w w'
theorem msg_cells4 (w : World) (m : Msg) : ∀ w', Ext (boxMsg w m) w' → w'.cell? ⟨w.heap.size, 0, none⟩ = some (i64 m.kind) ∧ w'.cell? ⟨w.heap.size, 1, none⟩ = some (i64 m.switch) ∧ w'.cell? ⟨w.heap.size, 2, none⟩ = some (i64 m.round) ∧ w'.cell? ⟨w.heap.size, 3, none⟩ = some (i64 m.index) ∧
    w'.cell? ⟨w.heap.size, 4, none⟩ = some (i64 m.op.switch) ∧ w'.cell? ⟨w.heap.size, 5, none⟩ = some (.bool m.op.add) ∧ w'.cell? ⟨w.heap.size, 6, none⟩ = some (i64 m.op.rule.prio) ∧ w'.cell? ⟨w.heap.size, 7, none⟩ = some (i64 m.op.rule.cube.mask) ∧
    w'.cell? ⟨w.heap.size, 8, none⟩ = some (i64 m.op.rule.cube.bits) ∧ w'.cell? ⟨w.heap.size, 9, none⟩ = some (i64 m.op.rule.out) ∧ w'.cell? ⟨w.heap.size, 10, none⟩ = some (i64 m.op.rule.set) ∧ w'.cell? ⟨w.heap.size, 11, none⟩ = some (i64 m.op.rule.value) := fun w' e =>
  have r := boxMsg_cells w m w' e
  ⟨r 0 _ rfl, r 1 _ rfl, r 2 _ rfl, r 3 _ rfl, r 4 _ rfl, r 5 _ rfl, r 6 _ rfl, r 7 _ rfl, r 8 _ rfl, r 9 _ rfl, r 10 _ rfl, r 11 _ rfl⟩
theorem AgentAt.rowCells {w : World} {p : Nat} {a : Agt} {vt vd : Value} {cs : Array Value} (h : AgentAt w p a vt vd cs) {k : Nat} {r : Rnd} (hr : a.rounds[k]? = some r) : ∀ w', Ext w w' →
    w'.cell? ⟨p, 2 + k * 3, none⟩ = some (.map (some (p + 1 + k))) ∧ w'.cell? ⟨p, 2 + k * 3 + 1, none⟩ = some (i64 r.many) ∧ w'.cell? ⟨p, 2 + k * 3 + 2, none⟩ = some (.bool r.done) := fun w' hE => by
  have h := h.ext hE
  obtain ⟨h1, h2, h3, _⟩ := h.row k r hr
  exact ⟨(h.cell _).trans h1, (h.cell _).trans h2, (h.cell _).trans h3⟩
theorem hearA_in {a : Agt} {m : Msg} {k : Nat} {r : Rnd} (hz : msgErr m = 0) (hs : m.switch = a.number) (hk3 : ¬ m.kind = 3) (hk : m.round = k) (hr : a.rounds[k]? = some r) :
    hearA a m = if r.done = true then (if m.kind = 2 then (a, [yesMsg a.number m.round], 0) else (a, [], 0)) else if m.kind = 2 then (if r.many < 0 then (a.put k { r with many := m.index }, [], 0) else (a, [], 0)) else if r.has m.index = true then (a, [], 0) else (a.put k { r with ops := r.ops ++ [(m.index, m.op)] }, [], 0) := by
  have hkt : m.round.toNat = k := by omega
  have hd : a.rounds.getD k noRnd = r := by rw [List.getD_eq_getElem?_getD, hr]; rfl
  rw [hearA, if_neg (by simpa using hz), if_neg (by simpa using hs), if_neg hk3]; simp only [hkt, hd]
theorem AgentAt.many {w w1 : World} {p : Nat} {a : Agt} {vt vd : Value} {cs : Array Value} (h : AgentAt w p a vt vd cs) (hE : Ext w w1) {k : Nat} {r : Rnd} (hr : a.rounds[k]? = some r) (n : Int) :
    AgentAt (w1.setCell ⟨p, 2 + k * 3 + 1, none⟩ (i64 n)) p (a.put k { r with many := n }) vt vd (cs.setIfInBounds (2 + k * 3 + 1) (i64 n)) := by
  have hk : k < 20 := by have := (List.getElem?_eq_some_iff.1 hr).1; rw [h.len] at this; exact this
  have h1 := h.ext hE
  obtain ⟨g1, g2, g3, g4⟩ := h1.row k r hr
  refine h1.off k _ _ ((Off.of_ext (ext_refl _)).set (by simp) (by simp) _) (heap_setCell_same w1 p _ cs _ _ h1.blk) (by simp [h1.size]) hk (fun o ho => Array.getElem?_setIfInBounds_ne (by omega)) (fun j hj hne => Below.heap_setCell _ _ _ _ (by simp; omega)) ?_ ?_ ?_ ?_
  · rw [Array.getElem?_setIfInBounds_ne (by omega)]; exact g1
  · rw [Array.getElem?_setIfInBounds_self, if_pos (by have := h1.size; omega)]
  · rw [Array.getElem?_setIfInBounds_ne (by omega)]; exact g3
  · exact g4.block (Below.heap_setCell _ _ _ _ (by simp; omega))
theorem AgentAt.more {w w1 w2 : World} {p : Nat} {a : Agt} {vt vd : Value} {cs : Array Value} (h : AgentAt w p a vt vd cs) (hE : Ext w w1) {k : Nat} {r r' : Rnd} (hr : a.rounds[k]? = some r) (hg : w1.grownBy w2 (some (p + 1 + k)))
    (hm : MapAt i64 w2 (p + 1 + k) r'.vals) (h1 : r'.many = r.many) (h2 : r'.done = r.done) : AgentAt w2 p (a.put k r') vt vd cs := by
  have hk : k < 20 := by have := (List.getElem?_eq_some_iff.1 hr).1; rw [h.len] at this; exact this
  have hw := h.ext hE
  have htop := hw.top
  obtain ⟨g1, g2, g3, g4⟩ := hw.row k r hr
  refine hw.off k _ cs ((Off.of_ext (ext_refl _)).grown hg (by omega) (by omega)) ((hg.block p hw.lt (by intro e; injection e; omega)).trans hw.blk) hw.size hk (fun _ _ => rfl) (fun j hj hne => hg.block _ (by omega) (by intro e; injection e; omega)) g1 (by rw [h1]; exact g2) (by rw [h2]; exact g3) hm
abbrev boxOp2 (w : World) (o : Op) : World := w.alloc (.cells #[i64 o.switch, .bool o.add, i64 o.rule.prio, i64 o.rule.cube.mask, i64 o.rule.cube.bits, i64 o.rule.out, i64 o.rule.set, i64 o.rule.value] 43)
theorem rd_yes (w : World) (n i : Int) (lo : Nat) (hlo : lo ≤ w.heap.size) : TMsg.slice.rel (w.alloc (.cells (yesMsg n i).cells.toArray 50)) lo (w.alloc (.cells (yesMsg n i).cells.toArray 50)).heap.size [yesMsg n i] [.slice (some ⟨w.heap.size, 0, none⟩) 1 1] :=
  ⟨some ⟨w.heap.size, 0, none⟩, 1, rfl, Nat.le_refl _, by unfold maxLen; omega, fun _ => ⟨w.heap.size, 0, rfl, hlo, by simp, fun k x hx => by
    match k with
    | 0 => simp at hx; subst hx; exact ⟨_, by simpa using rangeAt_new w (yesMsg n i).cells 50, rfl, trivial⟩
    | k + 1 => simp at hx⟩⟩
set_option maxRecDepth 100000 in
set_option maxHeartbeats 1600000 in
theorem hear_done (p : Nat) (a : Agt) (m : Msg) (vt vd : Value) (cs : Array Value) (w : World) (h : AgentAt w p a vt vd cs) (hz : msgErr m = 0) (hs : m.switch = a.number) (hk3 : ¬ m.kind = 3) (k : Nat) (hk : m.round = k) (r : Rnd) (hr : a.rounds[k]? = some r) (hd : r.done = true) :
    Calls Tryd.prog 6 #[.pointer (some ⟨p, 0, none⟩), msgVal m] w (HearPost p a m vt vd w) := by
  obtain ⟨hn, hbm, hrc⟩ : (∀ w', Ext w w' → w'.cell? ⟨p, 0, none⟩ = some (i64 a.number)) ∧ _ ∧ _ := ⟨fun w' hE => ((h.ext hE).cell 0).trans h.num, msg_cells4 w m, h.rowCells hr⟩
  have hk20 : k < 20 := by have := (List.getElem?_eq_some_iff.1 hr).1; rw [h.len] at this; exact this
  have hk2 : (k : Int) < 20 := by omega
  have hk0 : (0 : Int) ≤ (k : Int) := by omega
  have hwk : IntKind.i64.wrap (k : Int) = (k : Int) := IntWalk.i64_in _ (by omega)
  have hs2 : (m.switch != a.number) = false := by simpa using hs
  have hk4 : (m.kind == 3) = false := by simpa using hk3
  have HH := Lib.hid h
  have HZ := Lib.hid hz
  have HE := Lib.hid (hearA_in hz hs hk3 hk hr)
  have HK := Lib.hid hk
  have HR := Lib.hid hr
  clear h hz hs hk3 hk hr
  rw [hd] at hrc
  have HD := Lib.hid hd
  clear hd
  by_cases h2 : m.kind = 2
  · have hq2 : (m.kind == 2) = true := by simpa using h2
    have HQ := Lib.hid (show hearA a m = (a, [yesMsg a.number m.round], 0) by rw [HE.out, if_pos HD.out, if_pos h2])
    clear h2
    go_enter Tryd.func6, Tryd.ntmps6
    go_wp2_with (first
    | (go_at_call 18; refine (wcheck_any m _).mono ?_; rintro e w1 ⟨rfl, hE⟩; have hX : Ext (boxMsg w m) w1 := Ext.trans (by repeat first | assumption | exact ext_refl _ | apply ext_alloc | apply ext_drewN | apply ext_drew) hE; have hY := hX.of_box; have hb2 := fun w' (e : Ext w1 w') => hbm w' (hX.trans e); rw [HK.out] at hb2; have hn2 := fun w' (e : Ext w1 w') => hn w' (hY.trans e); have hrc2 := fun w' (e : Ext w1 w') => hrc w' (hY.trans e); clear hbm hn hrc; have hb1 := hb2 _ (ext_refl _); have hn1 := hn2 _ (ext_refl _); have hr1 := hrc2 _ (ext_refl _); rw [HZ.out, errV_zero]))
    go_quiet (fail)
    go_wp2
    go_quiet (fail)
    go_wp2
    refine bodyPost_ret (v := .tuple #[.slice (some ⟨w1.heap.size, 0, none⟩) 1 1, .nilIface]) (by simp [results, Tryd.results6, go_sem]) rfl ⟨.slice (some ⟨w1.heap.size, 0, none⟩) 1 1, cs, ?_, ?_, ?_, ?_⟩
    · rw [HQ.out, errV_zero]
    · rw [HQ.out, HK.out]
      exact rd_yes (w1.drewN _) a.number k _ (ext_drewN hY _).size
    · rw [HQ.out]
      exact HH.out.ext (ext_alloc (ext_drewN hY _) _)
    · exact Off.of_ext (ext_alloc (ext_drewN hY _) _)
  · have hq2 : (m.kind == 2) = false := by simpa using h2
    have HQ := Lib.hid (show hearA a m = (a, [], 0) by rw [HE.out, if_pos HD.out, if_neg h2])
    clear h2
    go_enter Tryd.func6, Tryd.ntmps6
    go_wp2_with (first
    | (go_at_call 18; refine (wcheck_any m _).mono ?_; rintro e w1 ⟨rfl, hE⟩; have hX : Ext (boxMsg w m) w1 := Ext.trans (by repeat first | assumption | exact ext_refl _ | apply ext_alloc | apply ext_drewN | apply ext_drew) hE; have hY := hX.of_box; have hb2 := fun w' (e : Ext w1 w') => hbm w' (hX.trans e); rw [HK.out] at hb2; have hn2 := fun w' (e : Ext w1 w') => hn w' (hY.trans e); have hrc2 := fun w' (e : Ext w1 w') => hrc w' (hY.trans e); clear hbm hn hrc; have hb1 := hb2 _ (ext_refl _); have hn1 := hn2 _ (ext_refl _); have hr1 := hrc2 _ (ext_refl _); rw [HZ.out, errV_zero]))
    go_quiet (fail)
    go_wp2
    go_quiet (fail)
    go_wp2
    refine bodyPost_ret (v := .tuple #[.slice none 0 0, .nilIface]) (by simp [results, Tryd.results6, go_sem]) rfl ⟨.slice none 0 0, cs, ?_, ?_, ?_, ?_⟩
    · rw [HQ.out, errV_zero]
    · rw [HQ.out]
      exact rel_none _ _ _ _
    · rw [HQ.out]
      exact HH.out.ext (ext_drewN hY _)
    · exact Off.of_ext (ext_drewN hY _)
set_option maxRecDepth 100000 in
set_option maxHeartbeats 1600000 in
theorem hear_ask (p : Nat) (a : Agt) (m : Msg) (vt vd : Value) (cs : Array Value) (w : World) (h : AgentAt w p a vt vd cs) (hz : msgErr m = 0) (hs : m.switch = a.number) (hk3 : ¬ m.kind = 3) (k : Nat) (hk : m.round = k) (r : Rnd) (hr : a.rounds[k]? = some r) (hd : r.done = false) (h2 : m.kind = 2) :
    Calls Tryd.prog 6 #[.pointer (some ⟨p, 0, none⟩), msgVal m] w (HearPost p a m vt vd w)  := by
  obtain ⟨hn, hbm, hrc⟩ : (∀ w', Ext w w' → w'.cell? ⟨p, 0, none⟩ = some (i64 a.number)) ∧ _ ∧ _ := ⟨fun w' hE => ((h.ext hE).cell 0).trans h.num, msg_cells4 w m, h.rowCells hr⟩
  have hk20 : k < 20 := by have := (List.getElem?_eq_some_iff.1 hr).1; rw [h.len] at this; exact this
  have hk2 : (k : Int) < 20 := by omega
  have hk0 : (0 : Int) ≤ (k : Int) := by omega
  have hwk : IntKind.i64.wrap (k : Int) = (k : Int) := IntWalk.i64_in _ (by omega)
  have hs2 : (m.switch != a.number) = false := by simpa using hs
  have hk4 : (m.kind == 3) = false := by simpa using hk3
  have HH := Lib.hid h
  have HZ := Lib.hid hz
  have HE := Lib.hid (hearA_in hz hs hk3 hk hr)
  have HK := Lib.hid hk
  have HR := Lib.hid hr
  clear h hz hs hk3 hk hr
  rw [hd] at hrc
  have hq2 : (m.kind == 2) = true := by simpa using h2
  have HQ := Lib.hid (show hearA a m = if r.many < 0 then (a.put k { r with many := m.index }, [], 0) else (a, [], 0) by rw [HE.out, if_neg (by simp [hd]), if_pos h2])
  have HD := Lib.hid hd
  clear hd h2
  by_cases hm : r.many < 0
  · have HQ2 := Lib.hid (HQ.out.trans (if_pos hm))
    go_enter Tryd.func6, Tryd.ntmps6
    go_wp2_with (first
    | (go_at_call 18; refine (wcheck_any m _).mono ?_; rintro e w1 ⟨rfl, hE⟩; have hX : Ext (boxMsg w m) w1 := Ext.trans (by repeat first | assumption | exact ext_refl _ | apply ext_alloc | apply ext_drewN | apply ext_drew) hE; have hY := hX.of_box; have hb2 := fun w' (e : Ext w1 w') => hbm w' (hX.trans e); rw [HK.out] at hb2; have hn2 := fun w' (e : Ext w1 w') => hn w' (hY.trans e); have hrc2 := fun w' (e : Ext w1 w') => hrc w' (hY.trans e); clear hbm hn hrc; have hb1 := hb2 _ (ext_refl _); have hn1 := hn2 _ (ext_refl _); have hr1 := hrc2 _ (ext_refl _); rw [HZ.out, errV_zero]))
    go_quiet (fail)
    go_wp2
    go_quiet (fail)
    have hfr := (HH.out.ext hY).free
    go_wp2
    refine bodyPost_ret (v := .tuple #[.slice none 0 0, .nilIface]) (by simp [results, Tryd.results6, go_sem]) rfl ⟨.slice none 0 0, cs.setIfInBounds (2 + k * 3 + 1) (i64 m.index), ?_, ?_, ?_, ?_⟩
    · rw [HQ2.out, errV_zero]
    · rw [HQ2.out]
      exact rel_none _ _ _ _
    · rw [HQ2.out]
      exact HH.out.many (ext_drewN hY _) HR.out m.index
    · exact (Off.of_ext (ext_drewN hY _)).set (by simp) (by simp) _
  · have HQ2 := Lib.hid (HQ.out.trans (if_neg hm))
    have hm0 : 0 ≤ r.many := by omega
    clear hm
    go_enter Tryd.func6, Tryd.ntmps6
    go_wp2_with (first
    | (go_at_call 18; refine (wcheck_any m _).mono ?_; rintro e w1 ⟨rfl, hE⟩; have hX : Ext (boxMsg w m) w1 := Ext.trans (by repeat first | assumption | exact ext_refl _ | apply ext_alloc | apply ext_drewN | apply ext_drew) hE; have hY := hX.of_box; have hb2 := fun w' (e : Ext w1 w') => hbm w' (hX.trans e); rw [HK.out] at hb2; have hn2 := fun w' (e : Ext w1 w') => hn w' (hY.trans e); have hrc2 := fun w' (e : Ext w1 w') => hrc w' (hY.trans e); clear hbm hn hrc; have hb1 := hb2 _ (ext_refl _); have hn1 := hn2 _ (ext_refl _); have hr1 := hrc2 _ (ext_refl _); rw [HZ.out, errV_zero]))
    go_quiet (fail)
    go_wp2
    go_quiet (fail)
    go_wp2
    refine bodyPost_ret (v := .tuple #[.slice none 0 0, .nilIface]) (by simp [results, Tryd.results6, go_sem]) rfl ⟨.slice none 0 0, cs, ?_, ?_, ?_, ?_⟩
    · rw [HQ2.out, errV_zero]
    · rw [HQ2.out]
      exact rel_none _ _ _ _
    · rw [HQ2.out]
      exact HH.out.ext (ext_drewN hY _)
    · exact Off.of_ext (ext_drewN hY _)
set_option maxRecDepth 100000 in
set_option maxHeartbeats 1600000 in
theorem hear_do (p : Nat) (a : Agt) (m : Msg) (vt vd : Value) (cs : Array Value) (w : World) (h : AgentAt w p a vt vd cs) (hz : msgErr m = 0) (hs : m.switch = a.number) (hk3 : ¬ m.kind = 3) (k : Nat) (hk : m.round = k) (r : Rnd) (hr : a.rounds[k]? = some r) (hd : r.done = false) (h2 : ¬ m.kind = 2) :
    Calls Tryd.prog 6 #[.pointer (some ⟨p, 0, none⟩), msgVal m] w (HearPost p a m vt vd w)  := by
  obtain ⟨hn, hbm, hrc⟩ : (∀ w', Ext w w' → w'.cell? ⟨p, 0, none⟩ = some (i64 a.number)) ∧ _ ∧ _ := ⟨fun w' hE => ((h.ext hE).cell 0).trans h.num, msg_cells4 w m, h.rowCells hr⟩
  have hk20 : k < 20 := by have := (List.getElem?_eq_some_iff.1 hr).1; rw [h.len] at this; exact this
  have hk2 : (k : Int) < 20 := by omega
  have hk0 : (0 : Int) ≤ (k : Int) := by omega
  have hwk : IntKind.i64.wrap (k : Int) = (k : Int) := IntWalk.i64_in _ (by omega)
  have hs2 : (m.switch != a.number) = false := by simpa using hs
  have hk4 : (m.kind == 3) = false := by simpa using hk3
  have HH := Lib.hid h
  have HZ := Lib.hid hz
  have HE := Lib.hid (hearA_in hz hs hk3 hk hr)
  have HK := Lib.hid hk
  have HR := Lib.hid hr
  clear h hz hs hk3 hk hr
  rw [hd] at hrc
  have hq2 : (m.kind == 2) = false := by simpa using h2
  have HQ := Lib.hid (show hearA a m = if r.has m.index = true then (a, [], 0) else (a.put k { r with ops := r.ops ++ [(m.index, m.op)] }, [], 0) by rw [HE.out, if_neg (by simp [hd]), if_neg h2])
  have HD := Lib.hid hd
  have hlk := fun w' (e : Ext w w') => ops_lookup ((HH.out.row k r HR.out).2.2.2.ext e) m.index
  clear hd h2
  cases hh : r.has m.index
  · have HQ2 := Lib.hid (HQ.out.trans (if_neg (by simp [hh])))
    rw [hh] at hlk
    have HHAS := Lib.hid hh
    clear hh
    go_enter Tryd.func6, Tryd.ntmps6
    go_wp2_with (first
    | (go_at_call 18; refine (wcheck_any m _).mono ?_; rintro e w1 ⟨rfl, hE⟩; have hX : Ext (boxMsg w m) w1 := Ext.trans (by repeat first | assumption | exact ext_refl _ | apply ext_alloc | apply ext_drewN | apply ext_drew) hE; have hY := hX.of_box; have hb2 := fun w' (e : Ext w1 w') => hbm w' (hX.trans e); rw [HK.out] at hb2; have hn2 := fun w' (e : Ext w1 w') => hn w' (hY.trans e); have hrc2 := fun w' (e : Ext w1 w') => hrc w' (hY.trans e); have hlk2 := fun w' (e : Ext w1 w') => hlk w' (hY.trans e); clear hbm hn hrc hlk; have hb1 := hb2 _ (ext_refl _); have hn1 := hn2 _ (ext_refl _); have hr1 := hrc2 _ (ext_refl _); rw [HZ.out, errV_zero]))
    go_quiet (fail)
    generalize hwq : w1.drewN nq = wq
    have hEq : Ext w1 wq := hwq ▸ ext_drewN (ext_refl _) _
    clear hwq nq
    have hbq := hb2 wq hEq
    have hrq := hrc2 wq hEq
    go_wp2
    go_quiet (fail)
    generalize hwv : wq.drewN nq = wv
    have hEv : Ext w1 wv := hEq.trans (hwv ▸ ext_drewN (ext_refl _) _)
    clear hwv nq
    go_wp2
    have hbv := hb2 wv hEv
    have hrv := hrc2 wv hEv
    have hzw : w.heap.size < wv.heap.size := by have := hX.size; have := hEv.size; simp at *; omega
    have hzp : p < wv.heap.size := by have := HH.out.lt; have := hY.size; have := hEv.size; omega
    have hl1 := hlk2 wv.drew (ext_drew hEv)
    have hl2 := fun o => hlk2 (wv.alloc o).drew (ext_drew (ext_alloc hEv o))
    go_region
    go_wp2
    generalize hwz : (boxOp2 wv (r.get m.index)).drew = wz
    have hEz : Ext w1 wz := hwz ▸ ext_drew (ext_alloc hEv _)
    clear hwz
    have hbz := hb2 wz hEz
    have hrz := hrc2 wz hEz
    have hYz := Lib.hid (hY.trans (ext_drew hEz))
    obtain ⟨w3, hrun, hm3, hg3, _⟩ := run_update_map (P := Tryd.prog) key_int Tryd.underlying61 (w := wz.drew) (g := p + 1 + k) (m := r.vals) ((HH.out.row k r HR.out).2.2.2.ext hYz.out) m.index (opVal m.op)
    rw [putIn_ops HHAS.out] at hm3
    have HM3 := Lib.hid hm3
    have HG3 := Lib.hid hg3
    clear hm3 hg3
    go_region
    go_wp2
    refine bodyPost_ret (v := .tuple #[.slice none 0 0, .nilIface]) (by simp [results, Tryd.results6, go_sem]) rfl ⟨.slice none 0 0, cs, ?_, ?_, ?_, ?_⟩
    · rw [HQ2.out, errV_zero]
    · rw [HQ2.out]
      exact rel_none _ _ _ _
    · rw [HQ2.out]
      exact HH.out.more hYz.out HR.out HG3.out HM3.out rfl rfl
    · exact (Off.of_ext hYz.out).grown HG3.out (by omega) (by omega)
  · have HQ2 := Lib.hid (HQ.out.trans (if_pos hh))
    rw [hh] at hlk
    clear hh
    go_enter Tryd.func6, Tryd.ntmps6
    go_wp2_with (first
    | (go_at_call 18; refine (wcheck_any m _).mono ?_; rintro e w1 ⟨rfl, hE⟩; have hX : Ext (boxMsg w m) w1 := Ext.trans (by repeat first | assumption | exact ext_refl _ | apply ext_alloc | apply ext_drewN | apply ext_drew) hE; have hY := hX.of_box; have hb2 := fun w' (e : Ext w1 w') => hbm w' (hX.trans e); rw [HK.out] at hb2; have hn2 := fun w' (e : Ext w1 w') => hn w' (hY.trans e); have hrc2 := fun w' (e : Ext w1 w') => hrc w' (hY.trans e); have hlk2 := fun w' (e : Ext w1 w') => hlk w' (hY.trans e); clear hbm hn hrc hlk; have hb1 := hb2 _ (ext_refl _); have hn1 := hn2 _ (ext_refl _); have hr1 := hrc2 _ (ext_refl _); rw [HZ.out, errV_zero]))
    go_quiet (fail)
    generalize hwq : w1.drewN nq = wq
    have hEq : Ext w1 wq := hwq ▸ ext_drewN (ext_refl _) _
    clear hwq nq
    have hbq := hb2 wq hEq
    have hrq := hrc2 wq hEq
    go_wp2
    go_quiet (fail)
    generalize hwv : wq.drewN nq = wv
    have hEv : Ext w1 wv := hEq.trans (hwv ▸ ext_drewN (ext_refl _) _)
    clear hwv nq
    go_wp2
    have hbv := hb2 wv hEv
    have hrv := hrc2 wv hEv
    have hzw : w.heap.size < wv.heap.size := by have := hX.size; have := hEv.size; simp at *; omega
    have hzp : p < wv.heap.size := by have := HH.out.lt; have := hY.size; have := hEv.size; omega
    have hl1 := hlk2 wv.drew (ext_drew hEv)
    have hl2 := fun o => hlk2 (wv.alloc o).drew (ext_drew (ext_alloc hEv o))
    go_region
    go_wp2
    refine bodyPost_ret (v := .tuple #[.slice none 0 0, .nilIface]) (by simp [results, Tryd.results6, go_sem]) rfl ⟨.slice none 0 0, cs, ?_, ?_, ?_, ?_⟩
    · rw [HQ2.out, errV_zero]
    · rw [HQ2.out]
      exact rel_none _ _ _ _
    · rw [HQ2.out]
      exact HH.out.ext (hY.trans (ext_drew (ext_alloc hEv _)))
    · exact Off.of_ext (hY.trans (ext_drew (ext_alloc hEv _)))
set_option maxRecDepth 100000 in
set_option maxHeartbeats 1600000 in
theorem hear_any (p : Nat) (a : Agt) (m : Msg) (vt vd : Value) (cs : Array Value) (w : World) (h : AgentAt w p a vt vd cs) :
    Calls Tryd.prog 6 #[.pointer (some ⟨p, 0, none⟩), msgVal m] w (HearPost p a m vt vd w) := by
  have hn : ∀ w', Ext w w' → w'.cell? ⟨p, 0, none⟩ = some (i64 a.number) := fun w' hE => ((h.ext hE).cell 0).trans h.num
  have hbm := msg_cells4 w m
  have HH := Lib.hid h
  clear h
  by_cases he : msgErr m = 0
  · have HZ := Lib.hid he
    have hout := msg_in he
    clear he
    have hr0 : 0 ≤ m.round ∧ m.round < 20 := by unfold msgOut at hout; omega
    clear hout
    by_cases hs : m.switch = a.number
    · by_cases hk3 : m.kind = 3
      · have HE := Lib.hid (show hearA a m = (a, [], 6) by rw [hearA, if_neg (by simpa using HZ.out), if_neg (by simpa using hs), if_pos hk3])
        have hs2 : (m.switch != a.number) = false := by simpa using hs
        have hk4 : (m.kind == 3) = true := by simpa using hk3
        clear hs hk3
        go_enter Tryd.func6, Tryd.ntmps6
        go_wp2_with (first
          | (go_at_call 18; refine (wcheck_any m _).mono ?_; rintro e w1 ⟨rfl, hE⟩; have hX : Ext (boxMsg w m) w1 := Ext.trans (by repeat first | assumption | exact ext_refl _ | apply ext_alloc | apply ext_drewN | apply ext_drew) hE; have hY := hX.of_box; have hb1 := hbm _ hX; have hn1 := hn _ hY; rw [HZ.out, errV_zero]))
        go_quiet (fail)
        go_wp2
        refine bodyPost_ret (v := .tuple #[.slice none 0 0, errV 6]) (by simp [results, Tryd.results6, go_sem, errV]) rfl ⟨.slice none 0 0, cs, ?_, ?_, ?_, ?_⟩
        · rw [HE.out]
        · rw [HE.out]
          exact rel_none _ _ _ _
        · rw [HE.out]
          exact HH.out.ext (ext_drewN hY _)
        · exact Off.of_ext (ext_drewN hY _)
      · obtain ⟨k, hk⟩ : ∃ k : Nat, m.round = k := ⟨m.round.toNat, by omega⟩
        have hk20 : k < a.rounds.length := by rw [HH.out.len]; omega
        have hgr : a.rounds[k]? = some a.rounds[k] := List.getElem?_eq_getElem hk20
        cases hd : a.rounds[k].done
        · by_cases h2 : m.kind = 2
          · exact hear_ask p a m vt vd cs w HH.out HZ.out hs hk3 k hk _ hgr hd h2
          · exact hear_do p a m vt vd cs w HH.out HZ.out hs hk3 k hk _ hgr hd h2
        · exact hear_done p a m vt vd cs w HH.out HZ.out hs hk3 k hk _ hgr hd
    · have HE := Lib.hid (show hearA a m = (a, [], 5) by rw [hearA, if_neg (by simpa using HZ.out), if_pos hs])
      have hs2 : (m.switch != a.number) = true := by simpa using hs
      clear hs
      go_enter Tryd.func6, Tryd.ntmps6
      go_wp2_with (first
        | (go_at_call 18; refine (wcheck_any m _).mono ?_; rintro e w1 ⟨rfl, hE⟩; have hX : Ext (boxMsg w m) w1 := Ext.trans (by repeat first | assumption | exact ext_refl _ | apply ext_alloc | apply ext_drewN | apply ext_drew) hE; have hY := hX.of_box; have hb1 := hbm _ hX; have hn1 := hn _ hY; rw [HZ.out, errV_zero]))
      go_quiet (fail)
      go_wp2
      refine bodyPost_ret (v := .tuple #[.slice none 0 0, errV 5]) (by simp [results, Tryd.results6, go_sem, errV]) rfl ⟨.slice none 0 0, cs, ?_, ?_, ?_, ?_⟩
      · rw [HE.out]
      · rw [HE.out]
        exact rel_none _ _ _ _
      · rw [HE.out]
        exact HH.out.ext (ext_drewN hY _)
      · exact Off.of_ext (ext_drewN hY _)
  · have HE := Lib.hid (show hearA a m = (a, [], msgErr m) by rw [hearA, if_pos he])
    have hd : decide (msgErr m = 0) = false := by simpa using he
    clear he
    go_enter Tryd.func6, Tryd.ntmps6
    go_wp2_with (first
      | (go_at_call 18; refine (wcheck_any m _).mono ?_; rintro e w1 ⟨rfl, hE⟩; have hX : Ext (boxMsg w m) w1 := Ext.trans (by repeat first | assumption | exact ext_refl _ | apply ext_alloc | apply ext_drewN | apply ext_drew) hE))
    refine bodyPost_ret (v := .tuple #[.slice none 0 0, errV (msgErr m)]) (by simp [results, Tryd.results6, go_sem]) rfl ⟨.slice none 0 0, cs, ?_, ?_, ?_, ?_⟩
    · rw [HE.out]
    · rw [HE.out]
      exact rel_none _ _ _ _
    · rw [HE.out]
      exact HH.out.ext (hX.of_box)
    · exact Off.of_ext (hX.of_box)
end Go.Proofs.YthimhcbjboffcaaDoor
