/- Walk: a net behind ops. -/
import Derived.Test.YthimhcbjboffcaaDoorOwn
import Derived.IntWalk
import Derived.Test.YthimhcbjboffcaaDoorTable
namespace Go.Proofs.YthimhcbjboffcaaDoor
open Go Go.RowKit
def applyGo (sw : Int) : List (List Rule) → List Op → List (List Rule) × Int
  | ts, [] => (ts, 0)
  | ts, o :: os =>
    if o.switch < 1 ∨ sw < o.switch then ([], 1)
    else if (doT (ts.getD (o.switch - 1).toNat []) o.add o.rule).2 ≠ 0 then ([], (doT (ts.getD (o.switch - 1).toNat []) o.add o.rule).2)
    else applyGo sw (ts.set (o.switch - 1).toNat (doT (ts.getD (o.switch - 1).toNat []) o.add o.rule).1) os
def noNet : Net := ⟨⟨0, [], []⟩, []⟩
/-- A net behind ops; the fault. -/
def applyN (n : Net) (ops : List Op) : Net × Int :=
  if netErr n ≠ 0 then (noNet, netErr n) else if 200 < ops.length then (noNet, 4)
  else if (applyGo n.topo.switches n.tables ops).2 ≠ 0 then (noNet, (applyGo n.topo.switches n.tables ops).2)
  else (⟨n.topo, (applyGo n.topo.switches n.tables ops).1⟩, 0)
theorem tabsErr_all : ∀ {ts : List (List Rule)}, tabsErr ts = 0 → ∀ t ∈ ts, tabErr t = 0
  | [], _, t, ht => by simp at ht
  | a :: ts, h, t, ht => by
    by_cases e : tabErr a = 0
    · rw [tabsErr_next e] at h
      rcases List.mem_cons.1 ht with rfl | h2
      · exact e
      · exact tabsErr_all h t h2
    · rw [tabsErr_1 e] at h; exact absurd h e
/-- What is so of a net that is right. -/
structure NetOk (n : Net) : Prop where
  s1 : 1 ≤ n.topo.switches
  s2 : n.topo.switches ≤ 6
  links : n.topo.links.length ≤ 200
  hosts : n.topo.hosts.length ≤ 8
  many : (n.tables.length : Int) = n.topo.switches
  tabs : ∀ t ∈ n.tables, tabErr t = 0
theorem netOk_of {n : Net} (h : netErr n = 0) : NetOk n := by
  unfold netErr at h
  split at h
  · rename_i h1; exact absurd h h1
  · rename_i h1
    have h1 : topoErr n.topo = 0 := by simpa using h1
    split at h
    · cases h
    · rename_i h2
      unfold topoErr at h1
      split at h1
      · cases h1
      · rename_i h3
        split at h1
        · cases h1
        · rename_i h4
          exact ⟨by omega, by omega, by omega, by omega, by simpa using h2, tabsErr_all h⟩
theorem NetOk.len {n : Net} (h : NetOk n) : n.tables.length ≤ 6 := by have := h.many; have := h.s2; omega
theorem NetOk.rows {n : Net} (h : NetOk n) : ∀ t ∈ n.tables, t.length ≤ 12 := fun t ht => tabErr_len (h.tabs t ht)

theorem OwnTabs.ext {w w' : World} {g : Nat} {ts : List (List Rule)} (h : OwnTabs w g ts) (hE : Ext w w') : OwnTabs w' g ts := by
  obtain ⟨cs, hg, hs, hk⟩ := h
  refine ⟨cs, (hE.block (Array.getElem?_eq_some_iff.1 hg).1).trans hg, hs, fun j t ht => ?_⟩
  obtain ⟨v, hv, hr⟩ := hk j t ht
  exact ⟨v, hv, rel_ext hr hE (Nat.le_refl _)⟩
theorem OwnTabs.lt {w : World} {g : Nat} {ts : List (List Rule)} (h : OwnTabs w g ts) : g < w.heap.size := by
  obtain ⟨cs, hg, _⟩ := h; exact (Array.getElem?_eq_some_iff.1 hg).1
theorem OwnTabs.put {w : World} {g j : Nat} {ts : List (List Rule)} {t : List Rule} {v : Value} (h : OwnTabs w g ts) (hj : j < ts.length) (hr : TRule.slice.rel w (g + 1) w.heap.size t [v]) : OwnTabs (w.setCell ⟨g, j, none⟩ v) g (ts.set j t) := by
  obtain ⟨cs, hg, hs, hk⟩ := h
  have hext : ∀ {t : List Rule} {u : Value}, TRule.slice.rel w (g + 1) w.heap.size t [u] → TRule.slice.rel (w.setCell ⟨g, j, none⟩ v) (g + 1) (w.setCell ⟨g, j, none⟩ v).heap.size t [u] := fun hr => by
    have := rel_set hr (p := ⟨g, j, none⟩) (by simp) v
    simpa [World.setCell] using this
  refine ⟨cs.setIfInBounds j v, heap_setCell_same w g j cs _ v hg, by simpa using hs, fun k t' ht' => ?_⟩
  by_cases e : j = k
  · subst e
    simp [hj] at ht'; subst ht'
    exact ⟨v, by simp [hs, hj], hext hr⟩
  · rw [List.getElem?_set_ne e] at ht'
    obtain ⟨u, hu, hru⟩ := hk k t' ht'
    exact ⟨u, by simp [e, hu], hext hru⟩
theorem OwnTabs.at_ {w : World} {g j : Nat} {ts : List (List Rule)} (h : OwnTabs w g ts) (hj : j < ts.length) : ∃ v, w.cell? ⟨g, j, none⟩ = some v ∧ w.frozen? ⟨g, j, none⟩ = false ∧ RdL TRule w (ts.getD j []) v := by
  obtain ⟨cs, hg, hs, hk⟩ := h
  obtain ⟨v, hv, hr⟩ := hk j _ (List.getElem?_eq_getElem hj)
  refine ⟨v, by rw [cell_of_row w g j cs _ _ hg]; exact hv, frozen_of_row w g j cs _ hg, ?_⟩
  rw [List.getD, List.getElem?_eq_getElem hj]
  exact RdL.of_rel hr (Nat.le_refl _)
theorem OwnTabs.rel {w : World} {g lo : Nat} {ts : List (List Rule)} (h : OwnTabs w g ts) (hm : ts.length ≤ maxLen) (hlo : lo ≤ g) : TRule.slice.slice.rel w lo w.heap.size ts [.slice (some ⟨g, 0, none⟩) ts.length ts.length] := by
  have hlt := h.lt
  obtain ⟨cs, hg, hs, hk⟩ := h
  refine ⟨some ⟨g, 0, none⟩, ts.length, rfl, Nat.le_refl _, hm, fun _ => ⟨g, 0, rfl, hlo, hlt, fun k t ht => ?_⟩⟩
  obtain ⟨v, hv, hr⟩ := hk k t ht
  refine ⟨[v], fun j u hu => ?_, TRule.slice.ext hr (fun _ _ _ => rfl) (by omega) (Nat.le_refl _)⟩
  cases j with
  | zero =>
    simp at hu; subst hu
    rw [cell_of_row w g _ cs _ _ hg]
    simpa [Ty.slice] using hv
  | succ j => simp at hu
/-- In the middle of the ops. -/
def ApplyMid (w : World) (n : Net) (v1 v2 : Value) (g : Nat) (ts : List (List Rule)) (wr : World) : Prop :=
  Ext w wr ∧ w.heap.size + 2 ≤ g ∧ wr.heap[w.heap.size]? = some (.cells #[i64 n.topo.switches, v1, v2, .slice (some ⟨g, 0, none⟩) n.tables.length n.tables.length] 37 (0, 0)) ∧
  wr.heap[w.heap.size + 1]? = some (.cells #[i64 0, .slice none 0 0, .slice none 0 0, .slice none 0 0] 37 (0, 0)) ∧
  TLink.slice.rel wr (w.heap.size + 2) g n.topo.links [v1] ∧ THost.slice.rel wr (w.heap.size + 2) g n.topo.hosts [v2] ∧ OwnTabs wr g ts ∧ ts.length = n.tables.length
theorem ApplyMid.ext {w wr w' : World} {n : Net} {v1 v2 : Value} {g : Nat} {ts : List (List Rule)} (h : ApplyMid w n v1 v2 g ts wr) (hE : Ext wr w') : ApplyMid w n v1 v2 g ts w' := by
  obtain ⟨h1, h2, h3, h4, h5, h6, h7, h8⟩ := h
  have hg := h7.lt
  exact ⟨h1.trans hE, h2, (hE.block (by omega)).trans h3, (hE.block (by omega)).trans h4, TLink.slice.ext h5 (fun b _ hb => hE.block (by omega)) (Nat.le_refl _) (Nat.le_refl _), THost.slice.ext h6 (fun b _ hb => hE.block (by omega)) (Nat.le_refl _) (Nat.le_refl _), h7.ext hE, h8⟩
theorem ApplyMid.put {w wr : World} {n : Net} {v1 v2 v : Value} {g j : Nat} {ts : List (List Rule)} {t : List Rule} (h : ApplyMid w n v1 v2 g ts wr) (hj : j < ts.length) (hr : TRule.slice.rel wr (g + 1) wr.heap.size t [v]) : ApplyMid w n v1 v2 g (ts.set j t) (wr.setCell ⟨g, j, none⟩ v) := by
  obtain ⟨h1, h2, h3, h4, h5, h6, h7, h8⟩ := h
  have hne : ∀ b, b < g → (wr.setCell ⟨g, j, none⟩ v).heap[b]? = wr.heap[b]? := fun b hb => Below.heap_setCell wr _ v b (by simp; omega)
  exact ⟨ext_set h1 _ (by simp; omega) _, h2, (hne _ (by omega)).trans h3, (hne _ (by omega)).trans h4, TLink.slice.ext h5 (fun b _ hb => hne b hb) (Nat.le_refl _) (Nat.le_refl _), THost.slice.ext h6 (fun b _ hb => hne b hb) (Nat.le_refl _) (Nat.le_refl _), h7.put hj hr, by simpa using h8⟩
theorem rdl_nil {α : Type} (T : Ty α) (w : World) : RdL T w [] (.slice none 0 0) := RdL.mk (xs := []) (Nat.le_refl _) (by simp [maxLen]) (fun h => absurd rfl h)
theorem rdNet_none (w : World) (lo : Nat) : RelNet w lo noNet (.slice none 0 0) (.slice none 0 0) (.slice none 0 0) := ⟨rel_none _ _ _ _, rel_none _ _ _ _, rel_none _ _ _ _⟩
abbrev zeroNet : Value := .agg #[i64 0, .slice none 0 0, .slice none 0 0, .slice none 0 0]
abbrev boxOp (w : World) (o : Op) : World := w.alloc (.cells #[i64 o.switch, .bool o.add, i64 o.rule.prio, i64 o.rule.cube.mask, i64 o.rule.cube.bits, i64 o.rule.out, i64 o.rule.set, i64 o.rule.value] 43)
theorem boxOp_cells (w : World) (o : Op) : ∀ w', Ext (boxOp w o) w' → w'.cell? ⟨w.heap.size, 0, none⟩ = some (i64 o.switch) ∧ w'.cell? ⟨w.heap.size, 1, none⟩ = some (.bool o.add) ∧ w'.cell? ⟨w.heap.size, 2, none⟩ = some (i64 o.rule.prio) ∧ w'.cell? ⟨w.heap.size, 3, none⟩ = some (i64 o.rule.cube.mask) ∧
    w'.cell? ⟨w.heap.size, 4, none⟩ = some (i64 o.rule.cube.bits) ∧ w'.cell? ⟨w.heap.size, 5, none⟩ = some (i64 o.rule.out) ∧ w'.cell? ⟨w.heap.size, 6, none⟩ = some (i64 o.rule.set) ∧ w'.cell? ⟨w.heap.size, 7, none⟩ = some (i64 o.rule.value) :=
  fun _ h => have r := box_range (cs := o.cells) h; ⟨r 0 _ rfl, r 1 _ rfl, r 2 _ rfl, r 3 _ rfl, r 4 _ rfl, r 5 _ rfl, r 6 _ rfl, r 7 _ rfl⟩
theorem net_cells {w : World} {b : Nat} {c0 c1 c2 c3 : Value} (h : w.heap[b]? = some (.cells #[c0, c1, c2, c3] 37 (0, 0))) : ∀ w', Ext w w' → (w'.cell? ⟨b, 0, none⟩ = some c0 ∧ w'.cell? ⟨b, 1, none⟩ = some c1 ∧ w'.cell? ⟨b, 2, none⟩ = some c2 ∧ w'.cell? ⟨b, 3, none⟩ = some c3) ∧ ∀ j, w'.frozen? ⟨b, j, none⟩ = false := fun w' hE => by
  have e := (hE.block (Array.getElem?_eq_some_iff.1 h).1).trans h
  exact ⟨⟨cell_of_row w' _ 0 _ _ _ e, cell_of_row w' _ 1 _ _ _ e, cell_of_row w' _ 2 _ _ _ e, cell_of_row w' _ 3 _ _ _ e⟩, fun j => frozen_of_row w' _ j _ _ e⟩
theorem applyMid_start {w w2 : World} {n : Net} {vl vh vt : Value} {A1 A2 : Option Addr} {c1 c2 g : Nat} (hX : Ext (boxNet2 w n.topo.switches vl vh vt) w2) (hg : w.heap.size + 2 ≤ g)
    (h1 : TLink.slice.rel w2 (w.heap.size + 2) g n.topo.links [.slice A1 n.topo.links.length c1]) (h2 : THost.slice.rel w2 (w.heap.size + 2) g n.topo.hosts [.slice A2 n.topo.hosts.length c2]) (h3 : OwnTabs w2 g n.tables) :
    ApplyMid w n (.slice A1 n.topo.links.length c1) (.slice A2 n.topo.hosts.length c2) g n.tables
      ((((w2.setCell ⟨w.heap.size, 0, none⟩ (i64 n.topo.switches)).setCell ⟨w.heap.size, 1, none⟩ (.slice A1 n.topo.links.length c1)).setCell ⟨w.heap.size, 2, none⟩ (.slice A2 n.topo.hosts.length c2)).setCell ⟨w.heap.size, 3, none⟩ (.slice (some ⟨g, 0, none⟩) n.tables.length n.tables.length)) := by
  have e0 : w2.heap[w.heap.size]? = some (.cells #[i64 n.topo.switches, vl, vh, vt] 37 (0, 0)) := (hX.of_box.block (by simp)).trans (heap_alloc_new w _)
  have e1 := heap_setCell_same w2 w.heap.size 0 _ _ (i64 n.topo.switches) e0
  have e2 := heap_setCell_same _ w.heap.size 1 _ _ (.slice A1 n.topo.links.length c1) e1
  have e3 := heap_setCell_same _ w.heap.size 2 _ _ (.slice A2 n.topo.hosts.length c2) e2
  have e4 := heap_setCell_same _ w.heap.size 3 _ _ (.slice (some ⟨g, 0, none⟩) n.tables.length n.tables.length) e3
  refine ⟨?_, hg, e4, ?_, ?_, ?_, ?_, rfl⟩
  · refine ext_set (ext_set (ext_set (ext_set hX.of_box.of_box _ ?_ _) _ ?_ _) _ ?_ _) _ ?_ _ <;> simp
  · rw [Below.heap_setCell _ _ _ _ (by simp), Below.heap_setCell _ _ _ _ (by simp), Below.heap_setCell _ _ _ _ (by simp), Below.heap_setCell _ _ _ _ (by simp)]
    refine (hX.block (by simp)).trans ?_
    have := heap_alloc_new (boxNet w n.topo.switches vl vh vt) (.cells #[i64 0, .slice none 0 0, .slice none 0 0, .slice none 0 0] 37)
    simpa using this
  · refine rel_set (rel_set (rel_set (rel_set h1 ?_ _) ?_ _) ?_ _) ?_ _ <;> simp
  · refine rel_set (rel_set (rel_set (rel_set h2 ?_ _) ?_ _) ?_ _) ?_ _ <;> simp
  · refine OwnTabs.set (OwnTabs.set (OwnTabs.set (OwnTabs.set h3 ?_ _) ?_ _) ?_ _) ?_ _ <;> simp <;> omega

theorem applyGo_1 {sw : Int} {ts : List (List Rule)} {o : Op} {os : List Op} (h : o.switch < 1 ∨ sw < o.switch) : applyGo sw ts (o :: os) = ([], 1) := by rw [applyGo, if_pos h]
theorem applyGo_e {sw : Int} {ts : List (List Rule)} {j : Nat} {add : Bool} {r : Rule} {os : List Op} (h : (j : Int) + 1 ≤ sw) (h2 : ¬ (doT (ts.getD j []) add r).2 = 0) : applyGo sw ts (⟨(j : Int) + 1, add, r⟩ :: os) = ([], (doT (ts.getD j []) add r).2) := by
  rw [applyGo, if_neg (by simp only []; omega)]
  simp only [show ((j : Int) + 1 - 1).toNat = j by omega]
  rw [if_pos h2]
theorem applyGo_n {sw : Int} {ts : List (List Rule)} {j : Nat} {add : Bool} {r : Rule} {os : List Op} (h : (j : Int) + 1 ≤ sw) (h2 : (doT (ts.getD j []) add r).2 = 0) : applyGo sw ts (⟨(j : Int) + 1, add, r⟩ :: os) = applyGo sw (ts.set j (doT (ts.getD j []) add r).1) os := by
  rw [applyGo, if_neg (by simp only []; omega)]
  simp only [show ((j : Int) + 1 - 1).toNat = j by omega]
  rw [if_neg (by simpa using h2)]

set_option maxRecDepth 100000 in
set_option maxHeartbeats 3200000 in
theorem apply_any (n : Net) (ops : List Op) (vl vh vt v : Value) (w : World) (hr : RdNet w n vl vh vt) (hv : RdL TOp w ops v) :
    Calls Tryd.prog 5 #[.agg #[i64 n.topo.switches, vl, vh, vt], v] w fun e w' => ∃ vl' vh' vt', e = .returned (.tuple #[.agg #[i64 (applyN n ops).1.topo.switches, vl', vh', vt'], errV (applyN n ops).2]) ∧ RelNet w' w.heap.size (applyN n ops).1 vl' vh' vt' ∧ Ext w w' := by
  obtain ⟨A, c, rfl, hn, hc, _⟩ := hv.form
  unfold maxLen at hc
  have hbt := boxNet_cells w n.topo.switches vl vh vt
  have hbf : ∀ w', Ext (boxNet w n.topo.switches vl vh vt) w' → ∀ j, w'.frozen? ⟨w.heap.size, j, none⟩ = false := fun w' h j => box_free h j
  have hr0 := net_cells (w := boxNet2 w n.topo.switches vl vh vt) (b := w.heap.size + 1) (by have := heap_alloc_new (boxNet w n.topo.switches vl vh vt) (.cells #[i64 0, .slice none 0 0, .slice none 0 0, .slice none 0 0] 37); simpa using this)
  have hbd : ∀ w' : World, (Instr.build 37 #[]).run Tryd.prog w' = .ok zeroNet w' := fun w' => by kernel_rfl
  have HR := Lib.hid fun w' (h : Ext (boxNet2 w n.topo.switches vl vh vt) w') => hr.ext h.of_box.of_box
  clear hr
  by_cases hne : netErr n = 0
  · have HN := Lib.hid hne
    have HO := Lib.hid (netOk_of hne)
    clear hne
    by_cases h200 : 200 < ops.length
    · have HE := Lib.hid (show applyN n ops = (noNet, 4) by rw [applyN, if_neg (by simpa using HN.out), if_pos h200])
      go_enter Tryd.func5, Tryd.ntmps5
      go_wp2_with (go_at_call 15; refine (ncheck_any n _ _ _ _ (HR.out _ (by repeat first | assumption | exact ext_refl _ | apply ext_alloc | apply ext_drewN | apply ext_drew))).mono ?_; rintro e w1 ⟨rfl, hE⟩; have hX : Ext (boxNet2 w n.topo.switches vl vh vt) w1 := Ext.trans (by repeat first | assumption | exact ext_refl _ | apply ext_alloc | apply ext_drewN | apply ext_drew) hE; rw [HN.out, errV_zero])
      rw [HE.out]
      refine bodyPost_ret (v := .tuple #[zeroNet, errV 4]) (by simp [results, Tryd.results5, go_sem, hr0, hX, errV]) rfl ⟨_, _, _, rfl, rdNet_none _ _, ?_⟩
      refine ext_set (ext_set (ext_set (ext_set hX.of_box.of_box _ ?_ _) _ ?_ _) _ ?_ _) _ ?_ _ <;> simp
    · have HE := Lib.hid (show applyN n ops = if (applyGo n.topo.switches n.tables ops).2 ≠ 0 then (noNet, (applyGo n.topo.switches n.tables ops).2) else (⟨n.topo, (applyGo n.topo.switches n.tables ops).1⟩, 0) by rw [applyN, if_neg (by simpa using HN.out), if_neg h200])
      have h201 : (ops.length : Int) ≤ 200 := by omega
      clear h200
      have hsw1 := HO.out.s1
      have hsw2 := HO.out.s2
      have HMN := Lib.hid HO.out.many
      go_enter Tryd.func5, Tryd.ntmps5
      go_wp2_with (first
        | (go_at_call 15; refine (ncheck_any n _ _ _ _ (HR.out _ (by repeat first | assumption | exact ext_refl _ | apply ext_alloc | apply ext_drewN | apply ext_drew))).mono ?_; rintro e w1 ⟨rfl, hE⟩; have hX : Ext (boxNet2 w n.topo.switches vl vh vt) w1 := Ext.trans (by repeat first | assumption | exact ext_refl _ | apply ext_alloc | apply ext_drewN | apply ext_drew) hE; have hY := hX.of_box; rw [HN.out, errV_zero])
        | (go_at_call 16; refine (own_any n _ _ _ _ (HR.out _ (by repeat first | assumption | exact ext_refl _ | apply ext_alloc | apply ext_drewN | apply ext_drew)) HO.out.links HO.out.hosts HO.out.len HO.out.rows).mono ?_; rintro e w2 ⟨v1, v2, g, rfl, hg, hl, hh, hot, hE⟩; have hX2 : Ext (boxNet2 w n.topo.switches vl vh vt) w2 := Ext.trans (by repeat first | assumption | exact ext_refl _ | apply ext_alloc | apply ext_drewN | apply ext_drew) hE; have hY2 := hX2.of_box; obtain ⟨A1, c1, rfl⟩ := slice_val hl; obtain ⟨A2, c2, rfl⟩ := slice_val hh))
      have hsz : w.heap.size + 2 ≤ w1.heap.size := by have := hX.size; simpa using this
      have hmid := applyMid_start hX2 (Nat.le_trans hsz hg) (TLink.slice.ext hl (fun _ _ _ => rfl) hsz (Nat.le_refl _)) (THost.slice.ext hh (fun _ _ _ => rfl) hsz (Nat.le_refl _)) hot
      have HMID := Lib.hid hmid
      clear hmid hl hh hot hbt hbf hr0
      go_loopw [26] (fun i wr => ∃ (k : Nat) (ts : List (List Rule)), k ≤ ops.length ∧ i = .int .i64 k ∧ ApplyMid w n (.slice A1 n.topo.links.length c1) (.slice A2 n.topo.hosts.length c2) g ts wr ∧ applyGo n.topo.switches n.tables ops = applyGo n.topo.switches ts (ops.drop k)) (fun i _ => ops.length - (intOf i).toNat)
      case atStart => exact ⟨0, _, Nat.zero_le _, rfl, HMID.out, rfl⟩
      case round =>
        obtain ⟨k, ts, hk, rfl, hm, hgo⟩ := hrel
        have HG := Lib.hid hgo
        have HM := Lib.hid hm
        clear hgo hm
        have hb1 := net_cells HM.out.2.2.1
        have hb2 := net_cells HM.out.2.2.2.1
        by_cases hlt : k < ops.length
        · obtain ⟨b, off, rfl, hb, hrow⟩ := hv.at_ hlt
          obtain ⟨cs, hr, hrel⟩ := hrow k _ (List.getElem?_eq_getElem hlt)
          obtain ⟨rfl, _⟩ : cs = Op.cells ops[k] ∧ _ := hrel
          have HRA := Lib.hid (rangeAt_block hr (HM.out.1.block hb) : wr.rangeAt b (off + k * 8) _)
          have HD := Lib.hid (List.drop_eq_getElem_cons hlt)
          clear hr hrow
          generalize ops[k] = o at HRA HD
          obtain ⟨osw, oadd, orule⟩ := o
          have hbo := boxOp_cells wr ⟨osw, oadd, orule⟩
          by_cases hin : osw < 1 ∨ n.topo.switches < osw
          · have HQ : Hid (applyN n ops = (noNet, 1)) := by
              show _ = _
              rw [HE.out, HG.out, HD.out, applyGo_1 hin]; rfl
            have hz := hb2 (boxOp wr ⟨osw, oadd, orule⟩) (ext_alloc (ext_refl wr) _)
            rcases hin with hin | hin
            all_goals
              go_wp2_with (refine wpList_load_mid rfl 43 _ rfl b _ rfl _ _ HRA.out Tryd.underlying43 rfl (by kernel_rfl) ?_; unfold Op.cells)
              rw [HQ.out]
              refine bodyPost_ret (v := .tuple #[zeroNet, errV 1]) (by simp [results, Tryd.results5, go_sem, hz, errV]) rfl ⟨_, _, _, rfl, rdNet_none _ _, ?_⟩
              refine ext_set (ext_set (ext_set (ext_set (ext_alloc HM.out.1 _) _ ?_ _) _ ?_ _) _ ?_ _) _ ?_ _ <;> simp
          · obtain ⟨j, rfl⟩ : ∃ j : Nat, osw = (j : Int) + 1 := ⟨(osw - 1).toNat, by omega⟩
            have hj1 : (j : Int) + 1 ≤ n.topo.switches := by omega
            have hjn : j < n.tables.length := by have := HMN.out; omega
            have hjt : j < ts.length := by rw [HM.out.2.2.2.2.2.2.2]; exact hjn
            have hj0 : (0 : Int) ≤ (j : Int) := by omega
            have hj2 : (j : Int) < (n.tables.length : Int) := by omega
            clear hin
            obtain ⟨vj, hcj, _, hrdj⟩ := OwnTabs.at_ HM.out.2.2.2.2.2.2.1 hjt
            generalize hgd : ts.getD j [] = tj at hrdj
            have HGD := Lib.hid hgd
            clear hgd
            have hgl := HM.out.2.2.2.2.2.2.1.lt
            have hcell : ∀ w', Ext wr w' → w'.cell? ⟨g, j, none⟩ = some vj := fun w' e => (World.cell?_of_block (e.block hgl)).trans hcj
            have HRD := Lib.hid hrdj
            have HGL := Lib.hid hgl
            clear hcj hrdj hgl
            go_wp2_with (refine wpList_load_mid rfl 43 _ rfl b _ rfl _ _ HRA.out Tryd.underlying43 rfl (by kernel_rfl) ?_; unfold Op.cells)
            have hb1' : ∀ w', Ext (boxOp wr ⟨(j : Int) + 1, oadd, orule⟩) w' → w'.cell? ⟨w.heap.size, 3, none⟩ = some (.slice (some ⟨g, 0, none⟩) n.tables.length n.tables.length) := fun w' e => (hb1 w' e.of_box).1.2.2.2
            have hcell' : ∀ w', Ext (boxOp wr ⟨(j : Int) + 1, oadd, orule⟩) w' → w'.cell? ⟨g, j, none⟩ = some vj := fun w' e => hcell w' e.of_box
            have hwr1 : IntKind.i64.wrap ((j : Int) + 1 - 1) = (j : Int) := (IntWalk.i64_in _ (by omega)).trans (by omega)
            have hwr2 : IntKind.i64.wrap (j : Int) = (j : Int) := IntWalk.i64_in _ (by omega)
            go_region_held3 (fun w' => Ext (boxOp wr ⟨(j : Int) + 1, oadd, orule⟩) w') (first | assumption | (repeat first | assumption | exact ext_refl _ | apply ext_alloc | apply ext_drewN | apply ext_drew))
              ((go_at_call 17; refine (do_any tj vj oadd orule _ (HRD.out.ext (Ext.of_box (show Ext (boxOp wr ⟨(j : Int) + 1, oadd, orule⟩) _ from (by repeat first | assumption | exact ext_refl _ | apply ext_drewN | apply ext_drew))))).mono ?_; rintro e w3 ⟨v3, rfl, hown3, hE3⟩; have hX3 : Ext (boxOp wr ⟨(j : Int) + 1, oadd, orule⟩) w3 := Ext.trans (by repeat first | assumption | exact ext_refl _ | apply ext_drewN | apply ext_drew) hE3; obtain ⟨A3, c3, rfl⟩ := own_slice hown3))
            have hY3 := hX3.of_box
            have HM3 := Lib.hid (HM.out.ext hY3)
            have hb3 := net_cells HM3.out.2.2.2.1
            have hb4 := net_cells HM3.out.2.2.1
            obtain ⟨u3, hc3, hf3, _⟩ := OwnTabs.at_ HM3.out.2.2.2.2.2.2.1 hjt
            go_wp2
            · have HQ : Hid (applyN n ops = (noNet, (doT tj oadd orule).2)) := by
                show _ = _
                have h := nz_of ‹(!decide ((doT tj oadd orule).2 = 0)) = true›
                rw [HE.out, HG.out, HD.out, applyGo_e hj1 (by rw [HGD.out]; exact h), HGD.out, if_pos (by simpa using h)]
              rw [HQ.out]
              refine bodyPost_ret (v := .tuple #[zeroNet, errV (doT tj oadd orule).2]) (by simp [results, Tryd.results5, go_sem, hb3]) rfl ⟨_, _, _, rfl, rdNet_none _ _, ?_⟩
              refine ext_set (ext_set (ext_set (ext_set (hY3.trans' HM.out.1) _ ?_ _) _ ?_ _) _ ?_ _) _ ?_ _ <;> simp
            · have hd0 := z_of ‹(!decide ((doT tj oadd orule).2 = 0)) = false›
              have hrel : TRule.slice.rel w3 (g + 1) w3.heap.size (doT tj oadd orule).1 [.slice A3 (doT tj oadd orule).1.length c3] := TRule.slice.ext (rel_of_own hown3 (fun _ _ => trivial) : TRule.slice.rel w3 _ _ _ _) (fun _ _ _ => rfl) (by have := HGL.out; simp; omega) (Nat.le_refl _)
              go_roundw
              case rel => exact ⟨k + 1, ts.set j (doT tj oadd orule).1, by omega, by go_num, HM3.out.put hjt hrel, by rw [HG.out, HD.out, applyGo_n hj1 (by rw [HGD.out]; exact hd0), HGD.out]⟩
              case measure => simp [intOf]; omega
        · have hke : k = ops.length := by omega
          have hgo := HG.out
          rw [hke, List.drop_length, applyGo] at hgo
          have HQ := Lib.hid (show applyN n ops = (⟨n.topo, ts⟩, 0) by rw [HE.out, hgo]; rfl)
          clear hgo hke
          have hb3 := hb2 wr (ext_refl wr)
          go_wp2
          rw [HQ.out]
          have hmid := HM.out
          obtain ⟨h1, h2, h3, h4, h5, h6, h7, h8⟩ := hmid
          refine bodyPost_ret (v := .tuple #[.agg #[i64 n.topo.switches, .slice A1 n.topo.links.length c1, .slice A2 n.topo.hosts.length c2, .slice (some ⟨g, 0, none⟩) n.tables.length n.tables.length], errV 0]) (by simp [results, Tryd.results5, go_sem, hb3, errV]) rfl ⟨_, _, _, rfl, ⟨?_, ?_, ?_⟩, ?_⟩
          · have hl := TLink.slice.ext (lo := w.heap.size + 2) (rel_set (rel_set (rel_set (rel_set h5 (p := ⟨w.heap.size + 1, 0, none⟩) (by simp) (i64 n.topo.switches)) (p := ⟨w.heap.size + 1, 1, none⟩) (by simp) (.slice A1 n.topo.links.length c1)) (p := ⟨w.heap.size + 1, 2, none⟩) (by simp) (.slice A2 n.topo.hosts.length c2)) (p := ⟨w.heap.size + 1, 3, none⟩) (by simp) (.slice (some ⟨g, 0, none⟩) n.tables.length n.tables.length)) (fun _ _ _ => rfl) (Nat.le_refl _) (Nat.le_refl _)
            exact TLink.slice.ext hl (fun _ _ _ => rfl) (by omega) (by have := h7.lt; simp [World.setCell]; omega)
          · have hl := THost.slice.ext (lo := w.heap.size + 2) (rel_set (rel_set (rel_set (rel_set h6 (p := ⟨w.heap.size + 1, 0, none⟩) (by simp) (i64 n.topo.switches)) (p := ⟨w.heap.size + 1, 1, none⟩) (by simp) (.slice A1 n.topo.links.length c1)) (p := ⟨w.heap.size + 1, 2, none⟩) (by simp) (.slice A2 n.topo.hosts.length c2)) (p := ⟨w.heap.size + 1, 3, none⟩) (by simp) (.slice (some ⟨g, 0, none⟩) n.tables.length n.tables.length)) (fun _ _ _ => rfl) (Nat.le_refl _) (Nat.le_refl _)
            exact THost.slice.ext hl (fun _ _ _ => rfl) (by omega) (by have := h7.lt; simp [World.setCell]; omega)
          · have ho : OwnTabs ((((wr.setCell ⟨w.heap.size + 1, 0, none⟩ (i64 n.topo.switches)).setCell ⟨w.heap.size + 1, 1, none⟩ (.slice A1 n.topo.links.length c1)).setCell ⟨w.heap.size + 1, 2, none⟩ (.slice A2 n.topo.hosts.length c2)).setCell ⟨w.heap.size + 1, 3, none⟩ (.slice (some ⟨g, 0, none⟩) n.tables.length n.tables.length)) g ts := by
              refine OwnTabs.set (OwnTabs.set (OwnTabs.set (OwnTabs.set h7 ?_ _) ?_ _) ?_ _) ?_ _ <;> simp <;> omega
            have := ho.rel (lo := w.heap.size) (by rw [h8]; have := HO.out.len; unfold maxLen; omega) (by omega)
            rw [h8] at this
            exact this
          · refine ext_set (ext_set (ext_set (ext_set h1 _ ?_ _) _ ?_ _) _ ?_ _) _ ?_ _ <;> simp
  · have HE := Lib.hid (show applyN n ops = (noNet, netErr n) by rw [applyN, if_pos hne])
    go_enter Tryd.func5, Tryd.ntmps5
    go_wp2_with (go_at_call 15; refine (ncheck_any n _ _ _ _ (HR.out _ (by repeat first | assumption | exact ext_refl _ | apply ext_alloc | apply ext_drewN | apply ext_drew))).mono ?_; rintro e w1 ⟨rfl, hE⟩; have hX : Ext (boxNet2 w n.topo.switches vl vh vt) w1 := Ext.trans (by repeat first | assumption | exact ext_refl _ | apply ext_alloc | apply ext_drewN | apply ext_drew) hE)
    rw [HE.out]
    refine bodyPost_ret (v := .tuple #[zeroNet, errV (netErr n)]) (by simp [results, Tryd.results5, go_sem, hr0, hX]) rfl ⟨_, _, _, rfl, rdNet_none _ _, ?_⟩
    refine ext_set (ext_set (ext_set (ext_set hX.of_box.of_box _ ?_ _) _ ?_ _) _ ?_ _) _ ?_ _ <;> simp
end Go.Proofs.YthimhcbjboffcaaDoor
