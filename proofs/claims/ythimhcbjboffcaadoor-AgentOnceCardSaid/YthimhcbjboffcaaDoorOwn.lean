/- Walk: a copy of a net. -/
import Derived.Test.YthimhcbjboffcaaDoorNet1
import Derived.Test.YthimhcbjboffcaaDoorClone
import Derived.Laws.MakeOwn
import Derived.Deep.DeepCutAuto
namespace Go.Proofs.YthimhcbjboffcaaDoor
open Go Go.RowKit
theorem run_make_rowN {P : Program} (t e : TypeId) (i : TypeInfo) (z : Value) (ht : P.underlying t = some (.slice e)) (hi : P.info? e = some i) (hz : i.zero = some z)
    (kl kc : IntKind) (n c : Nat) (hnc : n ≤ c) (hbytes : i.bytes * c ≤ 281474976710656) (h63 : c ≤ 9223372036854775807) (w : World) :
    (Instr.makeSlice t (.int kl (n : Int)) (.int kc (c : Int))).run P w = .ok (.slice (some ⟨w.heap.size, 0, none⟩) n c) (w.alloc (.cells (madeCells z.cells (c * i.size)) e)) := by
  have hb : (i.bytes : Int) * (c : Int) ≤ 281474976710656 := by
    have h : ((i.bytes * c : Nat) : Int) ≤ 281474976710656 := by omega
    rwa [Int.natCast_mul] at h
  have hr := run_make (P := P) w t e i z ht hi hz kl kc n c (by omega) (by omega) hb (by omega)
  simp only [Int.toNat_natCast] at hr
  exact hr
/-- Block g is a row of tables, of the call's own; what they hold lies behind it. -/
def OwnTabs (w : World) (g : Nat) (ts : List (List Rule)) : Prop :=
  ∃ cs : Array Value, w.heap[g]? = some (.cells cs 23 (0, 0)) ∧ cs.size = ts.length ∧ ∀ (k : Nat) t, ts[k]? = some t → ∃ v, cs[k]? = some v ∧ TRule.slice.rel w (g + 1) w.heap.size t [v]
/-- So far. -/
def TabsTo (w : World) (g n k : Nat) (ts : List (List Rule)) : Prop :=
  ∃ cs : Array Value, w.heap[g]? = some (.cells cs 23 (0, 0)) ∧ cs.size = n ∧ ∀ (j : Nat) t, j < k → ts[j]? = some t → ∃ v, cs[j]? = some v ∧ TRule.slice.rel w (g + 1) w.heap.size t [v]
theorem rel_ext {α : Type} {T : Ty α} {w w' : World} {lo hi : Nat} {a : α} {cs : List Value} (h : T.rel w lo hi a cs) (hE : Ext w w') (hhi : hi ≤ w.heap.size) : T.rel w' lo w'.heap.size a cs :=
  T.ext h (fun _ _ hb => hE.block (Nat.lt_of_lt_of_le hb hhi)) (Nat.le_refl _) (Nat.le_trans hhi hE.size)
theorem TabsTo.ext {w w' : World} {g n k : Nat} {ts : List (List Rule)} (h : TabsTo w g n k ts) (hE : Ext w w') : TabsTo w' g n k ts := by
  obtain ⟨cs, hg, hs, hk⟩ := h
  refine ⟨cs, (hE.block (Array.getElem?_eq_some_iff.1 hg).1).trans hg, hs, fun j t hj ht => ?_⟩
  obtain ⟨v, hv, hr⟩ := hk j t hj ht
  exact ⟨v, hv, rel_ext hr hE (Nat.le_refl _)⟩
theorem TabsTo.set {w : World} {g n k : Nat} {ts : List (List Rule)} {t : List Rule} {v : Value} (h : TabsTo w g n k ts) (hk : k < n) (ht : ts[k]? = some t) (hr : TRule.slice.rel w (g + 1) w.heap.size t [v]) : TabsTo (w.setCell ⟨g, k, none⟩ v) g n (k + 1) ts := by
  obtain ⟨cs, hg, hs, hj⟩ := h
  have hext : ∀ {t : List Rule} {v : Value}, TRule.slice.rel w (g + 1) w.heap.size t [v] → ∀ u, TRule.slice.rel (w.setCell ⟨g, k, none⟩ u) (g + 1) (w.setCell ⟨g, k, none⟩ u).heap.size t [v] := fun hr u =>
    TRule.slice.ext hr (fun b hb _ => Below.heap_setCell w ⟨g, k, none⟩ u b (by simp; omega)) (Nat.le_refl _) (by simp [World.setCell])
  refine ⟨cs.setIfInBounds k v, heap_setCell_same w g k cs _ v hg, by simpa using hs, fun j t' hjk ht' => ?_⟩
  by_cases e : j = k
  · subst e
    rw [ht] at ht'; cases ht'
    exact ⟨v, by simp [hs, hk], hext hr v⟩
  · obtain ⟨u, hu, hru⟩ := hj j t' (by omega) ht'
    exact ⟨u, by simp [Ne.symm e, hu], hext hru v⟩
theorem TabsTo.done {w : World} {g : Nat} {ts : List (List Rule)} (h : TabsTo w g ts.length ts.length ts) : OwnTabs w g ts := by
  obtain ⟨cs, hg, hs, hk⟩ := h
  exact ⟨cs, hg, hs, fun k t ht => hk k t (List.getElem?_eq_some_iff.1 ht).1 ht⟩
theorem TabsTo.new {w : World} (n : Nat) (ts : List (List Rule)) : TabsTo (w.alloc (.cells (madeCells #[.slice none 0 0] n) 23)) w.heap.size n 0 ts :=
  ⟨_, heap_alloc_new w _, by simp [madeCells], fun j t hj _ => by omega⟩
theorem TabsTo.cellAt {w : World} {g n k j : Nat} {ts : List (List Rule)} (h : TabsTo w g n k ts) (hj : j < n) : ∃ u, w.cell? ⟨g, j, none⟩ = some u ∧ w.frozen? ⟨g, j, none⟩ = false := by
  obtain ⟨cs, hg, hs, _⟩ := h
  exact ⟨cs[j], by rw [cell_of_row w g j cs _ _ hg]; simp, frozen_of_row w g j cs _ hg⟩
theorem TabsTo.lt {w : World} {g n k : Nat} {ts : List (List Rule)} (h : TabsTo w g n k ts) : g < w.heap.size := by
  obtain ⟨cs, hg, _⟩ := h; exact (Array.getElem?_eq_some_iff.1 hg).1
theorem own_slice {w : World} {base : Nat} {e : TypeId} {s n : Nat} {v : Value} {xs : List Value} (h : w.ownsRow base e s v n xs) : ∃ A c, v = .slice A n c := by
  rcases h.2 with ⟨rfl, rfl⟩ | ⟨g, cap, cur, rfl, _⟩
  · exact ⟨none, 0, rfl⟩
  · exact ⟨_, _, rfl⟩
/-- Clone: a row of the call's own. -/
theorem clone_link (xs : List Link) (v : Value) (w : World) (hv : RdL TLink w xs v) (hb : xs.length * 32 ≤ 140737488355328) :
    Calls Tryd.prog 30 #[v] w fun e w' => ∃ v', e = .returned v' ∧ w'.ownsRow w.heap.size 90 4 v' xs.length (xs.flatMap Link.cells) ∧ Ext w w' := by
  obtain ⟨A, c, rfl, hn, hc, h3⟩ := hv.form
  obtain ⟨i0, hi, hz0, hz1, hz2⟩ := info_of info_link
  have hnil := fun w' a l c' => Lib.run_eql_slice_nil (P := Tryd.prog) w' 31 90 a l c' 0 0 Tryd.underlying31
  have hmk : ∀ w', (Instr.buildSlice 31 0 #[]).run Tryd.prog w' = .ok (.slice (some ⟨w'.heap.size, 0, none⟩) 0 0) (w'.alloc (.cells #[] 90)) := fun w' => by kernel_rfl
  cases A with
  | none =>
    have hx : xs = [] := by
      rcases xs with _ | ⟨a, l⟩
      · rfl
      · obtain ⟨b, off, h, _⟩ := h3 (by simp)
        cases h
    subst hx
    go_enter Tryd.func30, Tryd.ntmps30
    go_wp2
    go_ret
    exact ⟨_, rfl, World.ownsRow_nil _ _ _ _, ext_refl _⟩
  | some ad =>
    have HS := Lib.hid fun o => (hv.ext (ext_alloc (ext_refl w) o)).src.2
    have HB := Lib.hid (by rw [Nat.zero_add]; exact hb : (0 + xs.length) * 32 ≤ 140737488355328)
    have HC := Lib.hid (by omega : 0 + xs.length ≤ maxLen)
    clear hv h3 hb hc
    go_enter Tryd.func30, Tryd.ntmps30
    go_wp2_with (at_builtin; refine wpList_append_src _ rfl (.tmp 5) (.tmp 6) _ rfl w.heap.size 90 i0 _ 4 32 Tryd.underlying31 hi hz0 hz1 hz2 rfl (Nat.zero_lt_succ _) _ 0 [] rfl (own_empty w _ _) _ xs.length c _ rfl (HS.out _) (one_all one_link) HC.out HB.out (le_alloc _ _) ?_; intro v' w1 hown hgr _; have hX := own_ext (W := w) (ext_alloc (ext_refl w) _) (own_empty w 90 4) hgr (Nat.le_refl _); rw [Nat.zero_add, List.nil_append] at hown)
    go_ret
    exact ⟨_, rfl, hown, hX⟩

/-- Clone: a row of the call's own. -/
theorem clone_host (xs : List Host) (v : Value) (w : World) (hv : RdL THost w xs v) (hb : xs.length * 32 ≤ 140737488355328) :
    Calls Tryd.prog 31 #[v] w fun e w' => ∃ v', e = .returned v' ∧ w'.ownsRow w.heap.size 93 3 v' xs.length (xs.flatMap Host.cells) ∧ Ext w w' := by
  obtain ⟨A, c, rfl, hn, hc, h3⟩ := hv.form
  obtain ⟨i0, hi, hz0, hz1, hz2⟩ := info_of info_host
  have hnil := fun w' a l c' => Lib.run_eql_slice_nil (P := Tryd.prog) w' 32 93 a l c' 0 0 Tryd.underlying32
  have hmk : ∀ w', (Instr.buildSlice 32 0 #[]).run Tryd.prog w' = .ok (.slice (some ⟨w'.heap.size, 0, none⟩) 0 0) (w'.alloc (.cells #[] 93)) := fun w' => by kernel_rfl
  cases A with
  | none =>
    have hx : xs = [] := by
      rcases xs with _ | ⟨a, l⟩
      · rfl
      · obtain ⟨b, off, h, _⟩ := h3 (by simp)
        cases h
    subst hx
    go_enter Tryd.func31, Tryd.ntmps31
    go_wp2
    go_ret
    exact ⟨_, rfl, World.ownsRow_nil _ _ _ _, ext_refl _⟩
  | some ad =>
    have HS := Lib.hid fun o => (hv.ext (ext_alloc (ext_refl w) o)).src.2
    have HB := Lib.hid (by rw [Nat.zero_add]; exact hb : (0 + xs.length) * 32 ≤ 140737488355328)
    have HC := Lib.hid (by omega : 0 + xs.length ≤ maxLen)
    clear hv h3 hb hc
    go_enter Tryd.func31, Tryd.ntmps31
    go_wp2_with (at_builtin; refine wpList_append_src _ rfl (.tmp 5) (.tmp 6) _ rfl w.heap.size 93 i0 _ 3 32 Tryd.underlying32 hi hz0 hz1 hz2 rfl (Nat.zero_lt_succ _) _ 0 [] rfl (own_empty w _ _) _ xs.length c _ rfl (HS.out _) (one_all one_host) HC.out HB.out (le_alloc _ _) ?_; intro v' w1 hown hgr _; have hX := own_ext (W := w) (ext_alloc (ext_refl w) _) (own_empty w 93 3) hgr (Nat.le_refl _); rw [Nat.zero_add, List.nil_append] at hown)
    go_ret
    exact ⟨_, rfl, hown, hX⟩

theorem info_table : (Tryd.prog.info? 23).map (fun i => (i.zero, i.size, i.bytes)) = some (some (.slice none 0 0), 1, 24) := by kernel_rfl

theorem rel_set {α : Type} {T : Ty α} {w : World} {lo hi : Nat} {a : α} {cs : List Value} (h : T.rel w lo hi a cs) {p : Addr} (hp : p.block < lo) (u : Value) : T.rel (w.setCell p u) lo hi a cs :=
  T.ext h (fun b hb _ => Below.heap_setCell w p u b (by omega)) (Nat.le_refl _) (Nat.le_refl _)
theorem OwnTabs.set {w : World} {g : Nat} {ts : List (List Rule)} (h : OwnTabs w g ts) {p : Addr} (hp : p.block < g) (u : Value) : OwnTabs (w.setCell p u) g ts := by
  obtain ⟨cs, hg, hs, hk⟩ := h
  refine ⟨cs, (Below.heap_setCell w p u g (by omega)).trans hg, hs, fun k t ht => ?_⟩
  obtain ⟨v, hv, hr⟩ := hk k t ht
  exact ⟨v, hv, by have := rel_set hr (p := p) (by omega) u; simpa [World.setCell] using this⟩
/-- Behind the copies of links and hosts. -/
def OwnMid (w : World) (n : Net) (vt : Value) (wx : World) : Prop := ∃ A1 c1 A2 c2, Ext w wx ∧ TLink.slice.rel wx (w.heap.size + 2) wx.heap.size n.topo.links [.slice A1 n.topo.links.length c1] ∧ THost.slice.rel wx (w.heap.size + 2) wx.heap.size n.topo.hosts [.slice A2 n.topo.hosts.length c2] ∧
  wx.heap[w.heap.size]? = some (.cells #[i64 n.topo.switches, .slice A1 n.topo.links.length c1, .slice A2 n.topo.hosts.length c2, vt] 37 (0, 0)) ∧ wx.heap[w.heap.size + 1]? = some (.cells #[i64 0, .slice none 0 0, .slice none 0 0, .slice none 0 0] 37 (0, 0))
abbrev boxNet2 (w : World) (sw : Int) (vl vh vt : Value) : World := (boxNet w sw vl vh vt).alloc (.cells #[i64 0, .slice none 0 0, .slice none 0 0, .slice none 0 0] 37)
theorem ownMid_of {w w2 : World} {n : Net} {vl vh vt : Value} {A1 A2 : Option Addr} {c1 c2 : Nat} (hX : Ext (boxNet2 w n.topo.switches vl vh vt) w2)
    (h1 : TLink.slice.rel w2 (w.heap.size + 2) w2.heap.size n.topo.links [.slice A1 n.topo.links.length c1]) (h2 : THost.slice.rel w2 (w.heap.size + 2) w2.heap.size n.topo.hosts [.slice A2 n.topo.hosts.length c2]) :
    OwnMid w n vt ((w2.setCell ⟨w.heap.size, 1, none⟩ (.slice A1 n.topo.links.length c1)).setCell ⟨w.heap.size, 2, none⟩ (.slice A2 n.topo.hosts.length c2)) := by
  have e0 : w2.heap[w.heap.size]? = some (.cells #[i64 n.topo.switches, vl, vh, vt] 37 (0, 0)) := (hX.of_box.block (by simp)).trans (heap_alloc_new w _)
  have e1 := heap_setCell_same w2 w.heap.size 1 _ _ (.slice A1 n.topo.links.length c1) e0
  have e2 := heap_setCell_same _ w.heap.size 2 _ _ (.slice A2 n.topo.hosts.length c2) e1
  refine ⟨A1, c1, A2, c2, ext_set (ext_set hX.of_box.of_box _ (by simp) _) _ (by simp) _, ?_, ?_, e2, ?_⟩
  · have := rel_set (rel_set h1 (p := ⟨w.heap.size, 1, none⟩) (by simp) (.slice A1 n.topo.links.length c1)) (p := ⟨w.heap.size, 2, none⟩) (by simp) (.slice A2 n.topo.hosts.length c2)
    simpa [World.setCell] using this
  · have := rel_set (rel_set h2 (p := ⟨w.heap.size, 1, none⟩) (by simp) (.slice A1 n.topo.links.length c1)) (p := ⟨w.heap.size, 2, none⟩) (by simp) (.slice A2 n.topo.hosts.length c2)
    simpa [World.setCell] using this
  · rw [Below.heap_setCell _ _ _ _ (by simp), Below.heap_setCell _ _ _ _ (by simp)]
    refine (hX.block (by simp)).trans ?_
    have := heap_alloc_new (boxNet w n.topo.switches vl vh vt) (.cells #[i64 0, .slice none 0 0, .slice none 0 0, .slice none 0 0] 37)
    simpa using this

set_option maxRecDepth 100000 in
set_option maxHeartbeats 1600000 in
theorem own_any (n : Net) (vl vh vt : Value) (w : World) (hr : RdNet w n vl vh vt) (hL : n.topo.links.length ≤ 200) (hH : n.topo.hosts.length ≤ 8) (hT : n.tables.length ≤ 6) (hR : ∀ t ∈ n.tables, t.length ≤ 12) :
    Calls Tryd.prog 16 #[.agg #[i64 n.topo.switches, vl, vh, vt]] w fun e w' => ∃ vl' vh' g, e = .returned (.agg #[i64 n.topo.switches, vl', vh', .slice (some ⟨g, 0, none⟩) n.tables.length n.tables.length]) ∧ w.heap.size ≤ g ∧
      TLink.slice.rel w' w.heap.size g n.topo.links [vl'] ∧ THost.slice.rel w' w.heap.size g n.topo.hosts [vh'] ∧ OwnTabs w' g n.tables ∧ Ext w w' := by
  obtain ⟨ht, hv⟩ := hr
  obtain ⟨A, c, rfl, hn, hc, _⟩ := hv.form
  unfold maxLen at hc
  obtain ⟨Al, cl, rfl, _, _, _⟩ := ht.1.form
  obtain ⟨Ah, ch, rfl, _, _, _⟩ := ht.2.form
  have hbt := boxNet_cells w n.topo.switches (.slice Al n.topo.links.length cl) (.slice Ah n.topo.hosts.length ch) (.slice A n.tables.length c)
  have hbf : ∀ w', Ext (boxNet w n.topo.switches (.slice Al n.topo.links.length cl) (.slice Ah n.topo.hosts.length ch) (.slice A n.tables.length c)) w' → ∀ j, w'.frozen? ⟨w.heap.size, j, none⟩ = false := fun w' h j => box_free h j
  have HBL := Lib.hid (by omega : n.topo.links.length * 32 ≤ 140737488355328)
  have HBH := Lib.hid (by omega : n.topo.hosts.length * 32 ≤ 140737488355328)
  have HRR := Lib.hid hR
  have HTT := Lib.hid ht
  have HHO : Hid (∀ x ∈ n.topo.hosts, x.ok) := by
    show ∀ x ∈ n.topo.hosts, x.ok
    intro x hx
    obtain ⟨k, hk, rfl⟩ := List.getElem_of_mem hx
    obtain ⟨b, off, _, _, hrow⟩ := ht.2.at_ hk
    obtain ⟨cs, _, _, hok⟩ := hrow k _ (List.getElem?_eq_getElem hk)
    exact hok
  clear hR ht
  go_enter Tryd.func16, Tryd.ntmps16
  go_upto_region 1 with fail
  go_cut [] (fun wx => OwnMid w n (.slice A n.tables.length c) wx)
  case first =>
    go_region_with (first
      | (go_at_call 30; refine (clone_link n.topo.links _ _ (HTT.out.1.ext (Ext.of_box (Ext.of_box (show Ext (boxNet2 w n.topo.switches (.slice Al n.topo.links.length cl) (.slice Ah n.topo.hosts.length ch) (.slice A n.tables.length c)) _ from (by repeat first | assumption | exact ext_refl _ | apply ext_drewN | apply ext_drew))))) HBL.out).mono ?_; rintro e w1 ⟨v1, rfl, hown1, hE1⟩; obtain ⟨A1, c1, rfl⟩ := own_slice hown1; have hX1 : Ext (boxNet2 w n.topo.switches (.slice Al n.topo.links.length cl) (.slice Ah n.topo.hosts.length ch) (.slice A n.tables.length c)) w1 := Ext.trans (by repeat first | assumption | exact ext_refl _ | apply ext_drewN | apply ext_drew) hE1; have hY1 := hX1.of_box)
      | (go_at_call 31; refine (clone_host n.topo.hosts _ _ (HTT.out.2.ext (Ext.of_box (Ext.of_box (show Ext (boxNet2 w n.topo.switches (.slice Al n.topo.links.length cl) (.slice Ah n.topo.hosts.length ch) (.slice A n.tables.length c)) _ from (by repeat first | assumption | exact ext_refl _ | apply ext_drewN | apply ext_drew))))) HBH.out).mono ?_; rintro e w2 ⟨v2, rfl, hown2, hE2⟩; obtain ⟨A2, c2, rfl⟩ := own_slice hown2; have hX2 : Ext (boxNet2 w n.topo.switches (.slice Al n.topo.links.length cl) (.slice Ah n.topo.hosts.length ch) (.slice A n.tables.length c)) w2 := Ext.trans (by repeat first | assumption | exact ext_refl _ | apply ext_drewN | apply ext_drew) hE2; have hY2 := hX2.of_box))
    all_goals
      go_wp2_with fail
      go_meet
      have h1 := rel_ext (T := TLink.slice) (rel_of_own hown1 (fun _ _ => trivial)) hE2 (Nat.le_refl _)
      have h2 : THost.slice.rel w2 _ w2.heap.size _ _ := rel_of_own hown2 HHO.out
      have hs1 : w.heap.size + 2 ≤ w1.heap.size := by have := hX1.size; simpa using this
      exact ownMid_of hX2 (TLink.slice.ext h1 (fun _ _ _ => rfl) (by simp) (Nat.le_refl _)) (THost.slice.ext h2 (fun _ _ _ => rfl) (by omega) (Nat.le_refl _))
  case rest =>
    obtain ⟨A1, c1, A2, c2, hE, hl, hh, hb1, hb2⟩ := hcut
    have hlt1 : w.heap.size < wc.heap.size := (Array.getElem?_eq_some_iff.1 hb1).1
    have hlt2 : w.heap.size + 1 < wc.heap.size := (Array.getElem?_eq_some_iff.1 hb2).1
    have HL1 := Lib.hid hl
    have HH1 := Lib.hid hh
    have HB1 := Lib.hid hb1
    have HB2 := Lib.hid hb2
    have HE := Lib.hid hE
    have HLT := Lib.hid hlt2
    have hbx : ∀ w', Ext wc w' → w'.cell? ⟨w.heap.size, 0, none⟩ = some (i64 n.topo.switches) ∧ w'.cell? ⟨w.heap.size, 1, none⟩ = some (.slice A1 n.topo.links.length c1) ∧ w'.cell? ⟨w.heap.size, 2, none⟩ = some (.slice A2 n.topo.hosts.length c2) ∧ w'.cell? ⟨w.heap.size, 3, none⟩ = some (.slice A n.tables.length c) := fun w' h => by
      have e := (h.block hlt1).trans hb1
      exact ⟨cell_of_row w' _ 0 _ _ _ e, cell_of_row w' _ 1 _ _ _ e, cell_of_row w' _ 2 _ _ _ e, cell_of_row w' _ 3 _ _ _ e⟩
    have hbf1 : ∀ w', Ext wc w' → ∀ j, w'.frozen? ⟨w.heap.size, j, none⟩ = false := fun w' h j => frozen_of_row w' _ j _ _ ((h.block hlt1).trans hb1)
    have hrx : ∀ w', Ext wc w' → w'.cell? ⟨w.heap.size + 1, 0, none⟩ = some (i64 0) ∧ w'.cell? ⟨w.heap.size + 1, 1, none⟩ = some (.slice none 0 0) ∧ w'.cell? ⟨w.heap.size + 1, 2, none⟩ = some (.slice none 0 0) ∧ w'.cell? ⟨w.heap.size + 1, 3, none⟩ = some (.slice none 0 0) := fun w' h => by
      have e := (h.block hlt2).trans hb2
      exact ⟨cell_of_row w' _ 0 _ _ _ e, cell_of_row w' _ 1 _ _ _ e, cell_of_row w' _ 2 _ _ _ e, cell_of_row w' _ 3 _ _ _ e⟩
    have hrf : ∀ w', Ext wc w' → ∀ j, w'.frozen? ⟨w.heap.size + 1, j, none⟩ = false := fun w' h j => frozen_of_row w' _ j _ _ ((h.block hlt2).trans hb2)
    have hmk : ∀ W : World, (Instr.makeSlice 35 (.int .i64 (n.tables.length : Int)) (.int .i64 (n.tables.length : Int))).run Tryd.prog W = .ok (.slice (some ⟨W.heap.size, 0, none⟩) n.tables.length n.tables.length) (W.alloc (.cells (madeCells #[.slice none 0 0] n.tables.length) 23)) := fun W => by
      obtain ⟨i0, hi, hz0, hz1, hz2⟩ := info_of info_table
      have := run_make_rowN (P := Tryd.prog) 35 23 i0 _ Tryd.underlying35 hi hz0 .i64 .i64 n.tables.length n.tables.length (Nat.le_refl _) (by rw [hz2]; omega) (by omega) W
      rw [hz1, Nat.mul_one] at this
      exact this
    clear hl hh hb1 hb2 hE hlt1 hlt2 hbt hbf
    go_wp2_with fail
    go_loopw [25] (fun i wr => ∃ k : Nat, k ≤ n.tables.length ∧ i = .int .i64 k ∧ Ext wc wr ∧ TabsTo wr wc.heap.size n.tables.length k n.tables) (fun i _ => n.tables.length - (intOf i).toNat)
    case atStart => exact ⟨0, Nat.zero_le _, rfl, ext_alloc (ext_refl _) _, TabsTo.new _ _⟩
    case round =>
      obtain ⟨k, hk, rfl, hE0, htt⟩ := hrel
      have HTB := Lib.hid htt; clear htt
      by_cases hlt : k < n.tables.length
      · obtain ⟨b, off, rfl, hb, hrow⟩ := hv.at_ hlt
        obtain ⟨v, hcell, hrd⟩ := row_slice hrow rfl hlt
        have hck : wr.cell? ⟨b, off + k, none⟩ = some v := (World.cell?_of_block ((HE.out.trans hE0).block hb)).trans hcell
        have HRD := Lib.hid (hrd.ext (HE.out.trans hE0))
        have HB12 := Lib.hid (by have := HRR.out _ (List.getElem_mem hlt); omega : n.tables[k].length * 48 ≤ 140737488355328)
        have HTK := Lib.hid (List.getElem?_eq_getElem hlt)
        clear hrow hcell hrd
        generalize n.tables[k] = t at HRD HB12 HTK
        go_wp2_with (go_at_call 14; refine (clone_rule t _ _ HRD.out HB12.out).mono ?_; rintro e w2 ⟨v2, rfl, hown2, hE2⟩; obtain ⟨A3, c3, rfl⟩ := own_slice hown2; have hX2 := hE0.trans hE2; have HT2 := Lib.hid (HTB.out.ext hE2); obtain ⟨u, hu, hfz⟩ := HT2.out.cellAt hlt)
        have hrel : TRule.slice.rel w2 (wc.heap.size + 1) w2.heap.size t [.slice A3 t.length c3] := TRule.slice.ext (rel_of_own hown2 (fun _ _ => trivial) : TRule.slice.rel w2 _ _ _ _) (fun _ _ _ => rfl) HTB.out.lt (Nat.le_refl _)
        go_roundw
        case rel => exact ⟨k + 1, by omega, by go_num, ext_set hX2 _ (Nat.le_refl _) _, HT2.out.set hlt HTK.out hrel⟩
        case measure => simp [intOf]; omega
      · have hke : k = n.tables.length := by omega
        have HTD := HTB.out
        rw [hke] at HTD
        have HOT := Lib.hid HTD.done
        clear HTD HTB hke
        go_wp2
        have hg := HLT.out
        refine bodyPost_ret (v := .agg #[i64 n.topo.switches, .slice A1 n.topo.links.length c1, .slice A2 n.topo.hosts.length c2, .slice (some ⟨wc.heap.size, 0, none⟩) n.tables.length n.tables.length]) (by simp [results, Tryd.results16, go_sem, hrx, hE0]) rfl ⟨_, _, wc.heap.size, rfl, by omega, ?_, ?_, ?_, ?_⟩
        · refine TLink.slice.ext (lo := w.heap.size + 2) (rel_set (rel_set (rel_set (rel_set (rel_set (TLink.slice.ext HL1.out (fun b _ hb => hE0.block hb) (Nat.le_refl _) (Nat.le_refl _)) ?_ _) ?_ _) ?_ _) ?_ _) ?_ _) (fun _ _ _ => rfl) (by omega) (Nat.le_refl _) <;> simp
        · refine THost.slice.ext (lo := w.heap.size + 2) (rel_set (rel_set (rel_set (rel_set (rel_set (THost.slice.ext HH1.out (fun b _ hb => hE0.block hb) (Nat.le_refl _) (Nat.le_refl _)) ?_ _) ?_ _) ?_ _) ?_ _) ?_ _) (fun _ _ _ => rfl) (by omega) (Nat.le_refl _) <;> simp
        · refine OwnTabs.set (OwnTabs.set (OwnTabs.set (OwnTabs.set (OwnTabs.set HOT.out ?_ _) ?_ _) ?_ _) ?_ _) ?_ _ <;> simp <;> omega
        · refine ext_set (ext_set (ext_set (ext_set (ext_set (HE.out.trans hE0) _ ?_ _) _ ?_ _) _ ?_ _) _ ?_ _) _ ?_ _ <;> simp
end Go.Proofs.YthimhcbjboffcaaDoor
