/- Walk: what an agent tells: yes, Table, Heard, whole, Ready. -/
import Derived.Test.YthimhcbjboffcaaDoorAgent1
import Derived.WideLaws
namespace Go.Proofs.YthimhcbjboffcaaDoor
open Go Go.RowKit
theorem AgentAt.cell {w : World} {p : Nat} {a : Agt} {vt vd : Value} {cs : Array Value} (h : AgentAt w p a vt vd cs) (o : Nat) : w.cell? ⟨p, o, none⟩ = cs[o]? := by
  have := cell_of_row w p o cs _ _ h.blk; simpa using this
theorem AgentAt.free {w : World} {p : Nat} {a : Agt} {vt vd : Value} {cs : Array Value} (h : AgentAt w p a vt vd cs) (o : Nat) : w.frozen? ⟨p, o, none⟩ = false := frozen_of_row w p o cs _ h.blk
theorem AgentAt.lt {w : World} {p : Nat} {a : Agt} {vt vd : Value} {cs : Array Value} (h : AgentAt w p a vt vd cs) : p < w.heap.size := (Array.getElem?_eq_some_iff.1 h.blk).1
theorem AgentAt.top {w : World} {p : Nat} {a : Agt} {vt vd : Value} {cs : Array Value} (h : AgentAt w p a vt vd cs) : p + 20 < w.heap.size := by
  have hl : 19 < a.rounds.length := by rw [h.len]; omega
  exact (h.row 19 _ (List.getElem?_eq_getElem hl)).2.2.2.lt
theorem AgentAt.ext {w w' : World} {p : Nat} {a : Agt} {vt vd : Value} {cs : Array Value} (h : AgentAt w p a vt vd cs) (hE : Ext w w') : AgentAt w' p a vt vd cs where
  blk := (hE.block h.lt).trans h.blk
  size := h.size
  num := h.num
  tab := h.tab
  don := h.don
  toff := h.toff.off (Off.of_ext hE)
  own := by
    obtain ⟨n, h1, h2⟩ := h.own
    refine ⟨n, h1, ?_⟩
    rcases h2 with h2 | ⟨g, cap, cur, e, hg, hb, hr⟩
    · exact .inl h2
    · exact .inr ⟨g, cap, cur, e, hg, (hE.block (Array.getElem?_eq_some_iff.1 hb).1).trans hb, hr⟩
  len := h.len
  row := fun k r hr => by
    obtain ⟨h1, h2, h3, h4⟩ := h.row k r hr
    exact ⟨h1, h2, h3, h4.ext hE⟩
abbrev opVal (o : Op) : Value := .agg #[i64 o.switch, .bool o.add, i64 o.rule.prio, i64 o.rule.cube.mask, i64 o.rule.cube.bits, i64 o.rule.out, i64 o.rule.set, i64 o.rule.value]
abbrev msgVal (m : Msg) : Value := .agg #[i64 m.kind, i64 m.switch, i64 m.round, i64 m.index, i64 m.op.switch, .bool m.op.add, i64 m.op.rule.prio, i64 m.op.rule.cube.mask, i64 m.op.rule.cube.bits, i64 m.op.rule.out, i64 m.op.rule.set, i64 m.op.rule.value]
abbrev yesMsg (n i : Int) : Msg := ⟨3, n, i, 0, noOp⟩
def Rnd.has (r : Rnd) (i : Int) : Bool := (fnd i r.vals 0).isSome
def Rnd.get (r : Rnd) (i : Int) : Op := ((r.ops.find? fun p => decide (i = p.1)).map (·.2)).getD noOp
theorem fnd_vals (i : Int) : ∀ (l : List (Int × Op)) (k : Nat), ((fnd i (l.map fun p => (p.1, aggOf (Op.cells p.2))) k).map (·.2)).getD (opVal noOp) = opVal (((l.find? fun p => decide (i = p.1)).map (·.2)).getD noOp)
  | [], _ => rfl
  | q :: l, k => by
    rw [List.map_cons, fnd, List.find?_cons]
    by_cases e : i = q.1
    · simp [e, Op.cells]
    · simp only [if_neg e, decide_eq_false e]; exact fnd_vals i l (k + 1)
theorem ops_lookup {w : World} {g : Nat} {r : Rnd} (h : MapAt i64 w g r.vals) (i : Int) : (Instr.lookup 61 (.map (some g)) (i64 i) true).run Tryd.prog w = .ok (.tuple #[opVal (r.get i), .bool (r.has i)]) w := by
  rw [run_lookup_map_ok key_int Tryd.underlying61 (z := opVal noOp) (fun w => by kernel_rfl) h i, Rnd.get, ← fnd_vals i r.ops 0]; rfl
theorem ops_lookup1 {w : World} {g : Nat} {r : Rnd} (h : MapAt i64 w g r.vals) (i : Int) : (Instr.lookup 61 (.map (some g)) (i64 i) false).run Tryd.prog w = .ok (opVal (r.get i)) w := by
  rw [run_lookup_map key_int Tryd.underlying61 (z := opVal noOp) (fun w => by kernel_rfl) h i, Rnd.get, ← fnd_vals i r.ops 0]; rfl
theorem yes_any (p : Nat) (n i : Int) (w : World) (h : w.cell? ⟨p, 0, none⟩ = some (i64 n)) :
    Calls Tryd.prog 19 #[.pointer (some ⟨p, 0, none⟩), i64 i] w fun e w' => e = .returned (.slice (some ⟨w.heap.size, 0, none⟩) 1 1) ∧ w' = w.alloc (.cells (yesMsg n i).cells.toArray 50) := by
  go_enter Tryd.func19, Tryd.ntmps19
  go_wp2
  go_ret
  exact ⟨rfl, rfl⟩
theorem atable_any (p : Nat) (a : Agt) (vt vd : Value) (cs : Array Value) (w : World) (h : AgentAt w p a vt vd cs) (hl : a.table.length ≤ 12) :
    Calls Tryd.prog 9 #[.pointer (some ⟨p, 0, none⟩)] w fun e w' => ∃ v', e = .returned v' ∧ w'.ownsRow w.heap.size 41 6 v' a.table.length (a.table.flatMap Rule.cells) ∧ Ext w w' := by
  have h1 := (h.cell 1).trans h.tab
  go_enter Tryd.func9, Tryd.ntmps9
  go_wp2_with (go_at_call 14; refine (clone_rule a.table _ _ h.toff.rd (by omega)).mono ?_; rintro e w2 ⟨v2, rfl, hown, hX2⟩)
  go_ret
  exact ⟨_, rfl, hown, hX2⟩
set_option maxRecDepth 100000 in
theorem heard_any (p : Nat) (a : Agt) (vt vd : Value) (cs : Array Value) (w : World) (h : AgentAt w p a vt vd cs) (k : Nat) (r : Rnd) (hr : a.rounds[k]? = some r) :
    Calls Tryd.prog 10 #[.pointer (some ⟨p, 0, none⟩), i64 k] w fun e w' => e = .returned (i64 r.ops.length) ∧ w' = w := by
  have hk : k < 20 := by have := (List.getElem?_eq_some_iff.1 hr).1; rw [h.len] at this; exact this
  obtain ⟨h1, _, _, h4⟩ := h.row k r hr
  have hc := (h.cell (2 + k * 3)).trans h1
  obtain ⟨es, c, hg, he⟩ := h4
  have hsz : es.size = r.ops.length := by
    have := congrArg List.length he
    simpa [Rnd.vals] using this
  have hk2 : (k : Int) < 20 := by omega
  have hlm := run_len_map (P := Tryd.prog) (w := w) 61 3 (p + 1 + k) es c Tryd.underlying61 hg
  rw [hsz] at hlm
  have hk3 : IntKind.i64.wrap (k : Int) = (k : Int) := IntWalk.i64_in _ (by omega)
  go_enter Tryd.func10, Tryd.ntmps10
  go_wp2
  go_ret
  exact ⟨rfl, rfl⟩
def Rnd.whole (r : Rnd) : Bool := (List.range r.many.toNat).all (fun i => r.has i) && decide (0 ≤ r.many)
theorem whole_go {r : Rnd} {k : Nat} (hk : k < r.many.toNat) (h : ∀ j, j < k → r.has (j : Int) = true) (h2 : r.has (k : Int) = true) : ∀ j, j < k + 1 → r.has (j : Int) = true := fun j hj => by
  rcases Nat.lt_succ_iff_lt_or_eq.1 hj with h3 | rfl
  · exact h j h3
  · exact h2
theorem whole_no {r : Rnd} {k : Nat} (hk : k < r.many.toNat) (h2 : r.has (k : Int) = false) : r.whole = false := by
  unfold Rnd.whole
  rw [show (List.range r.many.toNat).all (fun i => r.has i) = false from by
    rw [List.all_eq_false]; exact ⟨k, by simpa using hk, by simpa using h2⟩]; rfl
theorem whole_yes {r : Rnd} (h : ∀ j, j < r.many.toNat → r.has (j : Int) = true) : r.whole = decide (0 ≤ r.many) := by
  unfold Rnd.whole
  rw [show (List.range r.many.toNat).all (fun i => r.has i) = true from by
    rw [List.all_eq_true]; intro i hi; exact h i (by simpa using hi)]; rfl
set_option maxRecDepth 100000 in
theorem whole_any (b g : Nat) (r : Rnd) (w : World) (hr : w.rangeAt b 0 (Rnd.cells g r)) (hm : MapAt i64 w g r.vals) (hb : b < w.heap.size) (hmn : r.many ≤ 1000000) :
    Calls Tryd.prog 22 #[.pointer (some ⟨b, 0, none⟩)] w fun e w' => e = .returned (.bool r.whole) ∧ Ext w w' := by
  have hc : ∀ w', Ext w w' → w'.cell? ⟨b, 0, none⟩ = some (.map (some g)) ∧ w'.cell? ⟨b, 1, none⟩ = some (i64 r.many) := fun w' h =>
    have hr' := rangeAt_block hr (h.block hb)
    ⟨hr' 0 _ rfl, hr' 1 _ rfl⟩
  have hc0 := hc w (ext_refl w)
  have HM := Lib.hid hm
  clear hm
  by_cases hneg : r.many ≤ 0
  · have hz : r.many.toNat = 0 := by omega
    have HW := Lib.hid (whole_yes (r := r) (by intro j hj; omega))
    clear hz
    go_enter Tryd.func22, Tryd.ntmps22
    go_wp2
    refine wp_loop_rounds 1 ?_
    rw [rounds_succ]
    go_wp2
    go_ret
    exact ⟨ret_bool (by rw [HW.out]), (by repeat first | assumption | exact ext_refl _ | apply ext_alloc | apply ext_drewN | apply ext_drew)⟩
  · obtain ⟨m, hm⟩ : ∃ m : Nat, r.many = m := ⟨r.many.toNat, by omega⟩
    have hmt : r.many.toNat = m := by omega
    have HMT := Lib.hid hmt
    rw [hm] at hc hc0 hmn
    have h0 : (0 : Int) ≤ (m : Int) := by omega
    have hmp : 0 < m := by omega
    have HMM := Lib.hid hm
    clear hneg hm hmt
    go_enter Tryd.func22, Tryd.ntmps22
    go_wp2
    go_loopw [11] (fun i wr => ∃ k : Nat, k ≤ m ∧ i = .int .i64 k ∧ Ext w wr ∧ ∀ j, j < k → r.has (j : Int) = true) (fun i _ => m - (intOf i).toNat)
    case atStart => exact ⟨0, Nat.zero_le _, rfl, ext_refl _, fun _ h => by omega⟩
    case round =>
      obtain ⟨k, hk, rfl, hE, hno⟩ := hrel
      have HN := Lib.hid hno; clear hno
      have hcr := (hc wr hE)
      have hlk := ops_lookup (HM.out.ext hE) (k : Int)
      by_cases hlt : k < m
      · have hlt2 : (k : Int) < (m : Int) := by omega
        cases hhas : r.has (k : Int)
        · have HH := Lib.hid hhas
          rw [hhas] at hlk
          clear hhas
          go_wp2
          go_ret
          exact ⟨ret_bool (whole_no (by rw [HMT.out]; exact hlt) HH.out).symm, ext_alloc hE _⟩
        · have HH := Lib.hid hhas
          rw [hhas] at hlk
          clear hhas
          go_wp2
          exact ⟨⟨k + 1, by omega, by go_num, ext_alloc hE _, whole_go (r := r) (k := k) (by rw [HMT.out]; exact hlt) HN.out HH.out⟩, by simp [intOf]; omega⟩
      · have hke : k = m := by omega
        subst hke
        have hcr2 := hc wr hE
        go_wp2
        go_ret
        exact ⟨ret_bool (by rw [whole_yes (by rw [HMT.out]; exact HN.out), HMM.out]; simp), hE⟩
set_option maxRecDepth 100000 in
theorem ready1_any (g : Nat) (r : Rnd) (w : World) (hm : MapAt i64 w g r.vals) (hmn : r.many ≤ 1000000) :
    Calls Tryd.prog 21 #[.agg (Rnd.cells g r).toArray] w fun e w' => e = .returned (.bool (!r.done && r.whole)) ∧ Ext w w' := by
  have hb := rangeAt_new w (Rnd.cells g r) 63
  have HM := Lib.hid (hm.ext (ext_alloc (ext_refl w) (.cells (Rnd.cells g r).toArray 63)))
  clear hm
  have hW := whole_any w.heap.size g r (w.alloc (.cells (Rnd.cells g r).toArray 63)) hb HM.out (by simp) hmn
  have HB := Lib.hid hb
  clear hb
  cases hd : r.done
  all_goals
    simp only [Rnd.cells, hd] at hW ⊢
    go_enter Tryd.func21, Tryd.ntmps21
    go_wp2_with (go_at_call 22; refine hW.mono ?_; rintro e w1 ⟨rfl, hE⟩)
    go_ret
    first | exact ⟨rfl, hE.of_box⟩ | exact ⟨rfl, (by repeat first | assumption | exact ext_refl _ | apply ext_alloc | apply ext_drewN | apply ext_drew)⟩
set_option maxHeartbeats 400000 in
/-- IndexFunc. -/
theorem indexFunc_round (xs : List Rnd) (v : Value) (g : FuncId) (cap : Array Value) (p : Rnd → Bool) (w : World) (hv : RdL TRnd w xs v)
    (hg : ∀ args W, (callFunc g args).run Tryd.prog W = .ok (.enter g args) W) (hp : Asks TRnd w aggOf xs g cap p) :
    Calls Tryd.prog 20 #[v, .func (.func g) #[] cap] w fun e w' => e = .returned (.int .i64 (idxOf p xs)) ∧ Ext w w' := by
  obtain ⟨A, c, rfl, hn, hc, _⟩ := hv.form
  unfold maxLen at hc
  go_enter Tryd.func20, Tryd.ntmps20
  go_wp2
  go_loopw [8] (fun i wr => ∃ k : Nat, k ≤ xs.length ∧ i = .int .i64 k ∧ Ext w wr ∧ ∀ (j : Nat) x, j < k → xs[j]? = some x → p x = false) (fun i _ => xs.length - (intOf i).toNat)
  case atStart => exact ⟨0, Nat.zero_le _, rfl, ext_refl _, fun _ _ h => by omega⟩
  case round =>
    obtain ⟨k, hk, rfl, hE, hno⟩ := hrel
    have HN := Lib.hid hno; clear hno
    by_cases hlt : k < xs.length
    · obtain ⟨b, off, rfl, hb, hrow⟩ := hv.at_ hlt
      obtain ⟨cs, hr, hrel⟩ := hrow k _ (List.getElem?_eq_getElem hlt)
      have hr' : wr.rangeAt b (off + k * 3) cs := rangeAt_block hr (hE.block hb)
      have hlen := Lib.hid (TRnd.len hrel)
      have HP := Lib.hid (hp _ (List.getElem_mem hlt) cs wr hrel hE)
      have HR := Lib.hid hr'
      clear hr hrel hr' hrow
      cases hpx : p xs[k]
      all_goals
        rw [hpx] at HP
        have HX := Lib.hid hpx
        clear hpx
        go_wp2_with (first
          | (refine wpList_load_mid rfl 63 _ rfl b _ rfl cs _ HR.out Tryd.underlying63 rfl (by rw [hlen.out]; kernel_rfl) ?_)
          | (with_reducible refine HP.out.mono ?_; rintro e w1 ⟨rfl, hE1⟩))
      · go_roundw
        case rel => exact ⟨k + 1, by omega, by go_num, hE.trans hE1, none_succ hlt HN.out HX.out⟩
        case measure => simp [intOf]; omega
      · go_ret
        exact ⟨ret_int (idxOf_at (List.getElem?_eq_getElem hlt) HX.out HN.out).symm, hE.trans hE1⟩
    · have hke : k = xs.length := by omega
      have HK := Lib.hid hke; clear hke
      go_wp2
      go_ret
      exact ⟨ret_int (idxOf_none fun j x hx => HN.out j x (by rw [HK.out]; exact (List.getElem?_eq_some_iff.1 hx).1) hx).symm, hE⟩

theorem range3 {w : World} {b o : Nat} {x y z : Value} (h1 : w.cell? ⟨b, o, none⟩ = some x) (h2 : w.cell? ⟨b, o + 1, none⟩ = some y) (h3 : w.cell? ⟨b, o + 2, none⟩ = some z) : w.rangeAt b o [x, y, z] := fun j v hv => by
  match j with
  | 0 => simp at hv; subst hv; exact h1
  | 1 => simp at hv; subst hv; exact h2
  | 2 => simp at hv; subst hv; exact h3
  | j + 3 => simp at hv
theorem AgentAt.rounds {w : World} {p : Nat} {a : Agt} {vt vd : Value} {cs : Array Value} (h : AgentAt w p a vt vd cs) : RdL TRnd w a.rounds (.slice (some ⟨p, 2, none⟩) 20 20) := by
  have := RdL.mk (T := TRnd) (w := w) (xs := a.rounds) (A := some ⟨p, 2, none⟩) (c := 20) (by rw [h.len]; omega) (by unfold maxLen; omega) (fun _ => ⟨p, 2, rfl, h.lt, fun k r hr => by
    obtain ⟨h1, h2, h3, h4⟩ := h.row k r hr
    exact ⟨Rnd.cells (p + 1 + k) r, range3 ((h.cell _).trans h1) ((h.cell _).trans h2) ((h.cell _).trans h3), p + 1 + k, Nat.zero_le _, h4.lt, rfl, h4⟩⟩)
  rwa [h.len] at this
def readyA (a : Agt) : Int := idxOf (fun r : Rnd => !r.done && r.whole) a.rounds
theorem ready_any (p : Nat) (a : Agt) (vt vd : Value) (cs : Array Value) (w : World) (h : AgentAt w p a vt vd cs) (hmn : ∀ r ∈ a.rounds, r.many ≤ 1000000) :
    Calls Tryd.prog 7 #[.pointer (some ⟨p, 0, none⟩)] w fun e w' => e = .returned (i64 (readyA a)) ∧ Ext w w' := by
  have hR := h.rounds
  have hI := indexFunc_round a.rounds _ 21 #[] (fun r : Rnd => !r.done && r.whole) w hR (fun args W => by kernel_rfl) (fun r hr cs w' hrel hE => by
    obtain ⟨g, _, _, rfl, hm⟩ := hrel
    exact ready1_any g r w' (hm.ext hE) (hmn r hr))
  go_enter Tryd.func7, Tryd.ntmps7
  go_wp2_with (go_at_call 20; refine hI.mono ?_; rintro e w1 ⟨rfl, hE⟩)
  go_ret
  exact ⟨rfl, hE⟩
end Go.Proofs.YthimhcbjboffcaaDoor
