/- Walk: the statement AgentOnce. -/
import Derived.Test.YthimhcbjboffcaaDoorOnce1
import Derived.Test.YthimhcbjboffcaaDoorTold
import Derived.Test.YthimhcbjboffcaaDoorSame
import Derived.Deep.DeepCutAuto
import Derived.Deep.CutBlock
import Derived.BigRegion
import Derived.ArgAppend
import Derived.Deep.RegionLaw
namespace Go.Proofs.YthimhcbjboffcaaDoor
open Go Go.RowKit
def TrueExt (w : World) (e : Ending) (w' : World) : Prop := e = .returned (.bool true) ∧ Ext w w'
theorem newErr_one (t : List Rule) : newErr 1 t = tabErr t := by rw [newErr, if_neg (by omega)]
abbrev boxOne (w : World) (v : Value) : World := (w.alloc (.cells #[v] 23)).alloc (.cells #[i64 1, .slice none 0 0, .slice none 0 0, .slice (some ⟨w.heap.size, 0, none⟩) 1 1] 37)
theorem heap_alloc_two (w : World) (o o2 : Obj) : ((w.alloc o).alloc o2).heap[w.heap.size + 1]? = some o2 := by
  have := heap_alloc_new (w.alloc o) o2
  simpa using this
theorem take_sw1 {ops : List Op} {k : Nat} (h : k < ops.length) : ((ops.take (k + 1)).map sw1).flatMap Op.cells = ((ops.take k).map sw1).flatMap Op.cells ++ (sw1 ops[k]).cells := by
  rw [List.take_succ_eq_append_getElem h, List.map_append, List.flatMap_append]; simp
theorem rel_off {α : Type} {T : Ty α} {w w' : World} {p lo hi : Nat} {a : α} {cs : List Value} (h : T.rel w lo hi a cs) (hO : Off p w w') (hlo : p + 21 ≤ lo) (hhi : hi ≤ w.heap.size) : T.rel w' lo w'.heap.size a cs :=
  T.ext h (fun b h1 h2 => hO.block b (by omega) (.inr (by omega))) (Nat.le_refl _) (Nat.le_trans hhi hO.size)
theorem once_many (t : List Rule) (L : List Op) (hs : List Nat) (hl : L.length ≤ 200) : ∀ r ∈ (onceA t L hs).rounds, r.many ≤ 1000000 := fun r hr => by
  rw [once_rounds] at hr
  rcases List.mem_or_eq_of_mem_set hr with h | h
  · rw [List.eq_of_mem_replicate h]; decide
  · subst h; simp [onceR]; omega
theorem done_many (t : List Rule) (L : List Op) (hs : List Nat) (hl : L.length ≤ 200) : ∀ r ∈ (doneA t L hs).rounds, r.many ≤ 1000000 := fun r hr => by
  rw [done_rounds] at hr
  rcases List.mem_or_eq_of_mem_set hr with h | h
  · rw [List.eq_of_mem_replicate h]; decide
  · subst h; simp [doneR, onceR]; omega
section
variable {p : Nat} {t : List Rule} {L : List Op} {vt : Value} {cs : Array Value} {w : World}
theorem hear_ask_any (h : AgentAt w p (newA t) vt (.slice none 0 0) cs) (hl : L.length ≤ 200) (n : Int) (hn : n = L.length) :
    Calls Tryd.prog 6 #[.pointer (some ⟨p, 0, none⟩), .agg #[i64 2, i64 1, i64 3, i64 n, i64 0, .bool false, i64 0, i64 0, i64 0, i64 0, i64 0, i64 0]] w
      fun e w' => ∃ v' cs', e = .returned (.tuple #[v', .nilIface]) ∧ AgentAt w' p (onceA t L []) vt (.slice none 0 0) cs' ∧ Off p w w' := by
  subst hn
  refine (hear_any p (newA t) (askMsg L.length) vt _ cs w h).mono ?_
  rintro e w' ⟨v', cs', he, _, hA, hO⟩
  rw [hear_ask_new t L hl] at he hA
  exact ⟨v', cs', by rw [he, errV_zero], hA, hO⟩
theorem hear_do_any (hs : List Nat) (h : AgentAt w p (onceA t L hs) vt (.slice none 0 0) cs) (hl : L.length ≤ 200) (x : Nat) (hx : x < L.length) (o : Op) (ho : L[x]? = some o) (hr : ruleErr o.rule = 0) (hsw : o.switch = 1) (again : Bool) (hag : again = decide (x ∈ hs)) :
    Calls Tryd.prog 6 #[.pointer (some ⟨p, 0, none⟩), .agg #[i64 1, i64 1, i64 3, i64 x, i64 o.switch, .bool o.add, i64 o.rule.prio, i64 o.rule.cube.mask, i64 o.rule.cube.bits, i64 o.rule.out, i64 o.rule.set, i64 o.rule.value]] w
      fun e w' => ∃ v' cs', e = .returned (.tuple #[v', .nilIface]) ∧ AgentAt w' p (onceA t L (if again = true then hs else hs ++ [x])) vt (.slice none 0 0) cs' ∧ Off p w w' := by
  have hg : L.getD x noOp = o := by rw [List.getD_eq_getElem?_getD, ho]; rfl
  subst hg
  refine (hear_any p (onceA t L hs) (doMsg x (L.getD x noOp)) vt _ cs w h).mono ?_
  rintro e w' ⟨v', cs', he, _, hA, hO⟩
  by_cases hm : x ∈ hs
  · rw [hear_do_old t L hs x hx hl hm hr hsw] at he hA
    rw [hag, decide_eq_true hm]
    exact ⟨v', cs', by rw [he, errV_zero], hA, hO⟩
  · rw [hear_do_new t L hs x hx hl hm hr hsw] at he hA
    rw [hag, decide_eq_false hm]
    exact ⟨v', cs', by rw [he, errV_zero], hA, hO⟩
theorem ready_not (hs : List Nat) (h : AgentAt w p (onceA t L hs) vt (.slice none 0 0) cs) (hl : L.length ≤ 200) (x : Nat) (hx : x < L.length) (hn : x ∉ hs) :
    Calls Tryd.prog 7 #[.pointer (some ⟨p, 0, none⟩)] w fun e w' => e = .returned (i64 (-1)) ∧ Ext w w' := by
  refine (ready_any p _ vt _ cs w h (once_many t L hs hl)).mono ?_
  rintro e w' ⟨he, hE⟩
  rw [ready_none t L hs x hx hn] at he
  exact ⟨he, hE⟩
theorem ready_is (hs : List Nat) (h : AgentAt w p (onceA t L hs) vt (.slice none 0 0) cs) (hl : L.length ≤ 200) (hall : ∀ x, x < L.length → x ∈ hs) :
    Calls Tryd.prog 7 #[.pointer (some ⟨p, 0, none⟩)] w fun e w' => e = .returned (i64 3) ∧ Ext w w' := by
  refine (ready_any p _ vt _ cs w h (once_many t L hs hl)).mono ?_
  rintro e w' ⟨he, hE⟩
  rw [ready_three t L hs hall] at he
  exact ⟨he, hE⟩
theorem work_is (hs : List Nat) (h : AgentAt w p (onceA t L hs) vt (.slice none 0 0) cs) (hl : L.length ≤ 200) (hall : ∀ x, x < L.length → x ∈ hs) (ha : (allTab t L).2 = 0) :
    Calls Tryd.prog 11 #[.pointer (some ⟨p, 0, none⟩)] w fun e w' => ∃ v' vt' vd' cs', e = .returned (.tuple #[v', .nilIface]) ∧ TMsg.slice.rel w' w.heap.size w'.heap.size [yesMsg 1 3] [v'] ∧ AgentAt w' p (doneA t L hs) vt' vd' cs' ∧ Off p w w' := by
  refine (work_any p _ vt _ cs w h (once_many t L hs hl) (by simp [onceA])).mono ?_
  rintro e w' ⟨v', vt', vd', cs', he, hr, hA, hO, _⟩
  rw [work_once t L hs hall ha] at he hr hA
  exact ⟨v', vt', vd', cs', by rw [he, errV_zero], hr, hA, ⟨hO.os, hO.tape, hO.output, hO.size, fun k hk hp => hO.block k hk hp (by simp [Value.ownBlock])⟩⟩
theorem work_not {vd : Value} (hs : List Nat) (h : AgentAt w p (doneA t L hs) vt vd cs) (hl : L.length ≤ 200) :
    Calls Tryd.prog 11 #[.pointer (some ⟨p, 0, none⟩)] w fun e w' => ∃ v' vt' vd' cs', e = .returned (.tuple #[v', errV 6]) ∧ AgentAt w' p (doneA t L hs) vt' vd' cs' ∧ Ext w w' := by
  refine (work_any p _ vt _ cs w h (done_many t L hs hl) (by simp [doneA])).mono ?_
  rintro e w' ⟨v', vt', vd', cs', he, hr, hA, _, hO⟩
  rw [work_done t L hs] at he hr hA
  exact ⟨v', vt', vd', cs', he, hA, hO (by rw [ready_done]; omega)⟩
theorem hear_end {vd : Value} (hs : List Nat) (h : AgentAt w p (doneA t L hs) vt vd cs) :
    Calls Tryd.prog 6 #[.pointer (some ⟨p, 0, none⟩), .agg #[i64 2, i64 1, i64 3, i64 7, i64 0, .bool false, i64 0, i64 0, i64 0, i64 0, i64 0, i64 0]] w
      fun e w' => ∃ v' cs', e = .returned (.tuple #[v', .nilIface]) ∧ TMsg.slice.rel w' w.heap.size w'.heap.size [yesMsg 1 3] [v'] ∧ AgentAt w' p (doneA t L hs) vt vd cs' ∧ Off p w w' := by
  refine (hear_any p _ (askMsg 7) vt _ cs w h).mono ?_
  rintro e w' ⟨v', cs', he, hr, hA, hO⟩
  rw [hear_done_ask t L hs] at he hr hA
  exact ⟨v', cs', by rw [he, errV_zero], hr, hA, hO⟩
end
theorem rdOne {w w' : World} {t : List Rule} {v : Value} (h : RdL TRule w' t v) (hE : Ext (boxOne w v) w') : RdNet w' (netOne t) (.slice none 0 0) (.slice none 0 0) (.slice (some ⟨w.heap.size, 0, none⟩) 1 1) := by
  refine ⟨⟨rdl_nil _ _, rdl_nil _ _⟩, RdL.mk (xs := [t]) (Nat.le_refl _) (by simp [maxLen]) fun _ => ⟨w.heap.size, 0, rfl, Nat.lt_of_lt_of_le (by simp; omega) hE.size, fun k x hx => ?_⟩⟩
  match k with
  | 0 =>
    simp at hx; subst hx
    refine ⟨[v], rangeAt_block (rangeAt_new w [v] 23) ?_, h⟩
    exact (hE.block (by simp; omega)).trans ((ext_alloc (ext_refl (w.alloc _)) _).block (by simp))
  | k + 1 => simp at hx
theorem int_cell {w : World} {xs : List Int} {A : Option Addr} {n c : Nat} (h : RdL TInt w xs (.slice A n c)) {k : Nat} (hk : k < xs.length) : ∃ b off, A = some ⟨b, off, none⟩ ∧ b < w.heap.size ∧ w.cell? ⟨b, off + k, none⟩ = some (i64 xs[k]) := by
  obtain ⟨b, off, rfl, hb, hrow⟩ := h.at_ hk
  obtain ⟨cs, hr, hrel⟩ := hrow k _ (List.getElem?_eq_getElem hk)
  obtain ⟨rfl, _⟩ : cs = [i64 xs[k]] ∧ _ := hrel
  refine ⟨b, off, rfl, hb, ?_⟩
  have := hr 0 _ rfl
  simpa [TInt, Ty.flat] using this
def natI (lf : List Nat) : List Int := lf.map fun x : Nat => (x : Int)
theorem natI_len (lf : List Nat) : (natI lf).length = lf.length := by simp [natI]
theorem flat_one : ∀ xs : List Int, xs.flatMap (fun n => [i64 n]) = xs.map i64
  | [] => rfl
  | a :: xs => by rw [List.flatMap_cons, flat_one xs]; rfl
theorem natI_snoc (j : Nat) : (natI (List.range (j + 1))).flatMap (fun n => [i64 n]) = (natI (List.range j)).flatMap (fun n => [i64 n]) ++ [i64 (j : Int)] := by
  rw [flat_one, flat_one]; simp [natI, List.range_succ]
theorem yes_cells {w : World} {b o : Nat} {n i : Int} (h : w.rangeAt b o (yesMsg n i).cells) : w.cell? ⟨b, o, none⟩ = some (i64 3) ∧ w.cell? ⟨b, o + 1, none⟩ = some (i64 n) ∧ w.cell? ⟨b, o + 2, none⟩ = some (i64 i) ∧ w.cell? ⟨b, o + 3, none⟩ = some (i64 0) ∧
    w.cell? ⟨b, o + 4, none⟩ = some (i64 0) ∧ w.cell? ⟨b, o + 5, none⟩ = some (.bool false) ∧ w.cell? ⟨b, o + 6, none⟩ = some (i64 0) ∧ w.cell? ⟨b, o + 7, none⟩ = some (i64 0) ∧
    w.cell? ⟨b, o + 8, none⟩ = some (i64 0) ∧ w.cell? ⟨b, o + 9, none⟩ = some (i64 0) ∧ w.cell? ⟨b, o + 10, none⟩ = some (i64 0) ∧ w.cell? ⟨b, o + 11, none⟩ = some (i64 0) :=
  ⟨h 0 _ rfl, h 1 _ rfl, h 2 _ rfl, h 3 _ rfl, h 4 _ rfl, h 5 _ rfl, h 6 _ rfl, h 7 _ rfl, h 8 _ rfl, h 9 _ rfl, h 10 _ rfl, h 11 _ rfl⟩
/-- An append whose run is known, as a step of a region that draws. -/
theorem step_append_eq {P : Program} {w : World} {ops : Array Oper} {o : Oper} {a : Act} {K : Act → World → Prop} {Q : Exit → Act → World → Prop} {E : Prop} (hgd : o.guard = none) (s x : Operand) (t : TypeId)
    (ho : o.op = .call { callee := .builtin .append, args := #[s, x], argTypes := #[t, t] }) (vs vx v' : Value) (w' : World) (hs : a.eval s = vs) (hx : a.eval x = vx)
    (hrun : (Builtin.append_ #[t, t] o.type #[vs, vx]).run P w = .ok v' w') (h : K (a.put o.dst v') w') : if Region.wanted o (yielded ops a.tmps) = true then Oper.wp P o a w K Q else E := by
  have hw : Region.wanted o (yielded ops a.tmps) = true := by simp [Region.wanted, hgd]
  rw [if_pos hw]
  unfold Oper.wp execOp
  simp only [ho, resolve, invoke, builtin, Sem.run_bind, Sem.run_pure, Result.andThen_ok, List.map_toArray, List.map_cons, List.map_nil, hs, hx, hrun]
  exact h
theorem rel_cut0 {w : World} {lo hi : Nat} {lf : List Nat} {b off c q : Nat} (h : TInt.slice.rel w lo hi (natI lf) [.slice (some ⟨b, off, none⟩) lf.length c]) (hq : q < lf.length) (hl : lf.length ≤ q + 1) (h20 : lf.length ≤ 1000) :
    TInt.slice.rel w lo hi (natI (lf.take q ++ lf.drop (q + 1))) [.slice (some ⟨b, off, none⟩) q q] := by
  have hd : lf.drop (q + 1) = [] := List.drop_eq_nil_of_le (by omega)
  rw [hd, List.append_nil]
  obtain ⟨A, c', hv, hn, hcm, hr⟩ := h
  have hl2 : (natI (lf.take q)).length = q := by rw [natI_len, List.length_take]; omega
  have e : natI (lf.take q) = (natI lf).take q := by simp [natI, List.map_take]
  refine ⟨some ⟨b, off, none⟩, q, by rw [hl2], by omega, by unfold maxLen; omega, fun _ => ?_⟩
  obtain ⟨b', off', e1, hb1, hb2, hrow⟩ := hr (fun e => by have h1 := congrArg List.length e; rw [natI_len] at h1; exact absurd h1 (by simp only [List.length_nil]; omega))
  have hv2 := (List.cons.inj hv).1
  injection hv2 with e4 _ _
  refine ⟨b', off', e4.trans e1, hb1, hb2, fun k x hx => hrow k x ?_⟩
  rw [e, List.getElem?_take] at hx
  split at hx
  · exact hx
  · cases hx
/-- 'append(left[:q:q], left[q+1:]...)'. -/
theorem run_append_cut {w : World} {lo : Nat} {lf : List Nat} {b off off2 c c2 q : Nat} (h : TInt.slice.rel w lo w.heap.size (natI lf) [.slice (some ⟨b, off, none⟩) lf.length c]) (hlo : lo ≤ w.heap.size) (hq : q < lf.length) (h20 : lf.length ≤ 1000) (ho : q + 1 < lf.length → off2 = off + (q + 1)) :
    ∃ v' w', (Builtin.append_ #[25, 25] 25 #[.slice (some ⟨b, off, none⟩) q q, .slice (some ⟨b, off2, none⟩) (lf.length - (q + 1)) c2]).run Tryd.prog w = .ok v' w' ∧ TInt.slice.rel w' lo w'.heap.size (natI (lf.take q ++ lf.drop (q + 1))) [v'] ∧ Ext w w' := by
  obtain ⟨i1, hi1, hy0, hy1, hy2⟩ := info_of (show (Tryd.prog.info? 3).map (fun i => (i.zero, i.size, i.bytes)) = some (some (i64 0), 1, 8) by kernel_rfl)
  have hR : RdL TInt w (natI lf) (.slice (some ⟨b, off, none⟩) lf.length c) := RdL.of_rel h (Nat.le_refl _)
  by_cases hl : q + 1 < lf.length
  · obtain ⟨b', off', e, hb, hrow⟩ := hR.at_ (k := 0) (by rw [natI_len]; omega)
    injection e with e; injection e with e1 e2 _; subst e1 e2
    have hfl := rowAt_flat hrow
    have hcs : ∀ j u, ((natI lf).flatMap (fun n => [i64 n]))[j]? = some u → w.cell? ⟨b, off + j, none⟩ = some u := fun j u hu => hfl j u hu
    have hall := flat_one (natI lf)
    rw [hall] at hcs
    obtain ⟨v', w', hrun, hown, hgr⟩ := run_append_arg_grows (P := Tryd.prog) w 25 25 3 i1 _ 1 8 Tryd.underlying25 hi1 hy0 hy1 hy2 rfl (Nat.zero_lt_succ _) ⟨b, off, none⟩ q q (((natI lf).map i64).take q) (by simp [natI]; omega)
      (fun j u hu => by rw [Addr.add_mid]; rw [List.getElem?_take] at hu; split at hu; exact hcs j u hu; cases hu) ⟨b, off2, none⟩ (lf.length - (q + 1)) c2 (((natI lf).map i64).drop (q + 1)) (by simp [natI])
      (fun j u hu => by rw [Addr.add_mid, ho hl]; rw [List.getElem?_drop] at hu; rw [Nat.add_assoc]; exact hcs _ u hu) (by omega) (by unfold maxLen; omega) (by omega)
    refine ⟨v', w', hrun, ?_, ⟨hgr.os, hgr.tape, hgr.output, hgr.size, fun k hk => hgr.block k hk (by simp)⟩⟩
    have e2 : (((natI lf).map i64).take q ++ ((natI lf).map i64).drop (q + 1)) = (natI (lf.take q ++ lf.drop (q + 1))).flatMap (fun n => [i64 n]) := by
      rw [flat_one]; simp [natI, List.map_take, List.map_drop]
    have e3 : q + (lf.length - (q + 1)) = (natI (lf.take q ++ lf.drop (q + 1))).length := by simp [natI]; omega
    rw [e2, e3] at hown
    exact TInt.slice.ext (rel_of_own (n := 1) (enc := fun n => [i64 n]) (h := fun _ => rfl) (ok := fun _ => True) hown (fun _ _ => trivial)) (fun _ _ _ => rfl) hlo (Nat.le_refl _)
  · have hm : lf.length - (q + 1) = 0 := by omega
    refine ⟨.slice (some ⟨b, off, none⟩) q q, w, ?_, ?_, ext_refl _⟩
    · rw [hm]
      simp [Builtin.append_, run_underlying Tryd.underlying25, sizeOf, typeInfo, hi1, Builtin.lenOf, Builtin.firstCells, storeCells, loadCells, loadCellsFrom]
    · exact rel_cut0 h hq (by omega) h20
theorem apply_one {L : List Op} {t : List Rule} (hs : ∀ o ∈ L, o.switch = 1) (h : (applyN (netOne t) L).2 = 0) (vl vh vt v : Value) (w : World) (hr : RdNet w (netOne t) vl vh vt) (hv : RdL TOp w L v) :
    Calls Tryd.prog 5 #[.agg #[i64 1, vl, vh, vt], v] w fun e w' => ∃ Al cl Ah ch tb toff ct At tc, e = .returned (.tuple #[.agg #[i64 1, .slice Al 0 cl, .slice Ah 0 ch, .slice (some ⟨tb, toff, none⟩) 1 ct], .nilIface]) ∧
      w.heap.size ≤ tb ∧ tb < w'.heap.size ∧ w'.cell? ⟨tb, toff, none⟩ = some (.slice At (allTab t L).1.length tc) ∧ TRule.slice.rel w' w.heap.size w'.heap.size (allTab t L).1 [.slice At (allTab t L).1.length tc] ∧ Ext w w' := by
  refine (apply_any (netOne t) L vl vh vt v w hr hv).mono ?_
  rintro e w' ⟨vl', vh', vt', he, ⟨h1, h2, h3⟩, hX⟩
  obtain ⟨_, _, ho, _⟩ := applyN_one hs h
  rw [h, errV_zero, ho] at he
  rw [ho] at h1 h2 h3
  obtain ⟨Al, cl, rfl⟩ := slice_val h1
  obtain ⟨Ah, ch, rfl⟩ := slice_val h2
  obtain ⟨A, c, hvt, _, _, h4⟩ := h3
  obtain ⟨tb, toff, rfl, hb1, hb2, hrow⟩ := h4 (by simp)
  obtain ⟨cs, hc, hr⟩ := hrow 0 _ rfl
  obtain ⟨At, tc, rfl, _⟩ := id hr
  obtain rfl := (List.cons.inj hvt).1
  exact ⟨Al, cl, Ah, ch, tb, toff, c, At, tc, he, hb1, hb2, by have := hc 0 _ rfl; simpa using this, hr, hX⟩
set_option maxRecDepth 100000 in
set_option maxHeartbeats 6400000 in
theorem once_any (t : List Rule) (ops : List Op) (ord ag : List Int) (v0 v1 v2 v3 : Value) (w : World) (h0 : RdL TRule w t v0) (h1 : RdL TOp w ops v1) (h2 : RdL TInt w ord v2) (h3 : RdL TInt w ag v3) (hg : Laid w) :
    Calls Tryd.prog 3 #[v0, v1, v2, v3] w (TrueExt w) := by
  have HN := Lib.hid (new_any 1 t v0 w h0)
  obtain ⟨A0, c0, rfl, hn0, hc0, _⟩ := h0.form
  obtain ⟨A1, c1, rfl, hn1, hc1, _⟩ := h1.form
  obtain ⟨A2, c2, rfl, hn2, hc2, _⟩ := h2.form
  obtain ⟨A3, c3, rfl, hn3, hc3, _⟩ := h3.form
  unfold maxLen at hc0 hc1 hc2 hc3
  have H0 := Lib.hid h0
  have H1 := Lib.hid h1
  have H2 := Lib.hid h2
  have H3 := Lib.hid h3
  have HL := Lib.hid hg
  clear h0 h1 h2 h3 hg
  by_cases ht : tabErr t = 0
  · have HT := Lib.hid ht
    have HT1 := Lib.hid ((newErr_one t).trans ht)
    clear ht
    have hbT : ∀ w' : World, (Instr.build 34 #[(0, i64 1)]).run Tryd.prog w' = .ok (.agg #[i64 1, .slice none 0 0, .slice none 0 0]) w' := fun w' => by kernel_rfl
    have hbS : ∀ (w' : World) (A : Option Addr) (n c : Nat), (Instr.buildSlice 35 1 #[(0, .slice A n c)]).run Tryd.prog w' = .ok (.slice (some ⟨w'.heap.size, 0, none⟩) 1 1) (w'.alloc (.cells #[.slice A n c] 23)) := fun w' _ _ _ => by kernel_rfl
    have hbN : ∀ (w' : World) (A : Option Addr) (n c : Nat), (Instr.build 37 #[(0, .agg #[i64 1, .slice none 0 0, .slice none 0 0]), (1, .slice A n c)]).run Tryd.prog w' = .ok (.agg #[i64 1, .slice none 0 0, .slice none 0 0, .slice A n c]) w' := fun w' _ _ _ => by kernel_rfl
    go_enter Tryd.func3, Tryd.ntmps3
    have hms : ∀ (w' : World) (a0 : Int) (a1 : Bool) (a2 a3 a4 a5 a6 a7 : Int), (Instr.buildSlice 24 1 #[(0, .agg #[i64 a0, .bool a1, i64 a2, i64 a3, i64 a4, i64 a5, i64 a6, i64 a7])]).run Tryd.prog w' = .ok (.slice (some ⟨w'.heap.size, 0, none⟩) 1 1) (w'.alloc (.cells #[i64 a0, .bool a1, i64 a2, i64 a3, i64 a4, i64 a5, i64 a6, i64 a7] 43)) := fun w' _ _ _ _ _ _ _ _ => by kernel_rfl
    obtain ⟨i0, hi0, hz0, hz1, hz2⟩ := info_of info_op
    go_upto_block 0 with (go_at_call 4; refine HN.out.mono ?_; rintro e w1 ⟨hX1, hA, _⟩; obtain ⟨p, vt, cs, rfl, hp, hA0⟩ := hA HT1.out; have HA0 := Lib.hid hA0; clear hA hA0)
    go_cut [12] (fun l wx => ∃ k : Nat, k ≤ ops.length ∧ k ≤ 20 ∧ Ext (boxOne w1 (.slice A0 t.length c0)) wx ∧ wx.ownsRow (boxOne w1 (.slice A0 t.length c0)).heap.size 43 8 l k (((ops.take k).map sw1).flatMap Op.cells))
    case first =>
      go_wp2_with fail
      go_loopw [12, 13] (fun l i wr => ∃ k : Nat, k ≤ ops.length ∧ k ≤ 20 ∧ i = .int .i64 k ∧ Ext (boxOne w1 (.slice A0 t.length c0)) wr ∧ wr.ownsRow (boxOne w1 (.slice A0 t.length c0)).heap.size 43 8 l k (((ops.take k).map sw1).flatMap Op.cells)) (fun _ i _ => ops.length - (intOf i).toNat)
      case atStart => exact ⟨0, Nat.zero_le _, Nat.zero_le _, rfl, ext_refl _, World.ownsRow_nil _ _ _ _⟩
      case round =>
        obtain ⟨k, hk, hk20, rfl, hE1, hown⟩ := hrel
        have HO := Lib.hid hown
        clear hown
        by_cases hlt : k < ops.length
        · by_cases hlt20 : k < 20
          · have hlt2 : (k : Int) < (ops.length : Int) := by omega
            have hlt3 : (k : Int) < 20 := by omega
            have HS := Lib.hid (take_sw1 hlt)
            obtain ⟨b, off, rfl, hb, hrow⟩ := H1.out.at_ hlt
            obtain ⟨cs, hr, hrel⟩ := hrow k _ (List.getElem?_eq_getElem hlt)
            obtain ⟨rfl, _⟩ : cs = Op.cells ops[k] ∧ _ := hrel
            have hw : Ext w wr := (hX1.trans (ext_alloc (ext_alloc (ext_refl _) _) _)).trans hE1
            have HR := Lib.hid (rangeAt_block hr (hw.block hb) : wr.rangeAt b (off + k * 8) _)
            clear hr hrow
            generalize ops[k] = o at HR HS
            have c1 := Lib.hid (by unfold maxLen; omega : k + 1 ≤ maxLen)
            have c2 := Lib.hid (by omega : (k + 1) * 64 ≤ 140737488355328)
            go_wp2_with (first
              | (refine wpList_load_mid rfl 43 _ rfl b _ rfl _ _ HR.out Tryd.underlying43 rfl (by kernel_rfl) ?_; unfold Op.cells)
              | (at_builtin; refine wpList_append_src _ rfl (.tmp 58) (.tmp 60) _ rfl (boxOne w1 (.slice A0 t.length c0)).heap.size 43 i0 _ 8 64 Tryd.underlying24 hi0 hz0 hz1 hz2 rfl (Nat.zero_lt_succ _) _ k _ rfl ((HO.out.alloc _).alloc _) _ 1 1 (Op.cells (sw1 o)) rfl (src_one (heap_alloc_two _ _ _) rfl) (one_op _) c1.out c2.out (Nat.le_trans hE1.size (Nat.le_trans (le_alloc _ _) (le_alloc _ _))) ?_; intro v' w2 hown' hgr _; have hX2 := own_ext (W := boxOne w1 (.slice A0 t.length c0)) (ext_alloc (ext_alloc hE1 _) _) ((HO.out.alloc _).alloc _) hgr (Nat.le_refl _); rw [← HS.out] at hown'))
            go_roundw
            case rel => exact ⟨k + 1, by omega, by omega, by go_num, hX2, hown'⟩
            case measure => simp [intOf]; omega
          · have hlt2 : (k : Int) < (ops.length : Int) := by omega
            have hlt3 : (20 : Int) ≤ (k : Int) := by omega
            go_wp2
            go_meet
            exact ⟨k, hk, hk20, hE1, HO.out⟩
        · have hlt2 : (ops.length : Int) ≤ (k : Int) := by omega
          go_wp2
          go_meet
          exact ⟨k, hk, hk20, hE1, HO.out⟩
    case rest =>
      obtain ⟨k, hk, hk20, hE1, hown⟩ := hcut
      have hLs : ∀ o ∈ (ops.take k).map sw1, o.switch = 1 := by
        intro o ho
        obtain ⟨o', _, rfl⟩ := List.mem_map.1 ho
        rfl
      have hLl : ((ops.take k).map sw1).length = k := by simp; omega
      generalize (ops.take k).map sw1 = L at hLs hLl hown
      have HLs := Lib.hid hLs
      have HLl := Lib.hid hLl
      have hwc : Ext w wc := (hX1.trans (ext_alloc (ext_alloc (ext_refl _) _) _)).trans hE1
      have hLR : TOp.slice.rel wc (p + 21) wc.heap.size L [u12] := by
        have h := rel_of_own (n := 8) (enc := Op.cells) (h := fun _ => rfl) (ok := Op.ok) (by rw [HLl.out]; exact hown) (fun _ _ => trivial)
        exact TOp.slice.ext h (fun _ _ _ => rfl) (by have := HA0.out.top; simp; omega) (Nat.le_refl _)
      obtain ⟨Al, cl, hle⟩ := own_slice hown
      subst hle
      have HLR := Lib.hid hLR
      have hnc := fun w' (h : Ext wc w') => (net_cells (w := boxOne w1 (.slice A0 t.length c0)) (heap_alloc_two _ _ _) w' (hE1.trans h))
      have HNET := Lib.hid fun w' (h : Ext wc w') => rdOne (t := t) ((H0.out.ext hwc).ext h) (hE1.trans h)
      clear hLs hLl hown hLR
      by_cases hap : (applyN (netOne t) L).2 = 0
      · have HAP := Lib.hid hap
        have HONE := Lib.hid (applyN_one HLs.out hap)
        clear hap
        have hE1c : Ext w1 wc := (ext_alloc (ext_alloc (ext_refl _) _) _).trans hE1
        have HAN := Lib.hid (show AgentAt w1 p (newA t) vt (.slice none 0 0) cs from HA0.out)
        have hbM : ∀ (w' : World) (n : Int), (Instr.build 50 #[(0, i64 2), (1, i64 1), (2, i64 3), (3, i64 n)]).run Tryd.prog w' = .ok (.agg #[i64 2, i64 1, i64 3, i64 n, i64 0, .bool false, i64 0, i64 0, i64 0, i64 0, i64 0, i64 0]) w' := fun w' n => by kernel_rfl
        obtain ⟨i1, hi1, hy0, hy1, hy2⟩ := info_of (show (Tryd.prog.info? 3).map (fun i => (i.zero, i.size, i.bytes)) = some (some (i64 0), 1, 8) by kernel_rfl)
        go_wp2_with (first
          | (go_at_call 5; refine (apply_one HLs.out HAP.out _ _ _ _ _ (HNET.out _ (by repeat first | assumption | exact ext_refl _ | apply ext_alloc | apply ext_drewN | apply ext_drew)) (RdL.of_rel HLR.out (Nat.le_refl _))).mono ?_; rintro e w2 ⟨Al2, cl2, Ah2, ch2, tb, toff, ct, At, tc, rfl, htb1, htb2, htc, htr, hX⟩; have HTC := Lib.hid htc; have HTR := Lib.hid htr; have hE12 := hE1c.trans hX; clear htc htr)
          | (go_at_call 6; refine (hear_ask_any (t := t) (L := L) (HAN.out.ext (show Ext w1 _ from (by repeat first | assumption | exact ext_refl _ | apply ext_alloc | apply ext_drewN | apply ext_drew))) (by have := HLl.out; omega) _ (by rw [HLl.out])).mono ?_; rintro e w3 ⟨v3, cs3', rfl, hA3, hO3⟩; have HA3 := Lib.hid hA3; have HO3 := Lib.hid hO3; clear hA3 hO3))
        go_loopw [18, 19] (fun l i wr => ∃ j : Nat, j ≤ k ∧ i = .int .i64 j ∧ Ext w3 wr ∧ wr.ownsRow w3.heap.size 3 1 l j ((natI (List.range j)).flatMap fun n => [i64 n])) (fun _ i _ => k - (intOf i).toNat)
        case atStart => exact ⟨0, Nat.zero_le _, rfl, ext_refl _, World.ownsRow_nil _ _ _ _⟩
        case round =>
          obtain ⟨j, hj, rfl, hE3, hown⟩ := hrel
          have HO := Lib.hid hown
          clear hown
          by_cases hlt : j < k
          · have hlt2 : (j : Int) < (k : Int) := by omega
            have HS := Lib.hid (natI_snoc j)
            have c1 := Lib.hid (by unfold maxLen; omega : j + 1 ≤ maxLen)
            have c2 := Lib.hid (by omega : (j + 1) * 8 ≤ 140737488355328)
            go_wp2_with (at_builtin; refine wpList_append_src _ rfl (.tmp 86) (.tmp 88) _ rfl w3.heap.size 3 i1 _ 1 8 Tryd.underlying25 hi1 hy0 hy1 hy2 rfl (Nat.zero_lt_succ _) _ j _ rfl (HO.out.alloc _) _ 1 1 [i64 (j : Int)] rfl (src_one (heap_alloc_new _ _) rfl) (fun u hu => by simp at hu; subst hu; rfl) c1.out c2.out (Nat.le_trans hE3.size (le_alloc _ _)) ?_; intro v' w4 hown' hgr _; have hX4 := own_ext (W := w3) (ext_alloc hE3 _) (HO.out.alloc _) hgr (Nat.le_refl _); rw [← HS.out] at hown')
            go_roundw
            case rel => exact ⟨j + 1, by omega, by go_num, hX4, hown'⟩
            case measure => simp [intOf]; omega
          · have hje : j = k := by omega
            subst hje
            have hrl : TInt.slice.rel wr (p + 21) wr.heap.size (natI (List.range j)) [u18] := by
              have hl : (natI (List.range j)).length = j := by simp [natI]
              exact TInt.slice.ext (rel_of_own (n := 1) (enc := fun n => [i64 n]) (h := fun _ => rfl) (ok := fun _ => True) (by rw [hl]; exact HO.out) (fun _ _ => trivial)) (fun _ _ _ => rfl) HA3.out.top (Nat.le_refl _)
            have HRL := Lib.hid hrl
            clear hrl HO
            obtain ⟨wo, rfl⟩ : ∃ wo : World, wo = wr := ⟨_, rfl⟩
            have HA4 := Lib.hid (HA3.out.ext hE3)
            have hwa : Ext w (w2.alloc (.cells #[i64 1, .slice Al2 0 cl2, .slice Ah2 0 ch2, .slice (some ⟨tb, toff, none⟩) 1 ct] 37)) := ext_alloc (hwc.trans hX) _
            have hwo : Ext w wo := (Off.ext hwa HO3.out hp).trans hE3
            have hO4 : Off p (w2.alloc (.cells #[i64 1, .slice Al2 0 cl2, .slice Ah2 0 ch2, .slice (some ⟨tb, toff, none⟩) 1 ct] 37)) wo := HO3.out.trans (Off.of_ext hE3)
            have htop := HA0.out.top
            have hs1 : w1.heap.size ≤ wc.heap.size := hE1c.size
            have hs2 : wc.heap.size ≤ w2.heap.size := hX.size
            have HLo := Lib.hid (rel_off (rel_ext HLR.out (hX.trans (ext_alloc (ext_refl _) _)) (Nat.le_refl _)) hO4 (Nat.le_refl _) (Nat.le_refl _))
            have HWB : Hid (wo.heap[w2.heap.size]? = some (.cells #[i64 1, .slice Al2 0 cl2, .slice Ah2 0 ch2, .slice (some ⟨tb, toff, none⟩) 1 ct] 37 (0, 0))) := (hO4.block w2.heap.size (by simp) (.inr (by omega))).trans (heap_alloc_new w2 _)
            have HTCo : Hid (wo.cell? ⟨tb, toff, none⟩ = some (.slice At (allTab t L).1.length tc)) := (World.cell?_of_block (hO4.block tb (by simp; omega) (.inr (by omega)))).trans ((World.cell?_alloc_lt _ _ ⟨tb, toff, none⟩ htb2).trans HTC.out)
            have HTRo := Lib.hid (rel_off (rel_ext HTR.out (ext_alloc (ext_refl _) _) (Nat.le_refl _)) hO4 (by omega) (Nat.le_refl _))
            have htbo : tb < wo.heap.size := Nat.lt_of_lt_of_le htb2 (Nat.le_trans (by simp) hO4.size)
            have hwbo : w2.heap.size < wo.heap.size := Nat.lt_of_lt_of_le (by simp) hO4.size
            have htbp : p + 21 ≤ tb := by omega
            have hwcp : p + 21 ≤ wc.heap.size := by omega
            have hwbp : p + 21 ≤ w2.heap.size := by omega
            have HP0 := Lib.hid (show (([] : List Nat) ++ List.range j).Perm (List.range j) from List.Perm.refl _)
            clear HNET HTR HTC HO3 hwa HA3 HLR hnc HN hX1 hX hE1 hE12 hE1c hE3 hwc HA0 HAN HAP hO4 hs1 hs2
            go_wp2_with fail
            go_loopw [18, 20] (fun lv i wr => ∃ (hs lf : List Nat) (cs' : Array Value), (hs ++ lf).Perm (List.range j) ∧ i = .int .i64 hs.length ∧ TInt.slice.rel wr (p + 21) wr.heap.size (natI lf) [lv] ∧ AgentAt wr p (onceA t L hs) vt (.slice none 0 0) cs' ∧ Off p wo wr) (fun _ i _ => j - (intOf i).toNat)
            case atStart => exact ⟨[], List.range j, cs3', HP0.out, rfl, HRL.out, HA4.out, Off.of_ext (ext_refl _)⟩
            case round =>
              obtain ⟨hs, lf, cs', hperm, rfl, hrd, hag, hoff⟩ := hrel
              have HP := Lib.hid hperm
              have HG := Lib.hid hag
              have HF := Lib.hid hoff
              have hlen := left_len hperm
              clear hperm hag hoff HA4 HRL HP0
              obtain ⟨Af, cf, hlv, hlc, hcf, _⟩ := (RdL.of_rel hrd (Nat.le_refl _)).form
              rw [natI_len] at hlv hlc
              subst hlv
              have HRR := Lib.hid hrd
              have HRD := Lib.hid (RdL.of_rel hrd (Nat.le_refl _))
              clear hrd
              by_cases hl0 : 0 < lf.length
              · have hl1 : (0 : Int) < (lf.length : Int) := by omega
                have hi20 : (hs.length : Int) ≤ 20 := by omega
                have hwr : Ext w wr := Off.ext hwo HF.out hp
                obtain ⟨z, HZ⟩ : ∃ z : Int, Hid (∀ _ : hs.length < ord.length, ∃ b off, A2 = some ⟨b, off, none⟩ ∧ wr.cell? ⟨b, off + hs.length, none⟩ = some (i64 z)) := ⟨ord.getD hs.length 0, fun g1 => by
                  obtain ⟨b, off, e, hb, hc⟩ := int_cell H2.out g1
                  exact ⟨b, off, e, (World.cell?_of_block (hwr.block hb)).trans (by rw [hc]; simp [g1])⟩⟩
                go_upto_region 27 with fail
                go_cut [114] (fun s wx => ∃ bb : Bool, s = .bool bb ∧ (bb = true ↔ (hs.length < ord.length ∧ 0 ≤ z ∧ z < (lf.length : Int))) ∧ wr = wx)
                case first =>
                  by_cases g1 : hs.length < ord.length
                  · obtain ⟨b, off, rfl, hcr⟩ := HZ.out g1
                    have g2 : (hs.length : Int) < (ord.length : Int) := by omega
                    by_cases g3 : 0 ≤ z
                    · by_cases g4 : z < (lf.length : Int)
                      · go_wp2
                        go_meet
                        exact ⟨true, rfl, by simp [g1, g3, g4], rfl⟩
                      · go_wp2
                        go_meet
                        exact ⟨false, rfl, by simp [g4], rfl⟩
                    · go_wp2
                      go_meet
                      exact ⟨false, rfl, ⟨fun h => (by cases h), fun h => absurd h.2.1 (by omega)⟩, rfl⟩
                  · go_wp2
                    go_meet
                    exact ⟨false, rfl, by simp [g1], rfl⟩
                case rest =>
                  obtain ⟨bb, rfl, hbb, rfl⟩ := hcut
                  have HB := Lib.hid hbb
                  clear hbb
                  go_upto_if 114 with fail
                  go_cut [21] (fun s wx => ∃ q : Nat, q < lf.length ∧ s = .int .i64 q ∧ wr = wx)
                  case first =>
                    cases bb
                    · go_wp2
                      go_meet
                      exact ⟨0, hl0, rfl, rfl⟩
                    · obtain ⟨g1, g3, g4⟩ := HB.out.1 rfl
                      obtain ⟨b, off, rfl, hcr⟩ := HZ.out g1
                      have g2 : (hs.length : Int) < (ord.length : Int) := by omega
                      obtain ⟨q, rfl⟩ : ∃ q : Nat, z = q := ⟨z.toNat, by omega⟩
                      go_wp2
                      go_meet
                      exact ⟨q, by omega, rfl, rfl⟩
                  case rest =>
                    obtain ⟨q, hq, rfl, rfl⟩ := hcut
                    clear HB HZ
                    have hq0 : (0 : Int) ≤ (q : Int) := by omega
                    have hq1 : (q : Int) < (lf.length : Int) := by omega
                    obtain ⟨hX1, hX2⟩ := left_mem HP.out hq
                    obtain ⟨bf, off, rfl, hbf, hcf2⟩ := int_cell HRD.out (k := q) (by rw [natI_len]; exact hq)
                    have hnx : (natI lf)[q]'(by rw [natI_len]; exact hq) = (lf[q] : Int) := by simp [natI]
                    rw [hnx] at hcf2
                    clear hnx
                    have HST := Lib.hid (left_step HP.out hq)
                    generalize lf[q] = X at hX1 hX2 hcf2 HST
                    have HX2 := Lib.hid hX2
                    have hX3 : (0 : Int) ≤ (X : Int) := by omega
                    have hX4 : (X : Int) < (j : Int) := by omega
                    have HXL := Lib.hid (show X < L.length by rw [HLl.out]; exact hX1)
                    clear hX2
                    have HRDY := Lib.hid (ready_not hs HG.out (by have := HLl.out; omega) X HXL.out HX2.out)
                    have HLw := Lib.hid (RdL.of_rel (rel_off HLo.out HF.out (Nat.le_refl _) (Nat.le_refl _)) (Nat.le_refl _))
                    obtain ⟨bl, offl, hAl, hbl, hrow⟩ := HLw.out.at_ HXL.out
                    subst hAl
                    obtain ⟨cso, hro, hrelo⟩ := hrow X _ (List.getElem?_eq_getElem HXL.out)
                    obtain ⟨rfl, _⟩ : cso = Op.cells L[X] ∧ _ := hrelo
                    have HO5 := Lib.hid (List.getElem?_eq_getElem HXL.out)
                    have HSW := Lib.hid (HLs.out _ (List.getElem_mem HXL.out))
                    have HRU := Lib.hid (allTab_rules HONE.out.2.1 _ (List.getElem_mem HXL.out))
                    have HRO := Lib.hid hro
                    clear hro hrow
                    generalize L[X] = o at HO5 HSW HRU HRO
                    have hbM2 : ∀ (w' : World) (n a0 : Int) (a1 : Bool) (a2 a3 a4 a5 a6 a7 : Int), (Instr.build 50 #[(0, i64 1), (1, i64 1), (2, i64 3), (3, i64 n), (4, .agg #[i64 a0, .bool a1, i64 a2, i64 a3, i64 a4, i64 a5, i64 a6, i64 a7])]).run Tryd.prog w' = .ok (.agg #[i64 1, i64 1, i64 3, i64 n, i64 a0, .bool a1, i64 a2, i64 a3, i64 a4, i64 a5, i64 a6, i64 a7]) w' := fun w' _ _ _ _ _ _ _ _ _ => by kernel_rfl
                    go_upto_region 36 with (first
                      | (go_at_call 7; refine HRDY.out.mono ?_; rintro e w4 ⟨rfl, hE4⟩)
                      | (refine wpList_load_mid rfl 43 _ rfl bl _ rfl _ _ (rangeAt_block HRO.out (hE4.block hbl)) Tryd.underlying43 rfl (by kernel_rfl) ?_; unfold Op.cells)
                      | (go_at_call 6; refine (hear_do_any hs (HG.out.ext (show Ext wr _ from (by repeat first | assumption | exact ext_refl _ | apply ext_alloc | apply ext_drewN | apply ext_drew))) (by have := HLl.out; omega) X HXL.out o HO5.out HRU.out HSW.out false (by simp [HX2.out])).mono ?_; rintro e w5 ⟨v5, cs5, rfl, hA5, hO5⟩; have HA5 := Lib.hid (show AgentAt w5 p (onceA t L (hs ++ [X])) vt (.slice none 0 0) cs5 from hA5); have HF5 := Lib.hid hO5; clear hA5 hO5))
                    have htr := HG.out.top
                    have hsz4 := hE4.size
                    have hw5 : Ext w w5 := Off.ext (hwr.trans (hE4.trans (ext_alloc (ext_refl _) _))) HF5.out hp
                    have hO5 : Off p wo w5 := (HF.out.trans (Off.of_ext (hE4.trans (ext_alloc (ext_refl _) _)))).trans HF5.out
                    have HO5w := Lib.hid hO5
                    have HMB := Lib.hid (rangeAt_block (rangeAt_new w4 (doMsg X o).cells 50) (HF5.out.block w4.heap.size (by simp) (.inr (by omega))))
                    clear hO5
                    obtain ⟨z2, HZ2⟩ : ∃ z : Int, Hid (∀ _ : hs.length < ag.length, ∃ b off, A3 = some ⟨b, off, none⟩ ∧ w5.cell? ⟨b, off + hs.length, none⟩ = some (i64 z)) := ⟨ag.getD hs.length 0, fun g1 => by
                      obtain ⟨b, off, e, hb, hc⟩ := int_cell H3.out g1
                      exact ⟨b, off, e, (World.cell?_of_block (hw5.block hb)).trans (by rw [hc]; simp [g1])⟩⟩
                    go_cut [150] (fun s wx => ∃ bb : Bool, s = .bool bb ∧ w5 = wx)
                    case first =>
                      by_cases g1 : hs.length < ag.length
                      · obtain ⟨b, off, rfl, hcr⟩ := HZ2.out g1
                        have g2 : (hs.length : Int) < (ag.length : Int) := by omega
                        go_wp2
                        go_meet
                        exact ⟨_, rfl, rfl⟩
                      · go_wp2
                        go_meet
                        exact ⟨false, rfl, rfl⟩
                    case rest =>
                      obtain ⟨bb, rfl, rfl⟩ := hcut
                      clear HZ2
                      go_upto_if 150 with fail
                      go_cut [] (fun wx => ∃ cs6, AgentAt wx p (onceA t L (hs ++ [X])) vt (.slice none 0 0) cs6 ∧ Off p w5 wx)
                      case first =>
                        cases bb
                        · go_wp2
                          go_meet
                          exact ⟨cs5, HA5.out, Off.of_ext (ext_refl _)⟩
                        · go_wp2_with (first
                            | (refine wpList_load_mid rfl 50 _ rfl w4.heap.size _ rfl _ _ HMB.out Tryd.underlying50 rfl (by kernel_rfl) ?_; unfold doMsg Msg.cells; dsimp only)
                            | (go_at_call 6; refine (hear_do_any (hs ++ [X]) HA5.out (by have := HLl.out; omega) X HXL.out o HO5.out HRU.out HSW.out true (by simp)).mono ?_; rintro e w6 ⟨v6, cs6, rfl, hA6, hO6⟩; have HA6 := Lib.hid (show AgentAt w6 p (onceA t L (hs ++ [X])) vt (.slice none 0 0) cs6 from hA6); have HF6 := Lib.hid hO6; clear hA6 hO6))
                          go_meet
                          exact ⟨cs6, HA6.out, HF6.out⟩
                      case rest =>
                        obtain ⟨cs6, hA6, hO6⟩ := hcut
                        have HA6 := Lib.hid hA6
                        have HF6 := Lib.hid (HO5w.out.trans hO6)
                        have hw6 : Ext w wc := Off.ext hw5 hO6 hp
                        have hRR6 := rel_off HRR.out (HF5.out.trans hO6 |> fun h => (Off.of_ext (hE4.trans (ext_alloc (ext_refl _) _))).trans h) (Nat.le_refl _) (Nat.le_refl _)
                        have HRR6 := Lib.hid hRR6
                        clear hA6 hO6 hRR6
                        have HOL := Lib.hid (show (onceR L (hs ++ [X])).ops.length = hs.length + 1 by simp [onceR])
                        have HR3 := Lib.hid (show (onceA t L (hs ++ [X])).rounds[3]? = some (onceR L (hs ++ [X])) by rw [once_rounds, rounds_get]; simp)
                        have HT12 := Lib.hid (tabErr_len HT.out)
                        go_wp2_with (first
                          | (go_at_call 9; refine (atable_any p _ vt _ cs6 _ HA6.out HT12.out).mono ?_; rintro e w7 ⟨v7, rfl, hown7, hE7⟩; have HOW7 := Lib.hid hown7; clear hown7)
                          | (go_at_call 8; refine (same_rule t t v7 _ _ (RdL.of_own HOW7.out (fun _ _ => trivial)) (H0.out.ext (hw6.trans hE7))).mono ?_; rintro e w8 ⟨rfl, hE8⟩; rw [decide_eq_true rfl])
                          | (go_at_call 10; refine (heard_any p _ vt _ cs6 _ (HA6.out.ext (hE7.trans hE8)) 3 _ HR3.out).mono ?_; rintro e w9 ⟨rfl, hw9⟩; obtain rfl : w8 = w9 := hw9.symm; rw [HOL.out]))
                        have HRR8 := Lib.hid (rel_ext HRR6.out (ext_drew (hE7.trans hE8)) (Nat.le_refl _))
                        have hlo8 : p + 21 ≤ w8.drew.heap.size := by have := HA6.out.top; have := (hE7.trans hE8).size; simp; omega
                        have f1 : q ≤ cf := by omega
                        have f2 : q + 1 ≤ lf.length := by omega
                        have f3 : (0 : Int) ≤ (q : Int) + 1 := by omega
                        have f4 : (q : Int) + 1 ≤ (lf.length : Int) := by omega
                        have f5 : (q : Int) ≤ (cf : Int) := by omega
                        have f6 : (lf.length : Int) ≤ (cf : Int) := by omega
                        have hwq : IntKind.i64.wrap ((q : Int) + 1) = (q : Int) + 1 := IntWalk.i64_in _ (by omega)
                        have htn : ((q : Int) + 1).toNat = q + 1 := by omega
                        by_cases hcap : cf = q + 1
                        · subst hcap
                          obtain ⟨v9, w9, hrun, hrel9, hX9⟩ := run_append_cut (off2 := off) (c2 := 0) HRR8.out hlo8 hq (by omega) (fun h => by omega)
                          clear hrun hrel9 hX9
                          go_region
                          go_wp2
                          refine ⟨⟨hs ++ [X], lf.take q ++ lf.drop (q + 1), cs6, HST.out, by simp, rel_cut0 HRR8.out hq (by omega) (by omega), HA6.out.ext (ext_drew (hE7.trans hE8)), HF6.out.trans (Off.of_ext (ext_drew (hE7.trans hE8)))⟩, ?_⟩
                          simp [intOf]
                          omega
                        · obtain ⟨v9, w9, hrun, hrel9, hX9⟩ := run_append_cut (off2 := off + (q + 1)) (c2 := cf - (q + 1)) HRR8.out hlo8 hq (by omega) (fun _ => rfl)
                          have HR9 := Lib.hid hrel9
                          have HRUN := Lib.hid hrun
                          clear hrel9 hrun
                          go_region_law (refine step_append_eq rfl (.tmp 170) (.tmp 174) _ rfl (.slice (some ⟨bf, off, none⟩) q q) (.slice (some ⟨bf, off + (q + 1), none⟩) (lf.length - (q + 1)) (cf - (q + 1))) v9 w9 (by simp [Act.eval, Act.put]) (by simp [Act.eval, Act.put]) HRUN.out ?_)
                          go_wp2
                          refine ⟨⟨hs ++ [X], lf.take q ++ lf.drop (q + 1), cs6, HST.out, by simp, HR9.out, HA6.out.ext ((ext_drew (hE7.trans hE8)).trans hX9), HF6.out.trans (Off.of_ext ((ext_drew (hE7.trans hE8)).trans hX9))⟩, ?_⟩
                          simp [intOf]
                          omega
              · have HTAIL0 := trivial
                have hlf : lf = [] := List.eq_nil_of_length_eq_zero (by omega)
                have hall : ∀ x, x < L.length → x ∈ hs := by
                  rw [HLl.out]
                  exact left_all (by have h := HP.out; rwa [hlf] at h)
                have HALL := Lib.hid hall
                have hl1 : (lf.length : Int) ≤ 0 := by omega
                have hlen0 : lf.length = 0 := by omega
                have HRDY := Lib.hid (ready_is hs HG.out (by have := HLl.out; omega) HALL.out)
                have HL200 := Lib.hid (show L.length ≤ 200 by have := HLl.out; omega)
                have hwr : Ext w wr := Off.ext hwo HF.out hp
                clear hlf hall
                go_upto_region 45 with (first
                  | (go_at_call 7; refine HRDY.out.mono ?_; rintro e w4 ⟨rfl, hE4⟩)
                  | (go_at_call 11; refine (work_is hs (HG.out.ext hE4) HL200.out HALL.out HONE.out.2.1).mono ?_; rintro e w5 ⟨v5, vt5, vd5, cs5, rfl, hr5, hA5, hO5⟩; obtain ⟨Ay, cy, rfl⟩ := slice_val hr5; have HR5 := Lib.hid hr5; have HA5 := Lib.hid hA5; have HF5 := Lib.hid hO5; clear hr5 hA5 hO5))
                have hwa : Ext w w4 := hwr.trans hE4
                have hw5 : Ext w w5 := Off.ext hwa HF5.out hp
                have HO5 := Lib.hid ((HF.out.trans (Off.of_ext hE4)).trans HF5.out)
                have hWB : w5.heap[w2.heap.size]? = some (.cells #[i64 1, .slice Al2 0 cl2, .slice Ah2 0 ch2, .slice (some ⟨tb, toff, none⟩) 1 ct] 37 (0, 0)) := (HO5.out.block _ hwbo (.inr (by omega))).trans HWB.out
                have hwbc := fun w' (e : Ext w5 w') => (net_cells hWB w' e).1
                have htbc : ∀ w', Ext w5 w' → w'.cell? ⟨tb, toff, none⟩ = some (.slice At (allTab t L).1.length tc) := fun w' e => (World.cell?_of_block (e.block (Nat.lt_of_lt_of_le htbo HO5.out.size))).trans ((World.cell?_of_block (HO5.out.block tb htbo (.inr (by omega)))).trans HTCo.out)
                have HT5 := Lib.hid (RdL.of_rel (rel_off HTRo.out HO5.out (by omega) (Nat.le_refl _)) (Nat.le_refl _))
                have HTL := Lib.hid (show (doneA t L hs).table.length ≤ 12 from allTab_len HONE.out.1 HONE.out.2.1)
                obtain ⟨_, _, hye, _, _, hy3⟩ := id HR5.out
                obtain ⟨yb, yo, hyA, hyb1, hyb2, hyr⟩ := hy3 (by simp)
                obtain ⟨ycs, hyc0, hyrel⟩ := hyr 0 _ rfl
                obtain ⟨rfl, _⟩ : ycs = (yesMsg 1 3).cells ∧ _ := hyrel
                obtain rfl : Ay = some ⟨yb, yo, none⟩ := by
                  have := (List.cons.inj hye).1
                  injection this with e1 _ _
                  exact e1.trans hyA
                have hyc1 : w5.rangeAt yb yo (yesMsg 1 3).cells := by simpa using hyc0
                have hyc := fun (w' : World) (e : w'.heap[yb]? = w5.heap[yb]?) => yes_cells (rangeAt_block hyc1 e)
                clear hyc1
                have hybp : p + 21 ≤ yb := by have := HG.out.top; have := hE4.size; omega
                have HYB := Lib.hid hyb2
                clear hye hy3 hyA hyr hyc0 hyb1 hyb2
                clear hWB
                go_region_held3 (fun w' => Ext w5 w') (first | assumption | (repeat first | assumption | exact ext_refl _ | apply ext_alloc | apply ext_drewN | apply ext_drew))
                  ((first
                    | (go_at_call 9; refine (atable_any p _ vt5 _ cs5 _ (HA5.out.ext (by repeat first | assumption | exact ext_refl _ | apply ext_drewN | apply ext_drew)) HTL.out).mono ?_; rintro e w7 ⟨v7, rfl, hown7, hE7⟩; have hX7 : Ext w5 w7 := Ext.trans (by repeat first | assumption | exact ext_refl _ | apply ext_drewN | apply ext_drew) hE7; have HOW7 := Lib.hid hown7; clear hown7)
                    | (go_at_call 8; refine (same_rule (allTab t L).1 (allTab t L).1 v7 _ _ (RdL.of_own HOW7.out (fun _ _ => trivial)) (HT5.out.ext (by repeat first | assumption | exact ext_refl _ | apply ext_drewN | apply ext_drew))).mono ?_; rintro e w8 ⟨rfl, hE8⟩; have hX8 : Ext w5 w8 := Ext.trans (by repeat first | assumption | exact ext_refl _ | apply ext_drewN | apply ext_drew) hE8; rw [decide_eq_true rfl])))
                have hyc8 := hyc w8 (hX8.block HYB.out)
                have HYC := Lib.hid hyc
                clear hyc
                go_upto_region 51 with (first
                  | (go_at_call 11; refine (work_not hs (HA5.out.ext hX8) HL200.out).mono ?_; rintro e w9 ⟨v9, vt9, vd9, cs9, rfl, hA9, hX9⟩; have HA9 := Lib.hid hA9; clear hA9)
                  | (go_at_call 12; refine (err_any 6 6 _ (HL.out.ext (hw5.trans (hX8.trans hX9)))).mono ?_; rintro e w10 ⟨rfl, hX10⟩; rw [decide_eq_true (rfl : (6 : Int) = 6)])
                  | (go_at_call 6; refine (hear_end hs (HA9.out.ext hX10)).mono ?_; rintro e w11 ⟨v11, cs11, rfl, hr11, hA11, hO11⟩; obtain ⟨A11, c11, rfl⟩ := slice_val hr11; have HR11 := Lib.hid hr11; have HF11 := Lib.hid hO11; clear hr11 hA11 hO11))
                have hX10' : Ext w5 w10 := hX8.trans (hX9.trans hX10)
                have hyc11 := HYC.out w11 ((HF11.out.block yb (Nat.lt_of_lt_of_le HYB.out hX10'.size) (.inr hybp)).trans (hX10'.block HYB.out))
                obtain ⟨_, _, hze, _, _, hz3⟩ := id HR11.out
                obtain ⟨zb, zo, hzA, hzb1, hzb2, hzr⟩ := hz3 (by simp)
                obtain ⟨zcs, hzc0, hzrel⟩ := hzr 0 _ rfl
                obtain ⟨rfl, _⟩ : zcs = (yesMsg 1 3).cells ∧ _ := hzrel
                obtain rfl : A11 = some ⟨zb, zo, none⟩ := by
                  have := (List.cons.inj hze).1
                  injection this with e1 _ _
                  exact e1.trans hzA
                have hzc := yes_cells (show w11.rangeAt zb zo (yesMsg 1 3).cells by simpa using hzc0)
                have hw11 : Ext w w11 := Off.ext (hw5.trans hX10') HF11.out hp
                clear hze hz3 hzA hzr hzc0
                go_quiet (fail)
                go_wp2
                go_ret
                exact ⟨rfl, ext_drewN hw11 _⟩
      · have HAP := Lib.hid hap
        have hd : decide ((applyN (netOne t) L).2 = 0) = false := by simpa using hap
        clear hap
        go_wp2_with (first
          | (go_at_call 5; refine (apply_any (netOne t) L _ _ _ _ _ (HNET.out _ (by repeat first | assumption | exact ext_refl _ | apply ext_alloc | apply ext_drewN | apply ext_drew)) (RdL.of_rel HLR.out (Nat.le_refl _))).mono ?_; rintro e w2 ⟨vl, vh, vt2, rfl, hrel, hX⟩; obtain ⟨Al2, cl2, rfl⟩ := slice_val hrel.1; obtain ⟨Ah2, ch2, rfl⟩ := slice_val hrel.2.1; obtain ⟨At2, ct2, rfl⟩ := slice_val hrel.2.2; clear hrel))
        go_ret
        exact ⟨rfl, ext_alloc (hwc.trans hX) _⟩
  · have hd : decide (tabErr t = 0) = false := by simpa using ht
    have HT := Lib.hid ht
    go_enter Tryd.func3, Tryd.ntmps3
    go_wp2_with (go_at_call 4; refine HN.out.mono ?_; rintro e w1 ⟨hX1, _, hA⟩; obtain rfl := hA (by rw [newErr_one]; exact HT.out); rw [newErr_one])
    go_ret
    exact ⟨rfl, hX1⟩
end Go.Proofs.YthimhcbjboffcaaDoor
