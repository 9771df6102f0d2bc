/- Words of this seat's proofs: maps that the call made. -/
import Derived.Test.YthimhcbjboffcaaDoorWords
import Derived.Maps.OwnOps
import Derived.StillTailTactics
namespace Go.Proofs.YthimhcbjboffcaaDoor
open Go Go.RowKit
section
variable {P : Program} {α : Type} [DecidableEq α]
/-- The first place of a key, and what stands there. -/
def fnd (a : α) : List (α × Value) → Nat → Option (Nat × Value)
  | [], _ => none
  | p :: r, i => if a = p.1 then some (i, p.2) else fnd a r (i + 1)
theorem fnd_none {a : α} : ∀ {m : List (α × Value)} {i : Nat}, (∀ p ∈ m, ¬ a = p.1) → fnd a m i = none
  | [], _, _ => rfl
  | p :: r, i, h => by rw [fnd, if_neg (h p (by simp)), fnd_none fun q hq => h q (by simp [hq])]
theorem fnd_some {a : α} : ∀ {m : List (α × Value)} {i : Nat}, (∃ p ∈ m, a = p.1) → ∃ j v, fnd a m i = some (i + j, v) ∧ m[j]? = some (a, v)
  | [], _, h => by obtain ⟨p, hp, _⟩ := h; simp at hp
  | p :: r, i, h => by
    by_cases e : a = p.1
    · exact ⟨0, p.2, by rw [fnd, if_pos e]; rfl, by simp [e]⟩
    · obtain ⟨q, hq, e2⟩ := h
      obtain ⟨j, v, h1, h2⟩ := fnd_some (m := r) (i := i + 1) ⟨q, by rcases List.mem_cons.1 hq with rfl | h3; exact absurd e2 e; exact h3, e2⟩
      exact ⟨j + 1, v, by rw [fnd, if_neg e, h1, Nat.add_assoc, Nat.add_comm 1 j], by simpa using h2⟩
/-- Entries that hold these keys and values. -/
def Ents (key : α → Value) (l : List MapEntry) (m : List (α × Value)) : Prop := l.map (fun e => (e.key, e.val)) = m.map (fun p => (key p.1, p.2))
/-- What is asked of a key's type. -/
structure MapKey (P : Program) (kt : TypeId) (key : α → Value) : Prop where
  check : ∀ e a w, (Instr.checkKey e 10000 kt (key a)).run P w = .ok () w
  find : ∀ a (l : List MapEntry) (m : List (α × Value)) w, Ents key l m → (Instr.findKey kt (key a) l).run P w = .ok (fnd a m 0) w
  stay : ∀ a w, (Instr.keyThatStays (key a) (key a)).run P w = .ok (key a) w
/-- Block g is a map of these. -/
def MapAt (key : α → Value) (w : World) (g : Nat) (m : List (α × Value)) : Prop := ∃ es clock, w.heap[g]? = some (.map es clock) ∧ Ents key es.toList m

omit [DecidableEq α] in
theorem MapAt.block {key : α → Value} {w w' : World} {g : Nat} {m : List (α × Value)} (h : MapAt key w g m) (hb : w'.heap[g]? = w.heap[g]?) : MapAt key w' g m := by
  obtain ⟨es, c, hg, he⟩ := h; exact ⟨es, c, hb.trans hg, he⟩
omit [DecidableEq α] in
theorem MapAt.new {key : α → Value} (w : World) : MapAt key (w.alloc (.map #[] 0)) w.heap.size [] := ⟨#[], 0, heap_alloc_new w _, rfl⟩
omit [DecidableEq α] in
theorem MapAt.lt {key : α → Value} {w : World} {g : Nat} {m : List (α × Value)} (h : MapAt key w g m) : g < w.heap.size := by
  obtain ⟨es, c, hg, _⟩ := h
  exact (Array.getElem?_eq_some_iff.1 hg).1
omit [DecidableEq α] in
theorem MapAt.ext {key : α → Value} {w w' : World} {g : Nat} {m : List (α × Value)} (h : MapAt key w g m) (hE : Ext w w') : MapAt key w' g m := h.block (hE.block h.lt)

theorem run_getObj_map {w : World} {g : Nat} {es : Array MapEntry} {c : Nat} (hg : w.heap[g]? = some (.map es c)) : (getObj g).run P w = .ok (.map es c) w := by
  simp [getObj, Sem.run, hg]
theorem run_setObj_map {w : World} {g : Nat} {es : Array MapEntry} {c : Nat} {o : Obj} (hg : w.heap[g]? = some (.map es c)) : (setObj g o).run P w = .ok () { w with heap := w.heap.setIfInBounds g o } := by
  simp [setObj, Sem.run, hg]

theorem run_lookup_map {t kt et : TypeId} {key : α → Value} (hk : MapKey P kt key) (ht : P.underlying t = some (.map kt et)) {z : Value} (hz : ∀ w, (zeroValue et).run P w = .ok z w)
    {w : World} {g : Nat} {m : List (α × Value)} (h : MapAt key w g m) (a : α) :
    (Instr.lookup t (.map (some g)) (key a) false).run P w = .ok (((fnd a m 0).map (·.2)).getD z) w := by
  obtain ⟨es, c, hg, he⟩ := h
  have hf := hk.find a es.toList m w he
  cases hq : fnd a m 0 with
  | none => rw [hq] at hf; simp [Instr.lookup, run_underlying ht, run_getObj_map hg, hk.check, hf, hz]
  | some r => rw [hq] at hf; obtain ⟨i, v⟩ := r; simp [Instr.lookup, run_underlying ht, run_getObj_map hg, hk.check, hf]
theorem run_lookup_map_ok {t kt et : TypeId} {key : α → Value} (hk : MapKey P kt key) (ht : P.underlying t = some (.map kt et)) {z : Value} (hz : ∀ w, (zeroValue et).run P w = .ok z w)
    {w : World} {g : Nat} {m : List (α × Value)} (h : MapAt key w g m) (a : α) :
    (Instr.lookup t (.map (some g)) (key a) true).run P w = .ok (.tuple #[((fnd a m 0).map (·.2)).getD z, .bool (fnd a m 0).isSome]) w := by
  obtain ⟨es, c, hg, he⟩ := h
  have hf := hk.find a es.toList m w he
  cases hq : fnd a m 0 with
  | none => rw [hq] at hf; simp [Instr.lookup, run_underlying ht, run_getObj_map hg, hk.check, hf, hz]
  | some r => rw [hq] at hf; obtain ⟨i, v⟩ := r; simp [Instr.lookup, run_underlying ht, run_getObj_map hg, hk.check, hf]

/-- What an update makes of a map. -/
def putIn (a : α) (v : Value) (m : List (α × Value)) : List (α × Value) := match fnd a m 0 with | some (i, _) => m.set i (a, v) | none => m ++ [(a, v)]
theorem run_update_map {t kt et : TypeId} {key : α → Value} (hk : MapKey P kt key) (ht : P.underlying t = some (.map kt et))
    {w : World} {g : Nat} {m : List (α × Value)} (h : MapAt key w g m) (a : α) (v : Value) :
    ∃ w', (Instr.mapUpdate t (.map (some g)) (key a) v).run P w = .ok () w' ∧ MapAt key w' g (putIn a v m) ∧ w.grownBy w' (some g) ∧ w'.heap.size = w.heap.size := by
  have hlt := h.lt
  obtain ⟨es, c, hg, he⟩ := h
  have hf := hk.find a es.toList m w he
  have hgrow : ∀ o : Obj, w.grownBy { w with heap := w.heap.setIfInBounds g o } (some g) := fun o =>
    ⟨rfl, rfl, rfl, by simp, fun k _ hne => by
      simp only [Array.getElem?_setIfInBounds]
      rw [if_neg (fun e => hne (by rw [e]))]⟩
  have hnew : ∀ (o : Obj), (w.heap.setIfInBounds g o)[g]? = some o := fun o => by simp [hlt]
  cases hq : fnd a m 0 with
  | none =>
    rw [hq] at hf
    refine ⟨_, by simp [Instr.mapUpdate, run_underlying ht, run_getObj_map hg, hk.check, hf]; exact run_setObj_map hg, ⟨_, _, hnew _, ?_⟩, hgrow _, by simp⟩
    simp only [putIn, hq, Ents, Array.toList_push, List.map_append, List.map_cons, List.map_nil] at he ⊢
    rw [he]
  | some r =>
    obtain ⟨i, u⟩ := r
    rw [hq] at hf
    have hex : ∃ p ∈ m, a = p.1 := by
      refine Classical.byContradiction fun hno => ?_
      rw [fnd_none fun p hp e => hno ⟨p, hp, e⟩] at hq
      cases hq
    obtain ⟨j, u', hj, hmj⟩ := fnd_some (i := 0) hex
    rw [hq] at hj
    simp only [Nat.zero_add, Option.some.injEq, Prod.mk.injEq] at hj
    obtain ⟨rfl, rfl⟩ := hj
    have hei : (es[i]?).map (fun e => (e.key, e.val)) = some (key a, u) := by
      have h1 := congrArg (fun l => l[i]?) he
      simp only [List.getElem?_map, hmj, Option.map_some] at h1
      simpa using h1
    obtain ⟨e, hee, hek⟩ := Option.map_eq_some_iff.1 hei
    simp only [Prod.mk.injEq] at hek
    have hil : i < es.size := (Array.getElem?_eq_some_iff.1 hee).1
    refine ⟨_, by simp [Instr.mapUpdate, run_underlying ht, run_getObj_map hg, hk.check, hf, hee, hek.1, hk.stay]; exact run_setObj_map hg, ⟨_, _, hnew _, ?_⟩, hgrow _, by simp⟩
    simp only [putIn, hq, Ents] at he ⊢
    refine List.ext_getElem? fun q => ?_
    simp only [List.getElem?_map, Array.getElem?_toList, Array.getElem?_modify, List.getElem?_set]
    by_cases hiq : i = q
    · subst hiq
      have hml : i < m.length := (List.getElem?_eq_some_iff.1 hmj).1
      simp [hee, hml]
    · rw [if_neg hiq, if_neg hiq]
      have h1 := congrArg (fun l => l[q]?) he
      simpa using h1
theorem wpList_update_map {ops : Array Oper} {rest : List Oper} {o : Oper} {act : Act} {Q : Exit → Act → World → Prop} (hgd : o.guard = none) (x y z : Operand) {t kt et : TypeId} (ho : o.op = .mapUpdate t x y z)
    {key : α → Value} (hk : MapKey P kt key) (ht : P.underlying t = some (.map kt et)) {w : World} (g : Nat) (m : List (α × Value)) (hx : act.eval x = .map (some g)) (h : MapAt key w g m) (a : α) (hy : act.eval y = key a) (v : Value) (hz : act.eval z = v)
    (hK : ∀ w', MapAt key w' g (putIn a v m) → w.grownBy w' (some g) → w'.heap.size = w.heap.size → wpList P ops Q rest (act.put o.dst undef) w') : wpList P ops Q (o :: rest) act w :=
  wpList_plain hgd fun _ hk' => by
    obtain ⟨w', hrun, h1, h2, h3⟩ := run_update_map (P := P) hk ht h a v
    unfold Oper.wp execOp
    simp only [ho, hx, hy, hz, Sem.run_bind, hrun, Result.andThen_ok, Sem.run_pure]
    exact hk' _ _ (hK w' h1 h2 h3)
theorem step_update_map {ops : Array Oper} {o : Oper} {act : Act} {K : Act → World → Prop} {Q : Exit → Act → World → Prop} {E : Prop} (hgd : o.guard = none) (x y z : Operand) {t kt et : TypeId} (ho : o.op = .mapUpdate t x y z)
    {key : α → Value} (hk : MapKey P kt key) (ht : P.underlying t = some (.map kt et)) {w : World} (g : Nat) (m : List (α × Value)) (hx : act.eval x = .map (some g)) (h : MapAt key w g m) (a : α) (hy : act.eval y = key a) (v : Value) (hz : act.eval z = v)
    (hK : ∀ w', MapAt key w' g (putIn a v m) → w.grownBy w' (some g) → w'.heap.size = w.heap.size → K (act.put o.dst undef) w') : if Region.wanted o (yielded ops act.tmps) = true then Oper.wp P o act w K Q else E := by
  have hw : Region.wanted o (yielded ops act.tmps) = true := by simp [Region.wanted, hgd]
  rw [if_pos hw]
  obtain ⟨w', hrun, h1, h2, h3⟩ := run_update_map (P := P) hk ht h a v
  unfold Oper.wp execOp
  simp only [ho, hx, hy, hz, Sem.run_bind, hrun, Result.andThen_ok, Sem.run_pure]
  exact hK w' h1 h2 h3
/-! Sets -/
/-- Block g is a set of these, as a map to true. -/
def SetAt (key : α → Value) (w : World) (g : Nat) (S : List α) : Prop := MapAt key w g (S.map fun a => (a, .bool true))
/-- Is it one of these? -/
def isIn (a : α) (S : List α) : Bool := S.any fun b => decide (a = b)
theorem isIn_iff (a : α) (S : List α) : isIn a S = true ↔ a ∈ S := by
  simp [isIn]
theorem fnd_set (a : α) : ∀ (S : List α) (i : Nat), ((fnd a (S.map fun a => (a, Value.bool true)) i).map (·.2)).getD (.bool false) = .bool (isIn a S)
  | [], _ => by simp [fnd, isIn]
  | b :: S, i => by
    rw [List.map_cons, fnd]
    by_cases e : a = b
    · simp [e, isIn]
    · simp only [if_neg e, fnd_set a S (i + 1)]; simp [e, isIn]
theorem isIn_snoc (b a : α) (S : List α) (h : isIn b S = false) (hne : ¬ b = a) : isIn b (S ++ [a]) = false := by
  unfold isIn at h ⊢
  rw [List.any_append, h]; simp [hne]
theorem putIn_set {a : α} {S : List α} (h : isIn a S = false) : putIn a (.bool true) (S.map fun a => (a, .bool true)) = (S ++ [a]).map fun a => (a, .bool true) := by
  rw [putIn, fnd_none]
  · simp
  · intro p hp e
    obtain ⟨b, hb, rfl⟩ := List.mem_map.1 hp
    have := (isIn_iff a S).2 (e ▸ hb)
    rw [h] at this; cases this
end
/-! ### The kinds of keys -/
theorem findKey_now {P : Program} {α : Type} [DecidableEq α] {kt : TypeId} {d : TypeDesc} (ht : P.underlying kt = some d) {key : α → Value} (hs : ∀ a b, Instr.sameNow d (key a) (key b) = some (decide (a = b))) (a : α) (w : World) (l : List MapEntry) (m : List (α × Value)) (h : Ents key l m) :
    (Instr.findKey kt (key a) l).run P w = .ok (fnd a m 0) w := by
  have hgo : ∀ (l : List MapEntry) (m : List (α × Value)) (i : Nat), Ents key l m → Instr.findNow d (key a) l i = some (fnd a m i) := by
    intro l
    induction l with
    | nil => intro m i h; cases m with
      | nil => rfl
      | cons p m => simp [Ents] at h
    | cons e l ih =>
      intro m i h
      cases m with
      | nil => simp [Ents] at h
      | cons p m =>
        simp only [Ents, List.map_cons, List.cons.injEq, Prod.mk.injEq] at h
        rw [Instr.findNow, h.1.1, hs]
        by_cases e1 : a = p.1
        · simp [fnd, e1, h.1.2]
        · simp [fnd, e1, ih m (i + 1) h.2]
  simp [Instr.findKey, run_underlying ht, hgo l m 0 h]
theorem findKey_ask {P : Program} {α : Type} [DecidableEq α] {kt : TypeId} {d : TypeDesc} (ht : P.underlying kt = some d) {key : α → Value} (hs : ∀ a b, Instr.sameNow d (key a) (key b) = none) (hq : ∀ a b w, (Op.equal kt (key a) (key b)).run P w = .ok (decide (a = b)) w)
    (a : α) (w : World) (l : List MapEntry) (m : List (α × Value)) (h : Ents key l m) : (Instr.findKey kt (key a) l).run P w = .ok (fnd a m 0) w := by
  have hgo : ∀ (l : List MapEntry) (m : List (α × Value)) (i : Nat), Ents key l m → (Instr.findAsking kt (key a) l i).run P w = .ok (fnd a m i) w := by
    intro l
    induction l with
    | nil => intro m i h; cases m with
      | nil => simp [Instr.findAsking, fnd]
      | cons p m => simp [Ents] at h
    | cons e l ih =>
      intro m i h
      cases m with
      | nil => simp [Ents] at h
      | cons p m =>
        simp only [Ents, List.map_cons, List.cons.injEq, Prod.mk.injEq] at h
        rw [Instr.findAsking, h.1.1]
        by_cases e1 : a = p.1
        · simp [fnd, e1, h.1.2, hq]
        · simp [fnd, e1, ih m (i + 1) h.2, hq]
  cases l with
  | nil => cases m with
    | nil => simp [Instr.findKey, run_underlying ht, Instr.findNow, fnd]
    | cons p m => simp [Ents] at h
  | cons e l =>
    cases m with
    | nil => simp [Ents] at h
    | cons p m =>
      have h0 := h
      simp only [Ents, List.map_cons, List.cons.injEq, Prod.mk.injEq] at h
      have hn : Instr.findNow d (key a) (e :: l) 0 = none := by rw [Instr.findNow, h.1.1, hs]
      simp [Instr.findKey, run_underlying ht, hn, hgo (e :: l) (p :: m) 0 h0]
theorem beq_bytes (a b : ByteArray) : (a == b) = decide (a = b) := by
  by_cases h : a = b
  · subst h; rw [beq_toListBytes]; simp
  · rw [beq_toListBytes]; simp [h, toList_ne h]
theorem key_string : MapKey Tryd.prog 9 Value.string where
  check := fun e a w => by kernel_rfl
  find := fun a l m w h => findKey_now Tryd.underlying9 (fun a b => by simp [Instr.sameNow, beq_bytes]) a w l m h
  stay := fun a w => by simp [Instr.keyThatStays, Instr.sameBits, beq_bytes]
theorem key_int : MapKey Tryd.prog 3 i64 where
  check := fun e a w => by kernel_rfl
  find := fun a l m w h => findKey_now Tryd.underlying3 (fun a b => by by_cases e : a = b <;> simp [Instr.sameNow, e]) a w l m h
  stay := fun a w => by simp [Instr.keyThatStays, Instr.sameBits]
def spotKey (s : Spot) : Value := .agg #[i64 s.switch, i64 s.port]
theorem key_spot : MapKey Tryd.prog 88 spotKey where
  check := fun e a w => by kernel_rfl
  find := fun a l m w h => findKey_ask Tryd.underlying88 (fun a b => rfl) (fun a b w => by
    have h := eqlIn_spot a.switch b.switch a.port b.port w
    show (Op.equalIn 10000 _ _ _).run _ _ = _
    rw [show spotKey a = .agg #[i64 a.switch, i64 a.port] from rfl, show spotKey b = .agg #[i64 b.switch, i64 b.port] from rfl, h, decide_eq_decide.2 (Spot.eq_iff a b)]) a w l m h
  stay := fun a w => by simp [Instr.keyThatStays, Instr.sameBits, spotKey]
end Go.Proofs.YthimhcbjboffcaaDoor
