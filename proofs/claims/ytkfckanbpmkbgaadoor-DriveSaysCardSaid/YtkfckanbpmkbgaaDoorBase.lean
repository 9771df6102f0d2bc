/- Words of this seat's proofs: plain data, how they lie in memory, what is kept. No walk stands here. -/
import Derived.Below
import Derived.Laws.OwnMore
import Derived.Deep.Draws
import Derived.Deep.MidRow
import Derived.WalkKit
import Derived.WalkLawsBesides
import Derived.WalkSpells
import Derived.Outline
import Derived.Test.YtkfckanbpmkbgaaDoorProg
namespace Go.Proofs.YtkfckanbpmkbgaaDoor
open Go Go.RowKit

/-! ### What was there is as it was -/
/-- The world w' is W, and more: blocks of W are as they were. -/
def Ext (W w' : World) : Prop := Below W.heap.size W w'
theorem Ext.below {W w' : World} (h : Ext W w') : Below W.heap.size W w' := h
theorem Ext.rfl' {W : World} : Ext W W := Below.refl _ _
theorem Ext.trans {a b c : World} (h : Ext a b) (k : Ext b c) : Ext a c := Below.trans h (Below.mono k h.below.size)
theorem Ext.size {a b : World} (h : Ext a b) : a.heap.size ≤ b.heap.size := h.below.size
theorem Ext.block {a b : World} (h : Ext a b) {k : Nat} (hk : k < a.heap.size) : b.heap[k]? = a.heap[k]? := h.below.block k hk
theorem Ext.mk {a b : World} (h : Below a.heap.size a b) : Ext a b := h
theorem ext_refl (W : World) : Ext W W := Below.refl _ _
theorem ext_alloc {W w : World} (h : Ext W w) (o : Obj) : Ext W (w.alloc o) := Below.alloc h h.size o
theorem ext_drew {W w : World} (h : Ext W w) : Ext W w.drew := Below.drew h
theorem ext_drewN {W w : World} (h : Ext W w) (n : Nat) : Ext W (w.drewN n) := ⟨h.below.os, h.below.tape, h.below.output, h.below.size, h.below.block⟩
theorem ext_set {W w : World} (h : Ext W w) (p : Addr) (hp : W.heap.size ≤ p.block) (u : Value) : Ext W (w.setCell p u) := Below.setCell h hp u
attribute [simp, go_sem] ext_refl ext_alloc ext_drew ext_drewN
/-- What the walk uses as rules: old cells and marks. -/
theorem Ext.cells {W w' : World} (h : Ext W w') : (∀ b o, b < W.heap.size → w'.cell? ⟨b, o, none⟩ = W.cell? ⟨b, o, none⟩) ∧ (∀ b o, b < W.heap.size → w'.frozen? ⟨b, o, none⟩ = W.frozen? ⟨b, o, none⟩) :=
  ⟨fun b o hb => h.below.cell (p := ⟨b, o, none⟩) hb, fun b o hb => h.below.frozen (p := ⟨b, o, none⟩) hb⟩

theorem Ext.trans' {a b c : World} (h : Ext b c) (k : Ext a b) : Ext a c := k.trans h
theorem Ext.of_box {w w' : World} {o : Obj} (h : Ext (w.alloc o) w') : Ext w w' := (ext_alloc (ext_refl w) o).trans h
/-- To stop a walk at an operation: 'refine stop ?_' in an arm; 'show' behind it. -/
def Stop (p : Prop) : Prop := p
theorem stop {p : Prop} (h : Stop p) : p := h
theorem Stop.mk {p : Prop} (h : p) : Stop p := h

/-! ### Data as cells -/
/-- How data of one kind lie in cells: 'rel w lo hi a cs': the cells cs, with blocks from lo to hi in w, read as a. -/
structure Ty (α : Type) where
  size : Nat
  rel : World → Nat → Nat → α → List Value → Prop
  len : ∀ {w lo hi a cs}, rel w lo hi a cs → cs.length = size
  ext : ∀ {w w' lo hi lo' hi' a cs}, rel w lo hi a cs → (∀ b, lo ≤ b → b < hi → w'.heap[b]? = w.heap[b]?) → lo' ≤ lo → hi ≤ hi' → rel w' lo' hi' a cs

/-- Data that hold no reference: so many cells; 'ok': what is known of each (a text's length). -/
def Ty.flat {α : Type} (n : Nat) (enc : α → List Value) (h : ∀ a, (enc a).length = n) (ok : α → Prop) : Ty α where
  size := n
  rel := fun _ _ _ a cs => cs = enc a ∧ ok a
  len := by rintro _ _ _ a cs ⟨rfl, _⟩; exact h a
  ext := fun h _ _ _ => h

/-- The cells of a row from an offset on hold so many things, one behind the other. -/
def rowAt {α : Type} (T : Ty α) (w : World) (lo hi b off : Nat) (xs : List α) : Prop :=
  ∀ k x, xs[k]? = some x → ∃ cs, w.rangeAt b (off + k * T.size) cs ∧ T.rel w lo hi x cs

theorem rangeAt_block {w w' : World} {b o : Nat} {cs : List Value} (h : w.rangeAt b o cs) (hb : w'.heap[b]? = w.heap[b]?) : w'.rangeAt b o cs :=
  fun j v hv => by rw [World.cell?_of_block (a := ⟨b, o + j, none⟩) hb]; exact h j v hv

theorem rowAt.ext {α : Type} {T : Ty α} {w w' : World} {lo hi lo' hi' b off : Nat} {xs : List α} (h : rowAt T w lo hi b off xs) (hb : w'.heap[b]? = w.heap[b]?)
    (hk : ∀ b, lo ≤ b → b < hi → w'.heap[b]? = w.heap[b]?) (h1 : lo' ≤ lo) (h2 : hi ≤ hi') : rowAt T w' lo' hi' b off xs := fun k x hx => by
  obtain ⟨cs, hc, hr⟩ := h k x hx
  exact ⟨cs, rangeAt_block hc hb, T.ext hr hk h1 h2⟩

/-- A slice: nil, empty or not. -/
def Ty.slice {α : Type} (T : Ty α) : Ty (List α) where
  size := 1
  rel := fun w lo hi xs cs => ∃ A c, cs = [.slice A xs.length c] ∧ xs.length ≤ c ∧ c ≤ maxLen ∧
    (xs ≠ [] → ∃ b off, A = some ⟨b, off, none⟩ ∧ lo ≤ b ∧ b < hi ∧ rowAt T w lo hi b off xs)
  len := by rintro _ _ _ xs cs ⟨A, c, rfl, _⟩; rfl
  ext := by
    rintro w w' lo hi lo' hi' xs cs ⟨A, c, rfl, h1, h2, h3⟩ hk hlo hhi
    refine ⟨A, c, rfl, h1, h2, fun hne => ?_⟩
    obtain ⟨b, off, rfl, hb1, hb2, hr⟩ := h3 hne
    exact ⟨b, off, rfl, Nat.le_trans hlo hb1, Nat.lt_of_lt_of_le hb2 hhi, hr.ext (hk b hb1 hb2) hk hlo hhi⟩

/-- Cells that read as a datum, whatever the blocks. -/
def Rd {α : Type} (T : Ty α) (w : World) (a : α) (cs : List Value) : Prop := T.rel w 0 w.heap.size a cs
theorem Rd.ext {α : Type} {T : Ty α} {w w' : World} {a : α} {cs : List Value} (h : Rd T w a cs) (hE : Ext w w') : Rd T w' a cs :=
  T.ext h (fun _ _ hb => hE.block hb) (Nat.le_refl _) hE.size
/-- A slice of things, by its value. -/
def RdL {α : Type} (T : Ty α) (w : World) (xs : List α) (v : Value) : Prop := Rd T.slice w xs [v]
theorem RdL.ext {α : Type} {T : Ty α} {w w' : World} {xs : List α} {v : Value} (h : RdL T w xs v) (hE : Ext w w') : RdL T w' xs v := Rd.ext h hE

theorem RdL.of_rel {α : Type} {T : Ty α} {w : World} {lo hi : Nat} {xs : List α} {v : Value} (h : T.slice.rel w lo hi xs [v]) (hhi : hi ≤ w.heap.size) : RdL T w xs v := T.slice.ext h (fun _ _ _ => rfl) (Nat.zero_le _) hhi
theorem slice_val {α : Type} {T : Ty α} {w : World} {lo hi : Nat} {xs : List α} {v : Value} (h : T.slice.rel w lo hi xs [v]) : ∃ A c, v = .slice A xs.length c := by
  obtain ⟨A, c, e, _⟩ := h
  exact ⟨A, c, (List.cons.inj e).1⟩
theorem rel_none {α : Type} (T : Ty α) (w : World) (lo hi : Nat) : T.slice.rel w lo hi [] [.slice none 0 0] := ⟨none, 0, rfl, Nat.le_refl _, by simp [maxLen], fun h => absurd rfl h⟩
/-- A slice, taken apart. -/
theorem RdL.form {α : Type} {T : Ty α} {w : World} {xs : List α} {v : Value} (h : RdL T w xs v) : ∃ A c, v = .slice A xs.length c ∧ xs.length ≤ c ∧ c ≤ maxLen ∧
    (xs ≠ [] → ∃ b off, A = some ⟨b, off, none⟩ ∧ b < w.heap.size ∧ rowAt T w 0 w.heap.size b off xs) := by
  obtain ⟨A, c, hv, h1, h2, h3⟩ := h
  refine ⟨A, c, List.cons.inj hv |>.1, h1, h2, fun hne => ?_⟩
  obtain ⟨b, off, e, _, hb, hr⟩ := h3 hne
  exact ⟨b, off, e, hb, hr⟩
theorem RdL.mk {α : Type} {T : Ty α} {w : World} {xs : List α} {A : Option Addr} {c : Nat} (h1 : xs.length ≤ c) (h2 : c ≤ maxLen)
    (h3 : xs ≠ [] → ∃ b off, A = some ⟨b, off, none⟩ ∧ b < w.heap.size ∧ rowAt T w 0 w.heap.size b off xs) : RdL T w xs (.slice A xs.length c) :=
  ⟨A, c, rfl, h1, h2, fun hne => by obtain ⟨b, off, e, hb, hr⟩ := h3 hne; exact ⟨b, off, e, Nat.zero_le _, hb, hr⟩⟩
/-- The k-th thing of a slice that is not past its end: where it lies. -/
theorem RdL.at_ {α : Type} {T : Ty α} {w : World} {xs : List α} {A : Option Addr} {n c : Nat} (h : RdL T w xs (.slice A n c)) {k : Nat} (hk : k < xs.length) :
    ∃ b off, A = some ⟨b, off, none⟩ ∧ b < w.heap.size ∧ rowAt T w 0 w.heap.size b off xs := by
  obtain ⟨A', c', hv, _, _, h3⟩ := h.form
  obtain ⟨b, off, e, hb, hr⟩ := h3 (by intro e; subst e; simp at hk)
  injection hv with h1 _ _
  exact ⟨b, off, h1.trans e, hb, hr⟩

theorem RdL.take {α : Type} {T : Ty α} {w : World} {xs : List α} {A : Option Addr} {n c k : Nat} (h : RdL T w xs (.slice A n c)) (hk : k ≤ xs.length) : RdL T w (xs.take k) (.slice A k c) := by
  obtain ⟨A', c', hv, h1, h2, h3⟩ := h.form
  injection hv with e1 e2 e3
  subst e1 e3
  have hl : (xs.take k).length = k := by rw [List.length_take]; omega
  have := RdL.mk (T := T) (w := w) (xs := xs.take k) (A := A) (c := c) (by omega) h2 (fun hne => by
    obtain ⟨b, off, e, hb, hr⟩ := h3 (by intro e; subst e; simp at hne)
    exact ⟨b, off, e, hb, fun j x hx => hr j x (by rw [List.getElem?_take] at hx; split at hx <;> simp_all)⟩)
  rwa [hl] at this
theorem rangeAt_new (w : World) (cs : List Value) (t : TypeId) : (w.alloc (.cells cs.toArray t)).rangeAt w.heap.size 0 cs := fun j v hv => by
  rw [World.cell?_alloc_at _ _ _ _ rfl]; simpa using hv

abbrev i64 (n : Int) : Value := .int .i64 n
def TInt : Ty Int := Ty.flat 1 (fun n => [i64 n]) (fun _ => rfl) (fun _ => True)
/-! ### Errors: numbers -/
/-- The error value of a number; 0: nil. -/
def errV (n : Int) : Value := if n = 0 then .nilIface else .iface 59 (i64 n)
@[go_sem] theorem errV_ne (n : Int) (w : World) : (binOp .neq 25 (errV n) .nilIface).run Tryd.prog w = .ok (.bool (decide (n ≠ 0))) w := by
  unfold errV; split <;> rename_i h <;> simp [h, go_sem]
@[go_sem] theorem errV_eq (n : Int) (w : World) : (binOp .eql 25 (errV n) .nilIface).run Tryd.prog w = .ok (.bool (decide (n = 0))) w := by
  unfold errV; split <;> rename_i h <;> simp [h, go_sem]
@[go_sem] theorem errV_guard (op : BinOp) (t : TypeId) (x : Operand) (n : Int) : eqGuard op t x (.const .nilIface) (errV n) .nilIface = pure () := by
  by_cases h : n = 0
  · rw [show errV n = .nilIface from if_pos h]; cases op <;> cases x <;> rfl
  · rw [show errV n = .iface 59 (i64 n) from if_neg h]; cases op <;> rfl
theorem errV_zero : errV 0 = .nilIface := if_pos rfl
theorem errV_of {n : Int} (h : n ≠ 0) : errV n = .iface 59 (i64 n) := if_neg h

theorem mf (fn : Fn) (first cap : Array Value) (w : World) : (Instr.makeFunc fn first cap).run Tryd.prog w = .ok (.func fn first cap) w := rfl
theorem nz_of {n : Int} (h : (!decide (n = 0)) = true) : ¬ n = 0 := by simpa using h
theorem z_of {n : Int} (h : (!decide (n = 0)) = false) : n = 0 := by simpa using h
theorem ret_int {a b : Int} (h : a = b) : Ending.returned (i64 a) = .returned (i64 b) := by rw [h]
theorem ret_bool {a b : Bool} (h : a = b) : Ending.returned (.bool a) = .returned (.bool b) := by rw [h]
theorem ret_err {a b : Int} (h : a = b) : Ending.returned (errV a) = .returned (errV b) := by rw [h]
/-! ### Looking for one -/
/-- The first place at which p holds; -1: none. -/
def idxOf {α : Type} (p : α → Bool) (xs : List α) : Int := if xs.findIdx p < xs.length then (xs.findIdx p : Int) else -1
theorem idxOf_none {α : Type} {p : α → Bool} {xs : List α} (h : ∀ (j : Nat) x, xs[j]? = some x → p x = false) : idxOf p xs = -1 := by
  unfold idxOf
  rw [if_neg]
  intro hlt
  have := List.findIdx_getElem (w := hlt)
  have h2 := h _ _ (List.getElem?_eq_getElem hlt)
  rw [h2] at this; cases this
theorem idxOf_at {α : Type} {p : α → Bool} {xs : List α} {k : Nat} {x : α} (hx : xs[k]? = some x) (hp : p x = true) (h : ∀ (j : Nat) y, j < k → xs[j]? = some y → p y = false) : idxOf p xs = k := by
  obtain ⟨hk, rfl⟩ := List.getElem?_eq_some_iff.1 hx
  have e : xs.findIdx p = k := by
    rw [List.findIdx_eq hk]
    refine ⟨hp, fun j hj => ?_⟩
    have := h j _ hj (List.getElem?_eq_getElem (by omega))
    simpa using this
  unfold idxOf
  rw [if_pos (by omega), e]
theorem none_succ {α : Type} {p : α → Bool} {xs : List α} {k : Nat} (hk : k < xs.length) (h : ∀ (j : Nat) x, j < k → xs[j]? = some x → p x = false) (hp : p xs[k] = false) :
    ∀ (j : Nat) x, j < k + 1 → xs[j]? = some x → p x = false := fun j x hj hx => by
  rcases Nat.lt_succ_iff_lt_or_eq.1 hj with h1 | h1
  · exact h j x h1 hx
  · subst h1; rw [List.getElem?_eq_getElem hk] at hx; cases hx; exact hp
theorem idxOf_nonneg {α : Type} (p : α → Bool) (xs : List α) : decide (0 ≤ idxOf p xs) = xs.any p := by
  unfold idxOf
  cases h : xs.any p with
  | false =>
    rw [if_neg (by rw [List.findIdx_lt_length]; simpa using h)]; rfl
  | true => rw [if_pos (by rw [List.findIdx_lt_length]; simpa using h)]; simp
theorem idxOf_lt {α : Type} (p : α → Bool) (xs : List α) (h : 0 ≤ idxOf p xs) : ∃ k : Nat, idxOf p xs = k ∧ k < xs.length := by
  unfold idxOf at h ⊢
  split
  · exact ⟨_, rfl, ‹_›⟩
  · rename_i h1; rw [if_neg h1] at h; omega
theorem idx_cases {α : Type} (p : α → Bool) (xs : List α) : idxOf p xs = -1 ∨ ∃ k : Nat, idxOf p xs = k ∧ k < xs.length := by
  unfold idxOf
  split
  · exact .inr ⟨_, rfl, ‹_›⟩
  · exact .inl rfl
theorem ret_tup {v : Value} {a b : Int} (h : a = b) : Ending.returned (.tuple #[v, errV a]) = .returned (.tuple #[v, errV b]) := by rw [h]
theorem ret_tup0 {v : Value} : Ending.returned (.tuple #[v, .nilIface]) = .returned (.tuple #[v, errV 0]) := by rw [errV_zero]
/-- A closure that asks p of things. -/
def Asks {α : Type} (T : Ty α) (W : World) (val : List Value → Value) (xs : List α) (g : FuncId) (cap : Array Value) (p : α → Bool) : Prop :=
  ∀ x ∈ xs, ∀ cs w', T.rel W 0 W.heap.size x cs → Ext W w' → Calls Tryd.prog g (#[val cs] ++ cap) w' fun e w'' => e = .returned (.bool (p x)) ∧ Ext w' w''
abbrev aggOf (cs : List Value) : Value := .agg cs.toArray
abbrev oneOf (cs : List Value) : Value := cs.headD undef
end Go.Proofs.YtkfckanbpmkbgaaDoor
