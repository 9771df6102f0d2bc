/- From what is handed to the call to plain data: each type of this seat is opened. -/
import Derived.Test.YtkfckanbpmkbgaaDoorStructs
import Derived.Test.YtkfckanbpmkbgaaDoorRows
import Derived.Deep.Slices
import Derived.ChangeSame
import Derived.ChangeVars
import Derived.ChangeOld
import Derived.JoinedOf
import Derived.RowKit
import Derived.RowKitTokens
import Derived.LaidLaws
import Derived.LaidHandle
import Derived.Stop.Joined
import Derived.Carry
import Derived.OpenShut
namespace Go.Proofs.YtkfckanbpmkbgaaDoor
open Go Go.ChangeShapes Go.WideShapes Go.RowKit
set_option maxRecDepth 100000
/-- What reads at type t lies as T says. -/
def Opens {α : Type} (T : Ty α) (t : TypeId) : Prop := ∀ (H : Type) (enc : TypeId × Value → H) (w : World) (base : Nat) (sp : Nat → Bool) (held : Bool) (fuel : Nat) (cs : List Value) (x : DataW H × List MemPlace),
  DataW.trod enc Tryd.prog w base sp held fuel t cs = some x → ∃ a, T.rel w 0 w.heap.size a cs
theorem cc_int : Tryd.prog.cellsOf 3 = 1 := by kernel_rfl
theorem opens_int : Opens TInt 3 := fun H enc w base sp held fuel cs x h => by
  obtain ⟨n, rfl, _, _⟩ := DataW.trod_int Tryd.underlying3 h
  exact ⟨n, rfl, trivial⟩
theorem addr_of_cell {w : World} {a : Addr} {v : Value} (h : w.cell? a = some v) : ∃ b o, a = ⟨b, o, none⟩ ∧ b < w.heap.size := by
  obtain ⟨b, o, s⟩ := a
  unfold World.cell? at h
  split at h
  · rename_i hb
    split at h
    · cases h
    · rename_i hs
      cases s with
      | none => exact ⟨b, o, rfl, (Array.getElem?_eq_some_iff.1 hb).1⟩
      | some x => simp at hs
  · cases h
theorem opens_slice {α : Type} [Inhabited α] {T : Ty α} {t e : TypeId} (ht : Tryd.prog.underlying t = some (.slice e)) (hC : Tryd.prog.cellsOf e = T.size) (hpos : 0 < T.size) (hT : Opens T e) : Opens T.slice t := fun H enc w base sp held fuel cs x h => by
  rcases Deep.open_slice ht h with ⟨rfl, _⟩ | ⟨a, len, cap, m, n, D, Pl, rfl, _, hl, hm, hmm, _, hi⟩
  · exact ⟨[], none, 0, rfl, Nat.le_refl _, by simp [maxLen], fun hne => absurd rfl hne⟩
  · have hle : len ≤ m := by rw [hmm]; split <;> omega
    rw [hC] at hi
    have hx : ∀ i, i < len → ∃ x, ∃ cs', T.rel w 0 w.heap.size x cs' ∧ cs'.length = T.size ∧ ∀ j, j < T.size → w.cell? (a.add (i * T.size + j)) = cs'[j]? := fun i hil => by
      obtain ⟨cs', hc, htr⟩ := hi i (by omega)
      obtain ⟨x, hr⟩ := hT _ _ _ _ _ _ _ _ _ htr
      obtain ⟨_, hcl, hat⟩ := World.cells?_some hc
      exact ⟨x, cs', hr, hcl, fun j hj => by rw [← Addr.add_add]; exact hat j hj⟩
    obtain ⟨f, hf⟩ := Deep.choose_lt hx
    have hlen : ((List.range len).map f).length = len := by simp
    refine ⟨(List.range len).map f, some a, cap, by rw [hlen], by rw [hlen]; exact hl, hm, fun hne => ?_⟩
    have h0 : 0 < len := by
      rcases Nat.eq_zero_or_pos len with h0 | h0
      · subst h0; exact absurd rfl hne
      · exact h0
    obtain ⟨cs0, _, hl0, hc0⟩ := hf 0 h0
    have hcell := hc0 0 hpos
    rw [Nat.zero_mul, List.getElem?_eq_getElem (by omega)] at hcell
    obtain ⟨b, o, rfl, hb⟩ := addr_of_cell (a := a) (by simpa [Addr.add] using hcell)
    refine ⟨b, o, rfl, Nat.zero_le _, hb, fun k x hk => ?_⟩
    have hkl : k < len := by have := (List.getElem?_eq_some_iff.1 hk).1; simpa using this
    obtain ⟨cs', hr, hcl, hc⟩ := hf k hkl
    have hfx : x = f k := by simpa [hkl] using hk.symm
    subst hfx
    refine ⟨cs', fun j v hv => ?_, hr⟩
    have hj : j < T.size := by have := (List.getElem?_eq_some_iff.1 hv).1; omega
    have := hc j hj
    rw [Addr.add_mid, hv] at this
    rw [Nat.add_assoc]; exact this
/-- A slice that is handed. -/
theorem Opens.arg {α : Type} {T : Ty α} {t e : TypeId} (hO : Opens T.slice t) (ht : Tryd.prog.underlying t = some (.slice e)) {H : Type} {enc : TypeId × Value → H} {w : World} {base : Nat} {sp : Nat → Bool} {held : Bool} {r : Reach} {b0 : Nat} {v : Value} {d : DataW H} {ps : List MemPlace}
    (hv : Value.okWide Tryd.prog w r b0 t v) (h : DataW.Trod enc Tryd.prog w base sp held t v d ps) : ∃ xs, RdL T w xs v := by
  obtain ⟨a, l, c, rfl⟩ := okWide_slice ht hv
  obtain ⟨fuel, hf⟩ := h
  obtain ⟨xs, hr⟩ := hO _ _ _ _ _ _ _ _ _ hf
  exact ⟨xs, hr⟩
theorem cc_bool : Tryd.prog.cellsOf 4 = 1 := by kernel_rfl
theorem opens_string : Opens (Ty.flat 1 (fun s : ByteArray => [Value.string s]) (fun _ => rfl) (fun s => s.size ≤ maxLen)) 9 := fun H enc w base sp held fuel cs x h => by
  obtain ⟨s, rfl, _, hs⟩ := DataW.trod_string Tryd.underlying9 h
  exact ⟨s, rfl, hs⟩
theorem cc_string : Tryd.prog.cellsOf 9 = 1 := by kernel_rfl
theorem cc_cube : Tryd.prog.cellsOf 33 = 2 := by kernel_rfl
instance : Inhabited Cube := ⟨0, 0⟩
theorem opens_cube : Opens TCube 33 := fun H enc w base sp held fuel cs x h => by
  obtain ⟨xs, n, _, _, hlen, hxl, hf⟩ := DataW.trod_struct Tryd.underlying33 h
  rw [cc_cube] at hlen
  match cs, hlen with
  | [c0, c1], _ =>
    have h0 := hf 0
    simp only [List.getElem?_toArray, List.getElem?_cons_zero, List.getElem?_cons_succ, Option.some.injEq, forall_eq', cc_int, cc_bool, cc_string, List.drop_succ_cons, List.drop_zero, List.take_succ_cons, List.take_zero] at h0
    rw [List.getElem?_eq_getElem (by rw [hxl]; exact Nat.lt_of_lt_of_le (by decide) (Nat.le_refl _))] at h0
    obtain ⟨v0, e0, _, _⟩ := DataW.trod_int Tryd.underlying3 h0
    have h1 := hf 1
    simp only [List.getElem?_toArray, List.getElem?_cons_zero, List.getElem?_cons_succ, Option.some.injEq, forall_eq', cc_int, cc_bool, cc_string, List.drop_succ_cons, List.drop_zero, List.take_succ_cons, List.take_zero] at h1
    rw [List.getElem?_eq_getElem (by rw [hxl]; exact Nat.lt_of_lt_of_le (by decide) (Nat.le_refl _))] at h1
    obtain ⟨v1, e1, _, _⟩ := DataW.trod_int Tryd.underlying3 h1
    have e : [c0, c1] = (Cube.mk v0 v1).cells := by
      simp only [Cube.cells, List.cons.injEq, and_true] at *
      simp_all
    exact ⟨_, e, trivial⟩
theorem cc_rule : Tryd.prog.cellsOf 35 = 6 := by kernel_rfl
instance : Inhabited Rule := ⟨0, default, 0, 0, 0⟩
theorem opens_rule : Opens TRule 35 := fun H enc w base sp held fuel cs x h => by
  obtain ⟨xs, n, _, _, hlen, hxl, hf⟩ := DataW.trod_struct Tryd.underlying35 h
  rw [cc_rule] at hlen
  match cs, hlen with
  | [c0, c1, c2, c3, c4, c5], _ =>
    have h0 := hf 0
    simp only [List.getElem?_toArray, List.getElem?_cons_zero, List.getElem?_cons_succ, Option.some.injEq, forall_eq', cc_int, cc_bool, cc_string, List.drop_succ_cons, List.drop_zero, List.take_succ_cons, List.take_zero] at h0
    rw [List.getElem?_eq_getElem (by rw [hxl]; exact Nat.lt_of_lt_of_le (by decide) (Nat.le_refl _))] at h0
    obtain ⟨v0, e0, _, _⟩ := DataW.trod_int Tryd.underlying3 h0
    have h1 := hf 1
    simp only [List.getElem?_toArray, List.getElem?_cons_zero, List.getElem?_cons_succ, Option.some.injEq, forall_eq', cc_int, cc_bool, cc_string, cc_cube, List.drop_succ_cons, List.drop_zero, List.take_succ_cons, List.take_zero] at h1
    rw [List.getElem?_eq_getElem (by rw [hxl]; exact Nat.lt_of_lt_of_le (by decide) (Nat.le_refl _))] at h1
    obtain ⟨v1, e1, k1⟩ := opens_cube _ _ _ _ _ _ _ _ _ h1
    have h2 := hf 2
    simp only [List.getElem?_toArray, List.getElem?_cons_zero, List.getElem?_cons_succ, Option.some.injEq, forall_eq', cc_int, cc_bool, cc_string, List.drop_succ_cons, List.drop_zero, List.take_succ_cons, List.take_zero] at h2
    rw [List.getElem?_eq_getElem (by rw [hxl]; exact Nat.lt_of_lt_of_le (by decide) (Nat.le_refl _))] at h2
    obtain ⟨v2, e2, _, _⟩ := DataW.trod_int Tryd.underlying3 h2
    have h3 := hf 3
    simp only [List.getElem?_toArray, List.getElem?_cons_zero, List.getElem?_cons_succ, Option.some.injEq, forall_eq', cc_int, cc_bool, cc_string, List.drop_succ_cons, List.drop_zero, List.take_succ_cons, List.take_zero] at h3
    rw [List.getElem?_eq_getElem (by rw [hxl]; exact Nat.lt_of_lt_of_le (by decide) (Nat.le_refl _))] at h3
    obtain ⟨v3, e3, _, _⟩ := DataW.trod_int Tryd.underlying3 h3
    have h4 := hf 4
    simp only [List.getElem?_toArray, List.getElem?_cons_zero, List.getElem?_cons_succ, Option.some.injEq, forall_eq', cc_int, cc_bool, cc_string, List.drop_succ_cons, List.drop_zero, List.take_succ_cons, List.take_zero] at h4
    rw [List.getElem?_eq_getElem (by rw [hxl]; exact Nat.lt_of_lt_of_le (by decide) (Nat.le_refl _))] at h4
    obtain ⟨v4, e4, _, _⟩ := DataW.trod_int Tryd.underlying3 h4
    have e : [c0, c1, c2, c3, c4, c5] = (Rule.mk v0 v1 v2 v3 v4).cells := by
      simp only [Cube.cells, Rule.cells, List.cons.injEq, and_true] at *
      simp_all
    exact ⟨_, e, trivial⟩
theorem cc_op : Tryd.prog.cellsOf 37 = 8 := by kernel_rfl
instance : Inhabited Op := ⟨0, false, default⟩
theorem opens_op : Opens TOp 37 := fun H enc w base sp held fuel cs x h => by
  obtain ⟨xs, n, _, _, hlen, hxl, hf⟩ := DataW.trod_struct Tryd.underlying37 h
  rw [cc_op] at hlen
  match cs, hlen with
  | [c0, c1, c2, c3, c4, c5, c6, c7], _ =>
    have h0 := hf 0
    simp only [List.getElem?_toArray, List.getElem?_cons_zero, List.getElem?_cons_succ, Option.some.injEq, forall_eq', cc_int, cc_bool, cc_string, List.drop_succ_cons, List.drop_zero, List.take_succ_cons, List.take_zero] at h0
    rw [List.getElem?_eq_getElem (by rw [hxl]; exact Nat.lt_of_lt_of_le (by decide) (Nat.le_refl _))] at h0
    obtain ⟨v0, e0, _, _⟩ := DataW.trod_int Tryd.underlying3 h0
    have h1 := hf 1
    simp only [List.getElem?_toArray, List.getElem?_cons_zero, List.getElem?_cons_succ, Option.some.injEq, forall_eq', cc_int, cc_bool, cc_string, List.drop_succ_cons, List.drop_zero, List.take_succ_cons, List.take_zero] at h1
    rw [List.getElem?_eq_getElem (by rw [hxl]; exact Nat.lt_of_lt_of_le (by decide) (Nat.le_refl _))] at h1
    obtain ⟨v1, e1, _⟩ := DataW.trod_bool Tryd.underlying4 h1
    have h2 := hf 2
    simp only [List.getElem?_toArray, List.getElem?_cons_zero, List.getElem?_cons_succ, Option.some.injEq, forall_eq', cc_int, cc_bool, cc_string, cc_rule, List.drop_succ_cons, List.drop_zero, List.take_succ_cons, List.take_zero] at h2
    rw [List.getElem?_eq_getElem (by rw [hxl]; exact Nat.lt_of_lt_of_le (by decide) (Nat.le_refl _))] at h2
    obtain ⟨v2, e2, k2⟩ := opens_rule _ _ _ _ _ _ _ _ _ h2
    have e : [c0, c1, c2, c3, c4, c5, c6, c7] = (Op.mk v0 v1 v2).cells := by
      simp only [Op.cells, Rule.cells, List.cons.injEq, and_true] at *
      simp_all
    exact ⟨_, e, trivial⟩
theorem cc_msg : Tryd.prog.cellsOf 39 = 12 := by kernel_rfl
instance : Inhabited Msg := ⟨0, 0, 0, 0, default⟩
theorem opens_msg : Opens TMsg 39 := fun H enc w base sp held fuel cs x h => by
  obtain ⟨xs, n, _, _, hlen, hxl, hf⟩ := DataW.trod_struct Tryd.underlying39 h
  rw [cc_msg] at hlen
  match cs, hlen with
  | [c0, c1, c2, c3, c4, c5, c6, c7, c8, c9, c10, c11], _ =>
    have h0 := hf 0
    simp only [List.getElem?_toArray, List.getElem?_cons_zero, List.getElem?_cons_succ, Option.some.injEq, forall_eq', cc_int, cc_bool, cc_string, List.drop_succ_cons, List.drop_zero, List.take_succ_cons, List.take_zero] at h0
    rw [List.getElem?_eq_getElem (by rw [hxl]; exact Nat.lt_of_lt_of_le (by decide) (Nat.le_refl _))] at h0
    obtain ⟨v0, e0, _, _⟩ := DataW.trod_int Tryd.underlying3 h0
    have h1 := hf 1
    simp only [List.getElem?_toArray, List.getElem?_cons_zero, List.getElem?_cons_succ, Option.some.injEq, forall_eq', cc_int, cc_bool, cc_string, List.drop_succ_cons, List.drop_zero, List.take_succ_cons, List.take_zero] at h1
    rw [List.getElem?_eq_getElem (by rw [hxl]; exact Nat.lt_of_lt_of_le (by decide) (Nat.le_refl _))] at h1
    obtain ⟨v1, e1, _, _⟩ := DataW.trod_int Tryd.underlying3 h1
    have h2 := hf 2
    simp only [List.getElem?_toArray, List.getElem?_cons_zero, List.getElem?_cons_succ, Option.some.injEq, forall_eq', cc_int, cc_bool, cc_string, List.drop_succ_cons, List.drop_zero, List.take_succ_cons, List.take_zero] at h2
    rw [List.getElem?_eq_getElem (by rw [hxl]; exact Nat.lt_of_lt_of_le (by decide) (Nat.le_refl _))] at h2
    obtain ⟨v2, e2, _, _⟩ := DataW.trod_int Tryd.underlying3 h2
    have h3 := hf 3
    simp only [List.getElem?_toArray, List.getElem?_cons_zero, List.getElem?_cons_succ, Option.some.injEq, forall_eq', cc_int, cc_bool, cc_string, List.drop_succ_cons, List.drop_zero, List.take_succ_cons, List.take_zero] at h3
    rw [List.getElem?_eq_getElem (by rw [hxl]; exact Nat.lt_of_lt_of_le (by decide) (Nat.le_refl _))] at h3
    obtain ⟨v3, e3, _, _⟩ := DataW.trod_int Tryd.underlying3 h3
    have h4 := hf 4
    simp only [List.getElem?_toArray, List.getElem?_cons_zero, List.getElem?_cons_succ, Option.some.injEq, forall_eq', cc_int, cc_bool, cc_string, cc_op, List.drop_succ_cons, List.drop_zero, List.take_succ_cons, List.take_zero] at h4
    rw [List.getElem?_eq_getElem (by rw [hxl]; exact Nat.lt_of_lt_of_le (by decide) (Nat.le_refl _))] at h4
    obtain ⟨v4, e4, k4⟩ := opens_op _ _ _ _ _ _ _ _ _ h4
    have e : [c0, c1, c2, c3, c4, c5, c6, c7, c8, c9, c10, c11] = (Msg.mk v0 v1 v2 v3 v4).cells := by
      simp only [Msg.cells, Op.cells, List.cons.injEq, and_true] at *
      simp_all
    exact ⟨_, e, trivial⟩
end Go.Proofs.YtkfckanbpmkbgaaDoor
