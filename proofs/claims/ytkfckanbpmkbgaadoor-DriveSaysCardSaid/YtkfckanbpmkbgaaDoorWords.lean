/- Words of this seat's proofs: rows of flat things, appended to, cloned. -/
import Derived.Test.YtkfckanbpmkbgaaDoorStructs
import Derived.Maps.AppendAt
import Derived.Deep.AppendLies
import Derived.RegionTactic
import Derived.OwnWalk
import Derived.Lib.Hide
import Derived.Lib.SliceRun
import Derived.Deep.QuietTactic
import Derived.BigQuiet
import Derived.Deep.RegionHeld3
import Derived.Deep.RegionWith
namespace Go.Proofs.YtkfckanbpmkbgaaDoor
open Go Go.RowKit
section
variable {α : Type} {n : Nat} {enc : α → List Value} {h : ∀ a, (enc a).length = n} {ok : α → Prop}

theorem rangeAt_append {w : World} {b o : Nat} {xs ys : List Value} (h1 : w.rangeAt b o xs) (h2 : w.rangeAt b (o + xs.length) ys) : w.rangeAt b o (xs ++ ys) := fun j v hv => by
  rw [List.getElem?_append] at hv
  split at hv
  · exact h1 j v hv
  · have := h2 (j - xs.length) v hv
    rwa [show o + xs.length + (j - xs.length) = o + j by omega] at this
theorem rangeAt_left {w : World} {b o : Nat} {xs ys : List Value} (h : w.rangeAt b o (xs ++ ys)) : w.rangeAt b o xs := fun j v hv => h j v (by
  rw [List.getElem?_append]; rw [if_pos (List.getElem?_eq_some_iff.1 hv).1]; exact hv)
theorem rangeAt_right {w : World} {b o : Nat} {xs ys : List Value} (h : w.rangeAt b o (xs ++ ys)) : w.rangeAt b (o + xs.length) ys := fun j v hv => by
  have := h (xs.length + j) v (by rw [List.getElem?_append_right (by omega)]; rw [show xs.length + j - xs.length = j by omega]; exact hv)
  rwa [← Nat.add_assoc] at this

theorem rowAt_flat {w : World} {lo hi b : Nat} : ∀ {xs : List α} {off : Nat}, rowAt (Ty.flat n enc h ok) w lo hi b off xs → w.rangeAt b off (xs.flatMap enc)
  | [], off, _ => fun j v hv => by simp at hv
  | a :: xs, off, hr => by
    rw [List.flatMap_cons]
    refine rangeAt_append ?_ ?_
    · obtain ⟨cs, hc, rfl, _⟩ := hr 0 a rfl
      simpa using hc
    · rw [h a]
      refine rowAt_flat (lo := lo) (hi := hi) fun k x hx => ?_
      obtain ⟨cs, hc, hrel⟩ := hr (k + 1) x (by simpa using hx)
      refine ⟨cs, ?_, hrel⟩
      show w.rangeAt b (off + n + k * n) cs
      have e : off + (k + 1) * n = off + n + k * n := by rw [Nat.add_mul]; omega
      rw [← e]; exact hc
theorem rowAt_of_flat {w : World} {lo hi b : Nat} : ∀ {xs : List α} {off : Nat}, w.rangeAt b off (xs.flatMap enc) → (∀ x ∈ xs, ok x) → rowAt (Ty.flat n enc h ok) w lo hi b off xs
  | [], off, _, _ => fun k x hx => by simp at hx
  | a :: xs, off, hr, hok => fun k x hx => by
    rw [List.flatMap_cons] at hr
    cases k with
    | zero =>
      simp at hx; subst hx
      exact ⟨_, by simpa using rangeAt_left hr, rfl, hok _ (by simp)⟩
    | succ k =>
      have h2 := rangeAt_right hr
      rw [h a] at h2
      obtain ⟨cs, hc, hrel⟩ := rowAt_of_flat (lo := lo) (hi := hi) h2 (fun x hx => hok x (by simp [hx])) k x (by simpa using hx)
      refine ⟨cs, ?_, hrel⟩
      show w.rangeAt b (off + (k + 1) * n) cs
      have e : off + (k + 1) * n = off + n + k * n := by rw [Nat.add_mul]; omega
      rw [e]; exact hc
theorem length_flat (h : ∀ a, (enc a).length = n) : ∀ xs : List α, (xs.flatMap enc).length = xs.length * n
  | [] => by simp
  | a :: xs => by rw [List.flatMap_cons, List.length_append, h a, length_flat h xs, List.length_cons, Nat.add_mul]; omega

theorem rel_of_own {w : World} {base : Nat} {e : TypeId} {v : Value} {xs : List α} (ho : w.ownsRow base e n v xs.length (xs.flatMap enc)) (hok : ∀ x ∈ xs, ok x) : (Ty.flat n enc h ok).slice.rel w base w.heap.size xs [v] := by
  rcases ho.2 with ⟨rfl, h0⟩ | ⟨g, cap, cur, rfl, hb, hg, hnc, hcm, hcs, htake⟩
  · have e : xs = [] := List.eq_nil_of_length_eq_zero h0
    subst e
    exact ⟨none, 0, rfl, Nat.le_refl _, by simp [maxLen], fun hne => absurd rfl hne⟩
  · refine ⟨_, cap, rfl, hnc, hcm, fun _ => ⟨g, 0, rfl, hb, (ho.lt g (by simp [Value.ownBlock])).2, rowAt_of_flat (fun j v hv => ?_) hok⟩⟩
    have := ho.cells (g := g) (by simp [Value.ownBlock]) j v hv
    rwa [Addr.add_mid] at this
/-- A row of the call's own reads as what it holds. -/
theorem RdL.of_own {w : World} {base : Nat} {e : TypeId} {v : Value} {xs : List α} (ho : w.ownsRow base e n v xs.length (xs.flatMap enc)) (hok : ∀ x ∈ xs, ok x) : RdL (Ty.flat n enc h ok) w xs v := by
  rcases ho.2 with ⟨rfl, h0⟩ | ⟨g, cap, cur, rfl, hb, hg, hnc, hcm, hcs, htake⟩
  · have e : xs = [] := List.eq_nil_of_length_eq_zero h0
    subst e
    exact RdL.mk (A := none) (c := 0) (Nat.le_refl _) (by simp [maxLen]) (fun hne => absurd rfl hne)
  · refine RdL.mk hnc hcm fun _ => ⟨g, 0, rfl, (ho.lt g (by simp [Value.ownBlock])).2, rowAt_of_flat (fun j v hv => ?_) hok⟩
    have := ho.cells (g := g) (by simp [Value.ownBlock]) j v hv
    rwa [Addr.add_mid] at this
end

theorem flat_take {α : Type} {n : Nat} {enc : α → List Value} (h : ∀ a, (enc a).length = n) : ∀ (xs : List α) (k : Nat), (xs.flatMap enc).take (k * n) = (xs.take k).flatMap enc
  | [], k => by simp
  | a :: xs, 0 => by simp
  | a :: xs, k + 1 => by
    rw [List.flatMap_cons, List.take_succ_cons, List.flatMap_cons, ← flat_take h xs k, show (k + 1) * n = (enc a).length + k * n by rw [h a, Nat.add_mul]; omega, List.take_length_add_append]
theorem flat_drop {α : Type} {n : Nat} {enc : α → List Value} (h : ∀ a, (enc a).length = n) : ∀ (xs : List α) (k : Nat), (xs.flatMap enc).drop (k * n) = (xs.drop k).flatMap enc
  | [], k => by simp
  | a :: xs, 0 => by simp
  | a :: xs, k + 1 => by
    rw [List.flatMap_cons, List.drop_succ_cons, ← flat_drop h xs k, show (k + 1) * n = (enc a).length + k * n by rw [h a, Nat.add_mul]; omega, List.drop_length_add_append]
theorem own_base {w : World} {base base' : Nat} {e : TypeId} {s n : Nat} {v : Value} {xs : List Value} (ho : w.ownsRow base e s v n xs) (h : base' ≤ base) : w.ownsRow base' e s v n xs := by
  refine ⟨ho.1, ?_⟩
  rcases ho.2 with h2 | ⟨g, cap, cur, e1, hb, r⟩
  · exact .inl h2
  · exact .inr ⟨g, cap, cur, e1, Nat.le_trans h hb, r⟩

/-- What an append wants of its source: the cells, if there are any. -/
def Src (w : World) (A : Option Addr) (m : Nat) (news : List Value) (size : Nat) : Prop := news.length = m * size ∧ (0 < m → ∃ b off, A = some ⟨b, off, none⟩ ∧ w.rangeAt b off news)
theorem RdL.src {α : Type} {n : Nat} {enc : α → List Value} {h : ∀ a, (enc a).length = n} {ok : α → Prop} {w : World} {xs : List α} {A : Option Addr} {m c : Nat} (hv : RdL (Ty.flat n enc h ok) w xs (.slice A m c)) : m = xs.length ∧ Src w A m (xs.flatMap enc) n := by
  obtain ⟨A', c', e, _, _, h3⟩ := hv.form
  injection e with e1 e2 _
  subst e1 e2
  refine ⟨rfl, length_flat h xs, fun hm => ?_⟩
  obtain ⟨b, off, rfl, _, hr⟩ := h3 (by intro e; subst e; simp at hm)
  exact ⟨b, off, rfl, rowAt_flat hr⟩

section
variable {P : Program} (w : World)
theorem run_append_src (base : Nat) (t ty e : TypeId) (i : TypeInfo) (z : Value) (size bytes : Nat) (ht : P.underlying t = some (.slice e)) (hi : P.info? e = some i) (hz : i.zero = some z)
    (hsize : i.size = size) (hby : i.bytes = bytes) (hzs : z.cells.size = size) (hsz : 0 < size)
    (v : Value) (n : Nat) (xs : List Value) (hown : w.ownsRow base e size v n xs)
    (A : Option Addr) (m c : Nat) (news : List Value) (hr : Src w A m news size) (h1 : ∀ u ∈ news, u.oneCell' = true)
    (h63 : n + m ≤ maxLen) (hbytes : (n + m) * bytes ≤ 140737488355328) (hbase : base ≤ w.heap.size) :
    ∃ v' w', (Builtin.append_ #[t, t] ty #[v, .slice A m c]).run P w = .ok v' w' ∧ w'.ownsRow base e size v' (n + m) (xs ++ news) ∧ w.grownBy w' v.ownBlock ∧
      (v'.ownBlock = v.ownBlock ∨ v'.ownBlock = some w.heap.size) := by
  rcases A with _ | ad
  · have hm : m = 0 := by
      rcases Nat.eq_zero_or_pos m with h0 | h0
      · exact h0
      · obtain ⟨b, off, h, _⟩ := hr.2 h0; cases h
    subst hm
    have hn : news = [] := List.eq_nil_of_length_eq_zero (by simpa using hr.1)
    subst hn
    refine ⟨v, w, ?_, by simpa using hown, World.grownBy.refl w _, .inl rfl⟩
    rcases hown.2 with ⟨rfl, rfl⟩ | ⟨g, cap, cur, rfl, _, _, hnc, _⟩
    · simp [Builtin.append_, run_underlying ht, sizeOf, typeInfo, hi, Builtin.lenOf, Builtin.firstCells]
    · simp [Builtin.append_, run_underlying ht, sizeOf, typeInfo, hi, Builtin.lenOf, Builtin.firstCells, hnc, storeCells]
  · have hcells : ∀ j u, news[j]? = some u → w.cell? (ad.add j) = some u := by
      intro j u hu
      rcases Nat.eq_zero_or_pos m with h0 | h0
      · subst h0
        have hn : news = [] := List.eq_nil_of_length_eq_zero (by simpa using hr.1)
        subst hn; simp at hu
      · obtain ⟨b, off, e, hc⟩ := hr.2 h0
        cases e
        rw [Addr.add_mid]; exact hc j u hu
    obtain ⟨v', w', hrun, h2, h3, _, h5⟩ := run_append_own_at (P := P) w base t ty e i z size bytes ht hi hz hsize hby hzs hsz v n xs hown ad m c news hr.1 hcells h1 h63 hbytes hbase
    exact ⟨v', w', hrun, h2, h3, h5⟩
/-- append onto a row of the call's own. -/
theorem wp_append_src {o : Oper} {a : Act} {K : Act → World → Prop} {Q : Exit → Act → World → Prop} (s x : Operand) (t : TypeId)
    (ho : o.op = .call { callee := .builtin .append, args := #[s, x], argTypes := #[t, t] })
    (base : Nat) (e : TypeId) (i : TypeInfo) (z : Value) (size bytes : Nat) (ht : P.underlying t = some (.slice e)) (hi : P.info? e = some i) (hz : i.zero = some z)
    (hsize : i.size = size) (hby : i.bytes = bytes) (hzs : z.cells.size = size) (hsz : 0 < size)
    (v : Value) (n : Nat) (xs : List Value) (hs : a.eval s = v) (hown : w.ownsRow base e size v n xs)
    (A : Option Addr) (m c : Nat) (news : List Value) (hx : a.eval x = .slice A m c) (hr : Src w A m news size) (h1 : ∀ u ∈ news, u.oneCell' = true)
    (h63 : n + m ≤ maxLen) (hbytes : (n + m) * bytes ≤ 140737488355328) (hbase : base ≤ w.heap.size)
    (h : ∀ v' w', w'.ownsRow base e size v' (n + m) (xs ++ news) → w.grownBy w' v.ownBlock → (v'.ownBlock = v.ownBlock ∨ v'.ownBlock = some w.heap.size) → K (a.put o.dst v') w') : o.wp P a w K Q := by
  obtain ⟨v', w', hrun, h2, h3, h4⟩ := run_append_src (P := P) w base t o.type e i z size bytes ht hi hz hsize hby hzs hsz v n xs hown A m c news hr h1 h63 hbytes hbase
  unfold Oper.wp execOp
  simp only [ho, resolve, invoke, builtin, Sem.run_bind, Sem.run_pure, Result.andThen_ok, List.map_toArray, List.map_cons, List.map_nil, hs, hx, hrun]
  exact h v' w' h2 h3 h4
theorem wpList_append_src {ops : Array Oper} {rest : List Oper} {o : Oper} {a : Act} {Q : Exit → Act → World → Prop} (hgd : o.guard = none) (s x : Operand) (t : TypeId)
    (ho : o.op = .call { callee := .builtin .append, args := #[s, x], argTypes := #[t, t] })
    (base : Nat) (e : TypeId) (i : TypeInfo) (z : Value) (size bytes : Nat) (ht : P.underlying t = some (.slice e)) (hi : P.info? e = some i) (hz : i.zero = some z)
    (hsize : i.size = size) (hby : i.bytes = bytes) (hzs : z.cells.size = size) (hsz : 0 < size)
    (v : Value) (n : Nat) (xs : List Value) (hs : a.eval s = v) (hown : w.ownsRow base e size v n xs)
    (A : Option Addr) (m c : Nat) (news : List Value) (hx : a.eval x = .slice A m c) (hr : Src w A m news size) (h1 : ∀ u ∈ news, u.oneCell' = true)
    (h63 : n + m ≤ maxLen) (hbytes : (n + m) * bytes ≤ 140737488355328) (hbase : base ≤ w.heap.size)
    (h : ∀ v' w', w'.ownsRow base e size v' (n + m) (xs ++ news) → w.grownBy w' v.ownBlock → (v'.ownBlock = v.ownBlock ∨ v'.ownBlock = some w.heap.size) → wpList P ops Q rest (a.put o.dst v') w') : wpList P ops Q (o :: rest) a w :=
  wpList_plain hgd fun _ hK => wp_append_src w s x t ho base e i z size bytes ht hi hz hsize hby hzs hsz v n xs hs hown A m c news hx hr h1 h63 hbytes hbase fun v' w' h2 h3 h4 => hK _ _ (h v' w' h2 h3 h4)
end
theorem step_append_src {P : Program} {w : World} {ops : Array Oper} {o : Oper} {a : Act} {K : Act → World → Prop} {Q : Exit → Act → World → Prop} {E : Prop} (hgd : o.guard = none) (s x : Operand) (t : TypeId)
    (ho : o.op = .call { callee := .builtin .append, args := #[s, x], argTypes := #[t, t] })
    (base : Nat) (e : TypeId) (i : TypeInfo) (z : Value) (size bytes : Nat) (ht : P.underlying t = some (.slice e)) (hi : P.info? e = some i) (hz : i.zero = some z)
    (hsize : i.size = size) (hby : i.bytes = bytes) (hzs : z.cells.size = size) (hsz : 0 < size)
    (v : Value) (n : Nat) (xs : List Value) (hs : a.eval s = v) (hown : w.ownsRow base e size v n xs)
    (A : Option Addr) (m c : Nat) (news : List Value) (hx : a.eval x = .slice A m c) (hr : Src w A m news size) (h1 : ∀ u ∈ news, u.oneCell' = true)
    (h63 : n + m ≤ maxLen) (hbytes : (n + m) * bytes ≤ 140737488355328) (hbase : base ≤ w.heap.size)
    (h : ∀ v' w', w'.ownsRow base e size v' (n + m) (xs ++ news) → w.grownBy w' v.ownBlock → (v'.ownBlock = v.ownBlock ∨ v'.ownBlock = some w.heap.size) → K (a.put o.dst v') w') :
    if Region.wanted o (yielded ops a.tmps) = true then Oper.wp P o a w K Q else E := by
  have hw : Region.wanted o (yielded ops a.tmps) = true := by simp [Region.wanted, hgd]
  rw [if_pos hw]
  exact wp_append_src w s x t ho base e i z size bytes ht hi hz hsize hby hzs hsz v n xs hs hown A m c news hx hr h1 h63 hbytes hbase h
/-- One thing, just laid. -/
theorem src_one {w : World} {g : Nat} {cs : List Value} {e : TypeId} {n : Nat} (hg : w.heap[g]? = some (.cells cs.toArray e (0, 0))) (hn : cs.length = n) : Src w (some ⟨g, 0, none⟩) 1 cs n :=
  ⟨by omega, fun _ => ⟨g, 0, rfl, fun j v hv => by rw [cell_of_row w g _ _ e (0, 0) hg]; simpa using hv⟩⟩
theorem info_of {P : Program} {e : TypeId} {z : Value} {s b : Nat} (h : (P.info? e).map (fun i => (i.zero, i.size, i.bytes)) = some (some z, s, b)) : ∃ i, P.info? e = some i ∧ i.zero = some z ∧ i.size = s ∧ i.bytes = b := by
  cases hi : P.info? e with
  | none => simp [hi] at h
  | some i => simp [hi] at h; exact ⟨i, rfl, h.1, h.2.1, h.2.2⟩
theorem ext_grown {W w w' : World} {row : Option Nat} (h : Ext W w) (hg : w.grownBy w' row) (hr : ∀ k, row = some k → W.heap.size ≤ k) : Ext W w' := Below.grown h hg h.size hr
theorem own_ext {W w w' : World} {base : Nat} {e : TypeId} {s n : Nat} {v : Value} {xs : List Value} (h : Ext W w) (ho : w.ownsRow base e s v n xs) (hg : w.grownBy w' v.ownBlock) (hb : W.heap.size ≤ base) : Ext W w' :=
  ext_grown h hg fun k hk => Nat.le_trans hb (ho.lt k hk).1
theorem own_keep {w w' : World} {base : Nat} {e : TypeId} {s n : Nat} {v : Value} {xs : List Value} (ho : w.ownsRow base e s v n xs) (h : Ext w w') : w'.ownsRow base e s v n xs :=
  ho.kept (row := none) ⟨h.below.os, h.below.tape, h.below.output, h.size, fun _ hk _ => h.block hk⟩ (by cases v.ownBlock <;> simp)
theorem heap_alloc_two (w : World) (o o2 : Obj) : ((w.alloc o).alloc o2).heap[w.heap.size + 1]? = some o2 := by
  have := heap_alloc_new (w.alloc o) o2
  simpa using this
theorem own_slice {w : World} {base : Nat} {e : TypeId} {s n : Nat} {v : Value} {xs : List Value} (h : w.ownsRow base e s v n xs) : ∃ A c, v = .slice A n c := by
  rcases h.2 with ⟨rfl, rfl⟩ | ⟨g, cap, cur, rfl, _⟩
  · exact ⟨none, 0, rfl⟩
  · exact ⟨_, _, rfl⟩
/-- The k-th of a slice of slices. -/
theorem row_slice {α : Type} {T : Ty α} {w : World} {hi b off : Nat} {xs : List (List α)} (h : rowAt T.slice w 0 w.heap.size b off xs) (_ : hi = w.heap.size) {k : Nat} (hk : k < xs.length) : ∃ v, w.cell? ⟨b, off + k, none⟩ = some v ∧ RdL T w xs[k] v := by
  obtain ⟨cs, hc, hr⟩ := h k _ (List.getElem?_eq_getElem hk)
  obtain ⟨A, c, rfl, h1⟩ := hr
  refine ⟨_, ?_, A, c, rfl, h1⟩
  have := hc 0 _ rfl
  simpa [Ty.slice] using this
theorem box_range {w w' : World} {cs : List Value} {T : TypeId} (h : Ext (w.alloc (.cells cs.toArray T)) w') : w'.rangeAt w.heap.size 0 cs := rangeAt_block (rangeAt_new w cs T) (h.block (by simp))
theorem box_free {w w' : World} {cs : Array Value} {T : TypeId} (h : Ext (w.alloc (.cells cs T)) w') (j : Nat) : w'.frozen? ⟨w.heap.size, j, none⟩ = false :=
  frozen_of_row w' w.heap.size j cs T ((h.block (by simp)).trans (heap_alloc_new w _))
theorem le_alloc (w : World) (o : Obj) : w.heap.size ≤ (w.alloc o).heap.size := by simp
/-- An empty literal. -/
theorem own_empty (w : World) (e : TypeId) (s : Nat) : (w.alloc (.cells #[] e)).ownsRow w.heap.size e s (.slice (some ⟨w.heap.size, 0, none⟩) 0 0) 0 [] :=
  World.ownsRow_made w #[] 0 (Nat.le_refl _) (by simp [maxLen]) (by simp)
theorem one_all {α : Type} {xs : List α} {enc : α → List Value} (h : ∀ a, ∀ u ∈ enc a, u.oneCell' = true) : ∀ u ∈ xs.flatMap enc, u.oneCell' = true := fun u hu => by
  obtain ⟨a, _, ha⟩ := List.mem_flatMap.1 hu
  exact h a u ha
end Go.Proofs.YtkfckanbpmkbgaaDoor
