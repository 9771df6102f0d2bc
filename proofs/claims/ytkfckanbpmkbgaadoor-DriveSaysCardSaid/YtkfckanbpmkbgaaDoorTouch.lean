/- Plain law: the switches of ops, each once, rising. No walk stands here. -/
import Derived.Lib.SlicesCompact
import Derived.Test.YtkfckanbpmkbgaaDoorStructs
namespace Go.Proofs.YtkfckanbpmkbgaaDoor
open Go Go.RowKit
def touchZ (zs : List Int) : List Int := Lib.compact (zs.mergeSort fun x y => decide (x ≤ y))
/-- The switches of ops, each once, rising. -/
def touched (ops : List Op) : List Int := touchZ (ops.map (·.switch))
/-- Each ahead of the next one. -/
def Rising (l : List Int) : Prop := l.Pairwise (· < ·)
theorem rising_eq : ∀ {a b : List Int}, Rising a → Rising b → (∀ x, x ∈ a ↔ x ∈ b) → a = b
  | [], [], _, _, _ => rfl
  | [], y :: b, _, _, h => absurd ((h y).2 (by simp)) (by simp)
  | x :: a, [], _, _, h => absurd ((h x).1 (by simp)) (by simp)
  | x :: a, y :: b, ha, hb, h => by
    have ha' := List.pairwise_cons.1 ha
    have hb' := List.pairwise_cons.1 hb
    have hxy : x = y := by
      rcases List.mem_cons.1 ((h x).1 (by simp)) with h1 | h1
      · exact h1
      · rcases List.mem_cons.1 ((h y).2 (by simp)) with h2 | h2
        · exact h2.symm
        · have := hb'.1 x h1; have := ha'.1 y h2; omega
    subst hxy
    rw [rising_eq ha'.2 hb'.2 fun z => ?_]
    constructor
    · intro hz
      rcases List.mem_cons.1 ((h z).1 (by simp [hz])) with h1 | h1
      · have := ha'.1 z hz; omega
      · exact h1
    · intro hz
      rcases List.mem_cons.1 ((h z).2 (by simp [hz])) with h1 | h1
      · have := hb'.1 z hz; omega
      · exact h1
theorem compact_sorted {zs : List Int} (hs : zs.Pairwise (· ≤ ·)) : ∀ m, m ≤ zs.length → Rising (Lib.compactUpTo zs.toArray m) ∧ (∀ x, x ∈ Lib.compactUpTo zs.toArray m ↔ x ∈ zs.take m)
  | 0, _ => ⟨List.Pairwise.nil, fun x => by simp [Lib.compactUpTo]⟩
  | m + 1, hm => by
    obtain ⟨h1, h2⟩ := compact_sorted hs m (by omega)
    rw [Lib.compactUpTo_succ]
    have hg : zs.toArray[m]! = zs[m] := by simp [show m < zs.length by omega]
    have htk : zs.take (m + 1) = zs.take m ++ [zs[m]] := List.take_succ_eq_append_getElem (by omega)
    by_cases hk : Lib.keeps zs.toArray m = true
    · rw [if_pos hk, hg, htk]
      refine ⟨List.pairwise_append.2 ⟨h1, by simp, fun a ha b hb => ?_⟩, fun x => by rw [List.mem_append, List.mem_append, h2]⟩
      simp at hb; subst hb
      obtain ⟨i, hi, rfl⟩ := List.getElem_of_mem ((h2 a).1 ha)
      simp at hi
      rw [List.getElem_take]
      have hle : zs[i] ≤ zs[m - 1] := by
        by_cases e : i = m - 1
        · subst e; exact Int.le_refl _
        · exact List.pairwise_iff_getElem.1 hs i (m - 1) (by omega) (by omega) (by omega)
      have hle2 : zs[m - 1] ≤ zs[m] := List.pairwise_iff_getElem.1 hs (m - 1) m (by omega) (by omega) (by omega)
      have hne : zs[m] ≠ zs[m - 1] := by
        unfold Lib.keeps at hk
        have h3 := of_decide_eq_true hk
        rcases h3 with h3 | h3
        · omega
        · rw [hg, show zs.toArray[m - 1]! = zs[m - 1] by simp [show m - 1 < zs.length by omega]] at h3; exact h3
      omega
    · rw [if_neg hk, List.append_nil, htk]
      refine ⟨h1, fun x => ?_⟩
      rw [h2]
      have h3 : ¬ (m = 0 ∨ zs.toArray[m]! ≠ zs.toArray[m - 1]!) := fun h => hk (decide_eq_true h)
      have hm0 : m ≠ 0 := fun e => h3 (.inl e)
      have he : zs[m] = zs[m - 1] := by
        have := Classical.byContradiction fun hn => h3 (.inr hn)
        rw [hg, show zs.toArray[m - 1]! = zs[m - 1] by simp [show m - 1 < zs.length by omega]] at this
        exact this
      constructor
      · intro h; exact List.mem_append_left _ h
      · intro h
        rcases List.mem_append.1 h with h | h
        · exact h
        · simp at h; subst h
          rw [he]
          exact List.mem_take_iff_getElem.2 ⟨m - 1, by omega, rfl⟩
theorem touchZ_rising (zs : List Int) : Rising (touchZ zs) := by
  have hs : (zs.mergeSort fun x y => decide (x ≤ y)).Pairwise (· ≤ ·) := by
    have := List.pairwise_mergeSort (le := fun x y : Int => decide (x ≤ y)) (by intro a b c; simp; omega) (by intro a b; simp; omega) zs
    exact this.imp (by simp)
  exact (compact_sorted hs _ (Nat.le_refl _)).1
theorem touchZ_mem (zs : List Int) (x : Int) : x ∈ touchZ zs ↔ x ∈ zs := by
  have hs : (zs.mergeSort fun x y => decide (x ≤ y)).Pairwise (· ≤ ·) := by
    have := List.pairwise_mergeSort (le := fun x y : Int => decide (x ≤ y)) (by intro a b c; simp; omega) (by intro a b; simp; omega) zs
    exact this.imp (by simp)
  have := (compact_sorted hs _ (Nat.le_refl _)).2 x
  rw [List.take_length] at this
  exact this.trans List.mem_mergeSort
theorem touched_rising (ops : List Op) : Rising (touched ops) := touchZ_rising _
theorem touched_mem (ops : List Op) (s : Int) : s ∈ touched ops ↔ ∃ o ∈ ops, o.switch = s := by
  rw [touched, touchZ_mem]; simp
theorem touched_len (ops : List Op) (h : ops.length ≤ 200) : (touched ops).length ≤ 1000 := by
  unfold touched touchZ Lib.compact Lib.compactUpTo
  rw [List.length_map]
  refine Nat.le_trans (List.length_filter_le _ _) ?_
  simp; omega
theorem touched_nodup (ops : List Op) : (touched ops).Nodup := (touched_rising ops).imp (fun h => by omega)
theorem filter_two {α : Type} (p : α → Bool) : ∀ l : List α, (l.filter p).length + (l.filter fun o => !p o).length = l.length
  | [] => rfl
  | a :: l => by
    have := filter_two p l
    by_cases h : p a = true
    · simp [h]; omega
    · simp [h]; omega
/-- Each op counts once, at its own switch. -/
theorem touched_sum : ∀ (l : List Int) (ops : List Op), l.Nodup → (∀ o ∈ ops, o.switch ∈ l) → (l.map fun s => (ops.filter fun o => decide (o.switch = s)).length).sum = ops.length
  | [], ops, _, h => by
    cases ops with
    | nil => rfl
    | cons o os => exact absurd (h o (by simp)) (by simp)
  | s :: l, ops, hn, h => by
    have hn' := List.nodup_cons.1 hn
    have ih := touched_sum l (ops.filter fun o => !decide (o.switch = s)) hn'.2 (fun o ho => by
      simp at ho
      rcases List.mem_cons.1 (h o ho.1) with h1 | h1
      · exact absurd h1 ho.2
      · exact h1)
    have e : ∀ s' ∈ l, ((ops.filter fun o => !decide (o.switch = s)).filter fun o => decide (o.switch = s')).length = (ops.filter fun o => decide (o.switch = s')).length := fun s' hs' => by
      rw [List.filter_filter]
      congr 1
      refine List.filter_congr fun o _ => ?_
      by_cases h1 : o.switch = s'
      · have : ¬ s' = s := fun e => hn'.1 (e ▸ hs')
        simp [h1, this]
      · simp [h1]
    rw [List.map_congr_left e] at ih
    rw [List.map_cons, List.sum_cons, ih]
    exact filter_two (fun o => decide (o.switch = s)) ops
end Go.Proofs.YtkfckanbpmkbgaaDoor
