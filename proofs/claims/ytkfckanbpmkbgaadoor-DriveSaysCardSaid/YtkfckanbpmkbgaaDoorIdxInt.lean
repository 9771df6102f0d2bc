/- Walk: slices.Index of a number. -/
import Derived.Test.YtkfckanbpmkbgaaDoorClone
namespace Go.Proofs.YtkfckanbpmkbgaaDoor
open Go Go.RowKit
theorem int_cellR {w : World} {xs : List Int} {A : Option Addr} {n c : Nat} (h : RdL TInt w xs (.slice A n c)) {k : Nat} (hk : k < xs.length) : ∃ b off, A = some ⟨b, off, none⟩ ∧ b < w.heap.size ∧ w.cell? ⟨b, off + k, none⟩ = some (i64 xs[k]) := by
  obtain ⟨b, off, rfl, hb, hrow⟩ := h.at_ hk
  obtain ⟨cs, hr, hrel⟩ := hrow k _ (List.getElem?_eq_getElem hk)
  obtain ⟨rfl, _⟩ : cs = [i64 xs[k]] ∧ _ := hrel
  refine ⟨b, off, rfl, hb, ?_⟩
  have := hr 0 _ rfl
  simpa [TInt, Ty.flat] using this
set_option maxHeartbeats 400000 in
theorem index_int (xs : List Int) (v : Value) (s : Int) (w : World) (hv : RdL TInt w xs v) :
    Calls Tryd.prog 29 #[v, i64 s] w fun e w' => e = .returned (.int .i64 (idxOf (fun x => decide (x = s)) xs)) ∧ w' = w := by
  obtain ⟨A, c, rfl, hn, hc, _⟩ := hv.form
  unfold maxLen at hc
  go_enter Tryd.func29, Tryd.ntmps29
  go_wp2_with fail
  go_loop [8] (fun i => ∃ k : Nat, k ≤ xs.length ∧ i = .int .i64 k ∧ ∀ (j : Nat) x, j < k → xs[j]? = some x → decide (x = s) = false) (fun i => xs.length - (intOf i).toNat)
  case atStart => exact ⟨0, Nat.zero_le _, rfl, fun _ _ h => by omega⟩
  case round =>
    obtain ⟨k, hk, rfl, hno⟩ := hrel
    have HN := Lib.hid hno; clear hno
    by_cases hlt : k < xs.length
    · obtain ⟨b, off, rfl, hb, hcell⟩ := int_cellR hv hlt
      generalize hrk : xs[k] = x at hcell
      have HK := Lib.hid hrk; clear hrk
      have hk0 : (0 : Int) ≤ (k : Int) := by omega
      have hk1 : (k : Int) < (xs.length : Int) := by omega
      by_cases hx : x = s
      · subst hx
        go_wp2_with fail
        go_ret
        exact ⟨ret_int (idxOf_at (List.getElem?_eq_getElem hlt) (by rw [HK.out]; simp) HN.out).symm, rfl⟩
      · have hx1 : (s == x) = false := by simpa using fun e => hx e.symm
        have hx2 : (x == s) = false := by simpa using hx
        have HX := Lib.hid hx; clear hx
        go_wp2_with fail
        go_round
        case rel => exact ⟨k + 1, by omega, by go_num, none_succ hlt HN.out (by rw [HK.out]; simpa using HX.out)⟩
        case measure => simp [intOf]; omega
    · have hke : k = xs.length := by omega
      have HK := Lib.hid hke; clear hke
      go_wp2
      go_ret
      exact ⟨ret_int (idxOf_none fun j x hx => HN.out j x (by rw [HK.out]; exact (List.getElem?_eq_some_iff.1 hx).1) hx).symm, rfl⟩
end Go.Proofs.YtkfckanbpmkbgaaDoor
