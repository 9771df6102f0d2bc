/- Words of this seat's proofs: deleting one thing out of a row of the call's own. -/
import Derived.Test.YtkfckanbpmkbgaaDoorWords
import Derived.Deep.RegionLaw
namespace Go.Proofs.YtkfckanbpmkbgaaDoor
open Go Go.RowKit
section
variable {P : Program} {w : World}
/-- append where there is room, the row known whole. -/
theorem wp_append_room {o : Oper} {a : Act} {K : Act → World → Prop} {Q : Exit → Act → World → Prop} (s x : Operand) (t : TypeId)
    (ho : o.op = .call { callee := .builtin .append, args := #[s, x], argTypes := #[t, t] }) (e : TypeId) (i : TypeInfo) (size : Nat) (ht : P.underlying t = some (.slice e)) (hi : P.info? e = some i) (hsize : i.size = size)
    (g sLen sCap : Nat) (cur : Array Value) (hg : w.heap[g]? = some (.cells cur e (0, 0))) (hs : a.eval s = .slice (some ⟨g, 0, none⟩) sLen sCap)
    (ad : Addr) (m c : Nat) (news : List Value) (hx : a.eval x = .slice (some ad) m c) (hl : news.length = m * size) (hnews : ∀ j u, news[j]? = some u → w.cell? (ad.add j) = some u) (h1 : ∀ u ∈ news, u.oneCell' = true)
    (hroom : sLen + m ≤ sCap) (hfit : sLen * size + news.length ≤ cur.size)
    (h : K (a.put o.dst (.slice (some ⟨g, 0, none⟩) (sLen + m) sCap)) (w.setRow g (cur.toList.take (sLen * size) ++ news ++ cur.toList.drop (sLen * size + news.length)).toArray)) : o.wp P a w K Q := by
  subst hsize
  have hrun := run_append_room (P := P) w t o.type e i ht hi g sLen sCap cur hg ad m c news hl hnews h1 hroom hfit
  unfold Oper.wp execOp
  simp only [ho, resolve, invoke, builtin, Sem.run_bind, Sem.run_pure, Result.andThen_ok, List.map_toArray, List.map_cons, List.map_nil, hs, hx, hrun]
  exact h
theorem step_append_roomy {ops : Array Oper} {o : Oper} {a : Act} {K : Act → World → Prop} {Q : Exit → Act → World → Prop} {E : Prop} (hgd : o.guard = none) (s x : Operand) (t : TypeId)
    (ho : o.op = .call { callee := .builtin .append, args := #[s, x], argTypes := #[t, t] }) (e : TypeId) (i : TypeInfo) (size : Nat) (ht : P.underlying t = some (.slice e)) (hi : P.info? e = some i) (hsize : i.size = size)
    (g sLen sCap : Nat) (cur : Array Value) (hg : w.heap[g]? = some (.cells cur e (0, 0))) (hs : a.eval s = .slice (some ⟨g, 0, none⟩) sLen sCap)
    (ad : Addr) (m c : Nat) (news : List Value) (hx : a.eval x = .slice (some ad) m c) (hl : news.length = m * size) (hnews : ∀ j u, news[j]? = some u → w.cell? (ad.add j) = some u) (h1 : ∀ u ∈ news, u.oneCell' = true)
    (hroom : sLen + m ≤ sCap) (hfit : sLen * size + news.length ≤ cur.size)
    (h : K (a.put o.dst (.slice (some ⟨g, 0, none⟩) (sLen + m) sCap)) (w.setRow g (cur.toList.take (sLen * size) ++ news ++ cur.toList.drop (sLen * size + news.length)).toArray)) :
    if Region.wanted o (yielded ops a.tmps) = true then Oper.wp P o a w K Q else E := by
  have hw : Region.wanted o (yielded ops a.tmps) = true := by simp [Region.wanted, hgd]
  rw [if_pos hw]
  exact wp_append_room s x t ho e i size ht hi hsize g sLen sCap cur hg hs ad m c news hx hl hnews h1 hroom hfit h

theorem one_zeroCells {z : Array Value} (h : ∀ v ∈ z.toList, v.oneCell' = true) (hz : 0 < z.size) (n : Nat) : ∀ v ∈ (Builtin.zeroCells z n).toList, v.oneCell' = true := by
  intro v hv
  unfold Builtin.zeroCells at hv
  simp only [Array.toList_map, List.mem_map] at hv
  obtain ⟨i, _, rfl⟩ := hv
  have hlt : i % z.size < z.size := Nat.mod_lt _ hz
  rw [getElem!_pos z _ hlt]
  exact h _ (by simp)
/-- clear, the row known whole. -/
theorem run_clear_row (t e ty : TypeId) (z : Value) (size : Nat) (ht : P.underlying t = some (.slice e)) (hv : ∀ w, (zeroValue e).run P w = .ok z w) (hz : z.cells.size = size) (hsz : 0 < size) (h1 : ∀ v ∈ z.cells.toList, v.oneCell' = true)
    (g off n c : Nat) (hn : 0 < n) (cur : Array Value) (hg : w.heap[g]? = some (.cells cur e (0, 0))) (hfit : off + n * size ≤ cur.size) :
    (Builtin.clear_ #[t] ty #[.slice (some ⟨g, off, none⟩) n c]).run P w = .ok (.tuple #[]) (w.setRow g (cur.toList.take off ++ (Builtin.zeroCells z.cells n).toList ++ cur.toList.drop (off + n * size)).toArray) := by
  have hlen : (Builtin.zeroCells z.cells n).toList.length = n * size := by simp [Builtin.zeroCells, hz]
  have hst := run_storeCells_at P g off e (Builtin.zeroCells z.cells n).toList 0 cur w hg (by rw [hlen]; simpa using hfit) (one_zeroCells h1 (by omega) n)
  rw [hlen] at hst
  simp only [Nat.add_zero] at hst
  cases n with
  | zero => omega
  | succ n => simp [Builtin.clear_, run_underlying ht, hv, hst]
theorem wpList_clear_row {ops : Array Oper} {rest : List Oper} {o : Oper} {a : Act} {Q : Exit → Act → World → Prop} (hgd : o.guard = none) (x : Operand) (t : TypeId)
    (ho : o.op = .call { callee := .builtin .clear, args := #[x], argTypes := #[t] }) (e : TypeId) (z : Value) (size : Nat) (ht : P.underlying t = some (.slice e)) (hv : ∀ w, (zeroValue e).run P w = .ok z w) (hz : z.cells.size = size) (hsz : 0 < size) (h1 : ∀ v ∈ z.cells.toList, v.oneCell' = true)
    (g off n c : Nat) (hx : a.eval x = .slice (some ⟨g, off, none⟩) n c) (hn : 0 < n) (cur : Array Value) (hg : w.heap[g]? = some (.cells cur e (0, 0))) (hfit : off + n * size ≤ cur.size)
    (h : wpList P ops Q rest (a.put o.dst (.tuple #[])) (w.setRow g (cur.toList.take off ++ (Builtin.zeroCells z.cells n).toList ++ cur.toList.drop (off + n * size)).toArray)) : wpList P ops Q (o :: rest) a w :=
  wpList_plain hgd fun _ hK => by
    have hrun := run_clear_row (P := P) t e o.type z size ht hv hz hsz h1 g off n c hn cur hg hfit
    unfold Oper.wp execOp
    simp only [ho, resolve, invoke, builtin, Sem.run_bind, Sem.run_pure, Result.andThen_ok, List.map_toArray, List.map_cons, List.map_nil, hx, hrun]
    exact hK _ _ h
end
theorem heap_setRow_self {w : World} {g : Nat} {cur cs : Array Value} {e : TypeId} (hg : w.heap[g]? = some (.cells cur e (0, 0))) : (w.setRow g cs).heap[g]? = some (.cells cs e (0, 0)) := by
  simp [World.setRow, Array.getElem?_modify, hg]
theorem heap_setRow_ne {w : World} {g k : Nat} {cs : Array Value} (h : k ≠ g) : (w.setRow g cs).heap[k]? = w.heap[k]? := by
  simp only [World.setRow, Array.getElem?_modify]
  rw [if_neg (fun e => h e.symm)]
/-- Two worlds that differ in one row alone. -/
theorem grown_setRow (w : World) (g : Nat) (cs : Array Value) : w.grownBy (w.setRow g cs) (some g) :=
  ⟨rfl, rfl, rfl, by simp, fun k _ hk => heap_setRow_ne (fun e => hk (by rw [e]))⟩
theorem grown_draw_set {w : World} {g : Nat} {cs : Array Value} : w.grownBy (w.drew.setRow g cs) (some g) := by
  have hgr := grown_setRow w.drew g cs
  exact ⟨hgr.os, hgr.tape, hgr.output, hgr.size, hgr.block⟩
/-- Behind 'append(s[:i], s[i+1:]...)' and 'clear' of the rest. -/
theorem own_cleared {w0 : World} {base g n' cap size off : Nat} {e : TypeId} {L1 Z R rest : List Value} {c1 : Array Value} (hg : w0.heap[g]? = some (.cells c1 e (0, 0))) (hb : base ≤ g) (hn : n' ≤ cap) (hm : cap ≤ maxLen)
    (hL : L1.length = cap * size) (hoff : off = n' * size) (hR : L1.take off = R) (hz : (Z ++ rest).length = (L1.drop off).length) :
    (w0.setRow g (L1.take off ++ (Z ++ rest)).toArray).ownsRow base e size (.slice (some ⟨g, 0, none⟩) n' cap) n' R := by
  have hle : off ≤ L1.length := by rw [hL, hoff]; exact Nat.mul_le_mul_right _ hn
  refine ⟨by rw [← hR, List.length_take, ← hoff]; omega, .inr ⟨g, cap, _, rfl, hb, heap_setRow_self hg, hn, hm, ?_, ?_⟩⟩
  · simp only [List.size_toArray, List.length_append, List.length_take] at hz ⊢
    simp only [List.length_drop] at hz
    omega
  · simp only []
    rw [← hoff, List.take_append_of_le_length (by rw [List.length_take]; omega), List.take_take, Nat.min_self, hR]
end Go.Proofs.YtkfckanbpmkbgaaDoor
