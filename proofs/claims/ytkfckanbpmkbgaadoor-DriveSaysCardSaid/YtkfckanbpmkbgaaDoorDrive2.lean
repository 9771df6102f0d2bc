/- Walk: (*Drive).say. -/
import Derived.Test.YtkfckanbpmkbgaaDoorDrive1
namespace Go.Proofs.YtkfckanbpmkbgaaDoor
open Go Go.RowKit
theorem build_do : ∀ (w' : World) (s i n a0 : Int) (a1 : Bool) (a2 a3 a4 a5 a6 a7 : Int), (Instr.build 39 #[(0, i64 1), (1, i64 s), (2, i64 i), (3, i64 n), (4, .agg #[i64 a0, .bool a1, i64 a2, i64 a3, i64 a4, i64 a5, i64 a6, i64 a7])]).run Tryd.prog w' = .ok (.agg #[i64 1, i64 s, i64 i, i64 n, i64 a0, .bool a1, i64 a2, i64 a3, i64 a4, i64 a5, i64 a6, i64 a7]) w' := fun w' _ _ _ _ _ _ _ _ _ _ _ => by kernel_rfl
theorem build_ask : ∀ (w' : World) (s i n : Int), (Instr.build 39 #[(0, i64 2), (1, i64 s), (2, i64 i), (3, i64 n)]).run Tryd.prog w' = .ok (.agg #[i64 2, i64 s, i64 i, i64 n, i64 0, .bool false, i64 0, i64 0, i64 0, i64 0, i64 0, i64 0]) w' := fun w' _ _ _ => by kernel_rfl
theorem build_msgs : ∀ (w' : World) (a0 a1 a2 a3 a4 : Int) (a5 : Bool) (a6 a7 a8 a9 a10 a11 : Int), (Instr.buildSlice 29 1 #[(0, .agg #[i64 a0, i64 a1, i64 a2, i64 a3, i64 a4, .bool a5, i64 a6, i64 a7, i64 a8, i64 a9, i64 a10, i64 a11])]).run Tryd.prog w' = .ok (.slice (some ⟨w'.heap.size, 0, none⟩) 1 1) (w'.alloc (.cells #[i64 a0, i64 a1, i64 a2, i64 a3, i64 a4, .bool a5, i64 a6, i64 a7, i64 a8, i64 a9, i64 a10, i64 a11] 39)) := fun w' _ _ _ _ _ _ _ _ _ _ _ _ => by kernel_rfl
theorem doMsgs_step {s i : Int} {r : List Op} {q : Nat} (h : q < r.length) : doMsgs s i 0 (r.take (q + 1)) = doMsgs s i 0 (r.take q) ++ (if atSw s r[q] = true then [⟨1, s, i, cntSw s (r.take q), r[q]⟩] else []) := by
  rw [List.take_succ_eq_append_getElem h, doMsgs_snoc, Int.zero_add]
theorem cntSw_step {s : Int} {r : List Op} {q : Nat} (h : q < r.length) : cntSw s (r.take (q + 1)) = cntSw s (r.take q) + (if atSw s r[q] = true then 1 else 0) := by
  rw [List.take_succ_eq_append_getElem h, cntSw_snoc]
theorem cntSw_le (s : Int) (r : List Op) : 0 ≤ cntSw s r ∧ cntSw s r ≤ r.length := by
  unfold cntSw
  have := List.length_filter_le (atSw s) r
  omega
theorem say_len (r : List Op) (i : Int) : ∀ l : List Int, (l.flatMap (sayOne r i)).length ≤ l.length * (r.length + 1)
  | [] => by simp
  | s :: l => by
    rw [List.flatMap_cons, List.length_append, List.length_cons, Nat.add_mul, Nat.one_mul]
    have h1 := say_len r i l
    have h2 : (sayOne r i s).length ≤ r.length + 1 := by
      rw [sayOne, List.length_append, doMsgs_len]
      have := List.length_filter_le (atSw s) r
      simp; omega
    omega
theorem take_say {r : List Op} {i : Int} {l : List Int} {j : Nat} (h : j < l.length) : (l.take (j + 1)).flatMap (sayOne r i) = (l.take j).flatMap (sayOne r i) ++ (doMsgs l[j] i 0 r ++ [⟨2, l[j], i, cntSw l[j] r, noOp⟩]) := by
  rw [List.take_succ_eq_append_getElem h, List.flatMap_append]; simp [sayOne]
set_option maxRecDepth 100000 in
set_option maxHeartbeats 3200000 in
theorem say_any (p : Nat) (d : Drv) (vr vl : Value) (w : World) (h : DriveAt w p d vr vl) (k : Nat) (hk : d.said = (k : Int) + 1) (hkr : k < d.rounds.length) (hkl : d.rounds.length ≤ 100000) (r : List Op) (hr : d.rounds[k]? = some r) (hrl : r.length ≤ 200) (hll : d.left.length ≤ 1000) :
    Calls Tryd.prog 26 #[.pointer (some ⟨p, 0, none⟩)] w fun e w' => ∃ v', e = .returned v' ∧ w'.ownsRow w.heap.size 39 12 v' (d.left.flatMap (sayOne r k)).length ((d.left.flatMap (sayOne r k)).flatMap Msg.cells) ∧ Ext w w' := by
  have hc := h.cells
  rw [hk] at hc
  have hR := h.rndR
  have hLft := h.leftR
  obtain ⟨A, c, hvl⟩ := own_slice h.own
  obtain ⟨B, c2, hvr, _⟩ := hR.form
  subst hvl hvr
  obtain ⟨b, off, rfl, hb, hrow⟩ := hR.at_ hkr
  obtain ⟨vk, hcell, hrd⟩ := row_slice hrow rfl hkr
  obtain rfl : d.rounds[k] = r := by rw [List.getElem?_eq_getElem hkr] at hr; exact Option.some.inj hr
  generalize d.rounds[k] = r at hrd hrl
  obtain ⟨C, c3, hvk, hn3, hc3, _⟩ := hrd.form
  subst hvk
  unfold maxLen at hc3
  have hck : ∀ w', Ext w w' → w'.cell? ⟨b, off + k, none⟩ = some (.slice C r.length c3) := fun w' e => (World.cell?_of_block (e.block hb)).trans hcell
  have HRD := Lib.hid hrd
  have HLF := Lib.hid hLft
  have hbd := build_do
  have hba := build_ask
  have hbm := build_msgs
  obtain ⟨i0, hi0, hz0, hz1, hz2⟩ := info_of info_msg
  have hwk : IntKind.i64.wrap ((k : Int) + 1 - 1) = (k : Int) := (IntWalk.i64_in _ (by omega)).trans (by omega)
  have hk0 : (0 : Int) ≤ (k : Int) := by omega
  have hk1 : (k : Int) < (d.rounds.length : Int) := by omega
  generalize d.left = L at hc HLF hll
  generalize d.rounds.length = nr at hc hk1 hkl
  have hc0 := hc w (ext_refl w)
  clear h hR hrow hcell hrd hLft hr hk hkr
  go_enter Tryd.func26, Tryd.ntmps26
  go_wp2_with fail
  go_loopw [2, 19] (fun o i wr => ∃ j : Nat, j ≤ L.length ∧ i = .int .i64 j ∧ Ext w wr ∧ wr.ownsRow w.heap.size 39 12 o ((L.take j).flatMap (sayOne r k)).length (((L.take j).flatMap (sayOne r k)).flatMap Msg.cells)) (fun _ i _ => L.length - (intOf i).toNat)
  case atStart => exact ⟨0, Nat.zero_le _, rfl, ext_refl _, World.ownsRow_nil _ _ _ _⟩
  case round =>
    obtain ⟨j, hj, rfl, hE0, hown⟩ := hrel
    have HO0 := Lib.hid hown
    clear hown
    by_cases hlt : j < L.length
    · obtain ⟨ba, oa, rfl, hba, hcs⟩ := int_cellR HLF.out hlt
      have hcsr := (World.cell?_of_block (hE0.block hba)).trans hcs
      have HTS := Lib.hid (take_say (r := r) (i := (k : Int)) hlt)
      generalize L[j] = s at hcsr HTS
      have hM0 := say_len r k (L.take j)
      rw [List.length_take, Nat.min_eq_left (by omega)] at hM0
      have hM1 : ((L.take j).flatMap (sayOne r k)).length ≤ 201000 := Nat.le_trans hM0 (Nat.le_trans (Nat.mul_le_mul (show j ≤ 1000 by omega) (show r.length + 1 ≤ 201 by omega)) (by omega))
      clear hM0 hcs
      generalize hM : (L.take j).flatMap (sayOne r k) = M at HO0 HTS hM1
      have HM := Lib.hid hM
      clear hM
      have hcr := hc wr hE0
      have hckr := hck wr hE0
      have hlt2 : (j : Int) < (L.length : Int) := by omega
      obtain ⟨wo, rfl⟩ : ∃ wo : World, wo = wr := ⟨_, rfl⟩
      go_wp2_with fail
      go_loopw [2, 6, 31] (fun o n i wr => ∃ q : Nat, q ≤ r.length ∧ i = .int .i64 q ∧ n = i64 (cntSw s (r.take q)) ∧ Ext w wr ∧ wr.ownsRow w.heap.size 39 12 o (M ++ doMsgs s k 0 (r.take q)).length ((M ++ doMsgs s k 0 (r.take q)).flatMap Msg.cells)) (fun _ _ i _ => r.length - (intOf i).toNat)
      case atStart => exact ⟨0, Nat.zero_le _, rfl, rfl, hE0, by simpa [doMsgs] using HO0.out⟩
      case round =>
        obtain ⟨q, hq, rfl, rfl, hE1, hown⟩ := hrel
        have HO := Lib.hid hown
        clear hown
        have hcn := cntSw_le s (r.take q)
        have hdl : (M ++ doMsgs s k 0 (r.take q)).length ≤ 201200 := by
          rw [List.length_append, doMsgs_len]
          have := List.length_filter_le (atSw s) (r.take q)
          simp at this; omega
        rw [List.length_take, Nat.min_eq_left hq] at hcn
        by_cases hq2 : q < r.length
        · obtain ⟨bc, oc, rfl, hbc, hrow⟩ := HRD.out.at_ hq2
          obtain ⟨cs, hro, hrel⟩ := hrow q _ (List.getElem?_eq_getElem hq2)
          obtain ⟨rfl, _⟩ : cs = Op.cells r[q] ∧ _ := hrel
          have HRO := Lib.hid (rangeAt_block hro (hE1.block hbc) : wr.rangeAt bc (oc + q * 8) _)
          have HDS := Lib.hid (doMsgs_step (s := s) (i := (k : Int)) hq2)
          have HCS := Lib.hid (cntSw_step (s := s) hq2)
          clear hro hrow
          generalize r[q] = o at HRO HDS HCS
          generalize cntSw s (r.take q) = n at hcn HDS HCS
          generalize hD : M ++ doMsgs s k 0 (r.take q) = D at HO hdl
          have HD := Lib.hid hD
          clear hD
          have hq3 : (q : Int) < (r.length : Int) := by omega
          by_cases hsw : o.switch = s
          · have hsb : (o.switch == s) = true := by simpa using hsw
            have hat : atSw s o = true := by simpa [atSw] using hsw
            have HN : Hid (D ++ [⟨1, s, k, n, o⟩] = M ++ doMsgs s k 0 (r.take (q + 1))) := by
              show _ = _
              rw [HDS.out, if_pos hat, ← List.append_assoc, HD.out]
            have HC2 : Hid (cntSw s (r.take (q + 1)) = n + 1) := by
              show _ = _
              rw [HCS.out, if_pos hat]
            have HSW := Lib.hid hsw
            clear hsw hat
            have c1 := Lib.hid (by unfold maxLen; omega : D.length + 1 ≤ maxLen)
            have c2 := Lib.hid (by omega : (D.length + 1) * 96 ≤ 140737488355328)
            go_wp2_with (first
              | (refine wpList_load_mid rfl 37 _ rfl bc _ rfl _ _ HRO.out Tryd.underlying37 rfl (by kernel_rfl) ?_; unfold Op.cells)
              | (at_builtin; refine wpList_append_src _ rfl (.tmp 39) (.tmp 45) _ rfl w.heap.size 39 i0 _ 12 96 Tryd.underlying29 hi0 hz0 hz1 hz2 rfl (Nat.zero_lt_succ _) _ D.length _ rfl ((HO.out.alloc _).alloc _) _ 1 1 (Msg.cells ⟨1, s, k, n, o⟩) rfl (src_one (heap_alloc_two _ _ _) rfl) (one_msg _) c1.out c2.out (Nat.le_trans hE1.size (Nat.le_trans (le_alloc _ _) (le_alloc _ _))) ?_; intro v' w2 hown' hgr _; have hX2 := own_ext (W := w) (ext_alloc (ext_alloc hE1 _) _) ((HO.out.alloc _).alloc _) hgr (Nat.le_refl _)))
            go_roundw
            case rel => exact ⟨q + 1, by omega, by go_num, by rw [HC2.out], hX2, by rw [← HN.out, List.length_append, List.flatMap_append]; simpa using hown'⟩
            case measure => simp [intOf]; omega
          · have hsb : (o.switch == s) = false := by simpa using hsw
            have hat : ¬ atSw s o = true := by simpa [atSw] using hsw
            have HN : Hid (D = M ++ doMsgs s k 0 (r.take (q + 1))) := by
              show _ = _
              rw [HDS.out, if_neg hat, List.append_nil, HD.out]
            have HC2 : Hid (cntSw s (r.take (q + 1)) = n) := by
              show _ = _
              rw [HCS.out, if_neg hat, Int.add_zero]
            clear hsw hat
            go_wp2_with (refine wpList_load_mid rfl 37 _ rfl bc _ rfl _ _ HRO.out Tryd.underlying37 rfl (by kernel_rfl) ?_; unfold Op.cells)
            go_roundw
            case rel => exact ⟨q + 1, by omega, by go_num, by rw [HC2.out], ext_alloc hE1 _, by rw [← HN.out]; exact HO.out.alloc _⟩
            case measure => simp [intOf]; omega
        · have hqe : q = r.length := by omega
          subst hqe
          have HO2 : Hid (wr.ownsRow w.heap.size 39 12 u2 (M ++ doMsgs s k 0 r).length ((M ++ doMsgs s k 0 r).flatMap Msg.cells)) := by
            have := HO.out
            rw [List.take_length] at this
            exact this
          rw [List.take_length] at hdl hcn ⊢
          have HDL := Lib.hid hdl
          generalize hD : M ++ doMsgs s k 0 r = D at HO2 hdl
          have HD := Lib.hid hD
          generalize hnn : cntSw s r = n at hcn ⊢
          have HNN := Lib.hid hnn
          clear hD HO hnn
          have c1 := Lib.hid (by unfold maxLen; omega : D.length + 1 ≤ maxLen)
          have c2 := Lib.hid (by omega : (D.length + 1) * 96 ≤ 140737488355328)
          go_wp2_with (at_builtin; refine wpList_append_src _ rfl (.tmp 50) (.tmp 55) _ rfl w.heap.size 39 i0 _ 12 96 Tryd.underlying29 hi0 hz0 hz1 hz2 rfl (Nat.zero_lt_succ _) _ D.length _ rfl (HO2.out.alloc _) _ 1 1 (Msg.cells ⟨2, s, k, n, noOp⟩) rfl (src_one (heap_alloc_new _ _) rfl) (one_msg _) c1.out c2.out (Nat.le_trans hE1.size (le_alloc _ _)) ?_; intro v' w2 hown' hgr _; have hX2 := own_ext (W := w) (ext_alloc hE1 _) (HO2.out.alloc _) hgr (Nat.le_refl _))
          go_roundw
          case rel =>
            refine ⟨j + 1, by omega, by go_num, hX2, ?_⟩
            rw [HTS.out, ← List.append_assoc, HD.out, HNN.out, List.length_append, List.flatMap_append]
            simpa using hown'
          case measure => simp [intOf]; omega
    · have hje : j = L.length := by omega
      subst hje
      have hown := HO0.out
      rw [List.take_length] at hown
      clear HO0
      go_wp2
      go_ret
      exact ⟨_, rfl, hown, hE0⟩
end Go.Proofs.YtkfckanbpmkbgaaDoor
