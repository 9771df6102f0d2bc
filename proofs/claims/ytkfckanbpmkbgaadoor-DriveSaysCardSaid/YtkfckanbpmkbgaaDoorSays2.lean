/- Walk: the statement DriveSays. -/
import Derived.Test.YtkfckanbpmkbgaaDoorSays1
import Derived.Test.YtkfckanbpmkbgaaDoorDrive6
import Derived.Test.YtkfckanbpmkbgaaDoorTold
namespace Go.Proofs.YtkfckanbpmkbgaaDoor
open Go Go.RowKit
def TrueExt (w : World) (e : Ending) (w' : World) : Prop := e = .returned (.bool true) ∧ Ext w w'
section
variable {p : Nat} {l : List (List Op)} {wait : Int} {vr vl : Value} {w : World}
theorem says_next {k : Nat} {r : List Op} (h : DriveAt w p (roundD l wait k) vr vl) (ok : DrvOk l wait) (hr : l[k]? = some r) :
    Calls Tryd.prog 7 #[.pointer (some ⟨p, 0, none⟩)] w fun e w' => ∃ v' vl', e = .returned (.tuple #[v', .nilIface]) ∧ TMsg.slice.rel w' w.heap.size w'.heap.size ((touched r).flatMap (sayOne r k)) [v'] ∧ DriveAt w' p (waitD l wait k (touched r)) vr vl' ∧ OffV p vl w w' := by
  obtain ⟨hm, hn⟩ := next_round (wait := wait) hr
  refine (next_any p _ vr vl w h (by simp [roundD]) (by have := ok.len; simp [roundD]; omega) (by simpa [roundD] using ok.rows)).mono ?_
  rintro e w' ⟨v', vl', he, h1, h2, h3, _, _⟩
  rw [hn] at he h1 h2
  exact ⟨v', vl', by rw [he, errV_zero], h1, h2, h3⟩
theorem says_left {k : Nat} {T : List Int} (h : DriveAt w p (waitD l wait k T) vr vl) (ht : T.length ≤ 1000) :
    Calls Tryd.prog 8 #[.pointer (some ⟨p, 0, none⟩)] w fun e w' => ∃ v', e = .returned v' ∧ w'.ownsRow w.heap.size 3 1 v' T.length (T.flatMap Int.cells) ∧ Ext w w' := left_any p _ vr vl w h (by simpa [waitD] using ht)
theorem says_soon {k : Nat} {s : Int} {ss : List Int} (h : DriveAt w p (waitD l wait k (s :: ss)) vr vl) (ok : DrvOk l wait) (_ : k < l.length) :
    Calls Tryd.prog 7 #[.pointer (some ⟨p, 0, none⟩)] w fun e w' => ∃ v', e = .returned (.tuple #[v', errV 6]) ∧ Ext w w' := by
  obtain ⟨hm, hn⟩ := next_soon (l := l) (wait := wait) (k := k) (s := s) (ss := ss)
  refine (next_any p _ vr vl w h (by simp [waitD]; omega) (by have := ok.len; simp [waitD]; omega) (by simpa [waitD] using ok.rows)).mono ?_
  rintro e w' ⟨v', vl', he, h1, h2, h3, h4, _⟩
  rw [hn] at he
  exact ⟨v', he, (h4 hm).2⟩
theorem says_hear {k : Nat} {s : Int} {ss : List Int} (h : DriveAt w p (waitD l wait k (s :: ss)) vr vl) (ok : DrvOk l wait) (hk : k < l.length) (h1 : 1 ≤ s) (h2 : s ≤ 6) (hl : ss.length < 1000) :
    Calls Tryd.prog 9 #[.pointer (some ⟨p, 0, none⟩), .agg #[i64 3, i64 s, i64 k, i64 0, i64 0, .bool false, i64 0, i64 0, i64 0, i64 0, i64 0, i64 0]] w fun e w' => ∃ vl', e = .returned .nilIface ∧ DriveAt w' p (waitD l wait k ss) vr vl' ∧ OffV p vl w w' ∧ vl'.ownBlock = vl.ownBlock := by
  have hk20 : k < 20 := by have := ok.len; omega
  refine (heard_any p _ (yesMsg3 s k) vr vl w h (by simp [waitD]; omega) (by simp [waitD]; omega) (by simp [waitD]; omega)).mono ?_
  rintro e w' ⟨vl', he, h3, h4, h5⟩
  rw [hear_first h1 h2 hk20] at he h3
  exact ⟨vl', by rw [he, errV_zero], h3, h4, h5⟩
theorem says_twice {k : Nat} {s : Int} {ss : List Int} (h : DriveAt w p (waitD l wait k ss) vr vl) (ok : DrvOk l wait) (hk : k < l.length) (h1 : 1 ≤ s) (h2 : s ≤ 6) (hl : ss.length < 1000) (hn : s ∉ ss) :
    Calls Tryd.prog 9 #[.pointer (some ⟨p, 0, none⟩), .agg #[i64 3, i64 s, i64 k, i64 0, i64 0, .bool false, i64 0, i64 0, i64 0, i64 0, i64 0, i64 0]] w fun e w' => ∃ vl', e = .returned (errV 6) ∧ DriveAt w' p (waitD l wait k ss) vr vl' ∧ OffV p vl w w' ∧ vl'.ownBlock = vl.ownBlock := by
  have hk20 : k < 20 := by have := ok.len; omega
  refine (heard_any p _ (yesMsg3 s k) vr vl w h (by simp [waitD]; omega) (by simp [waitD]; omega) (by simp [waitD]; omega)).mono ?_
  rintro e w' ⟨vl', he, h3, h4, h5⟩
  rw [hear_twice h1 h2 hk20 hn] at he h3
  exact ⟨vl', he, h3, h4, h5⟩
end
theorem build_yes : ∀ (w' : World) (s i : Int), (Instr.build 39 #[(0, i64 3), (1, i64 s), (2, i64 i)]).run Tryd.prog w' = .ok (.agg #[i64 3, i64 s, i64 i, i64 0, i64 0, .bool false, i64 0, i64 0, i64 0, i64 0, i64 0, i64 0]) w' := fun w' _ _ => by kernel_rfl
/-- A slice of things that the call does not write. -/
theorem relV {α : Type} {T : Ty α} {w w' : World} {p lo hi : Nat} {vl : Value} {a : α} {cs : List Value} (h : T.rel w lo hi a cs) (hO : OffV p vl w w') (hp : p < lo) (hv : ∀ g, vl.ownBlock = some g → g < lo) (hhi : hi ≤ w.heap.size) : T.rel w' lo w'.heap.size a cs :=
  T.ext h (fun b h1 h2 => hO.block b (by omega) (by omega) (fun e => by have := hv b e; omega)) (Nat.le_refl _) (Nat.le_trans hhi hO.size)
theorem OffV.trans {p : Nat} {vl vl' : Value} {a b c : World} (h : OffV p vl a b) (k : OffV p vl' b c) (e : vl'.ownBlock = vl.ownBlock) : OffV p vl a c :=
  ⟨k.os.trans h.os, k.tape.trans h.tape, k.output.trans h.output, Nat.le_trans h.size k.size, fun j hj hp hv => (k.block j (Nat.lt_of_lt_of_le hj h.size) hp (by rw [e]; exact hv)).trans (h.block j hj hp hv)⟩
/-- Who is left, read while the drive changes. -/
theorem left_cell {w4 w5 : World} {p : Nat} {vl : Value} {A : Option Addr} {n c : Nat} {T : List Int} (ho : w5.ownsRow w4.heap.size 3 1 (.slice A n c) T.length (T.flatMap Int.cells)) (hp : p < w4.heap.size) (hv : ∀ g, vl.ownBlock = some g → g < w4.heap.size) {q : Nat} (hq : q < T.length) :
    ∃ b off, A = some ⟨b, off, none⟩ ∧ ∀ w', OffV p vl w5 w' → w'.cell? ⟨b, off + q, none⟩ = some (i64 T[q]) := by
  have hR : RdL TInt w5 T (.slice A n c) := RdL.of_own (n := 1) (enc := fun n => [i64 n]) (h := fun _ => rfl) (ok := fun _ => True) ho (fun _ _ => trivial)
  obtain ⟨b, off, rfl, hb, hc⟩ := int_cellR hR hq
  have hl := (ho.lt b rfl).1
  exact ⟨b, off, rfl, fun w' k => (World.cell?_of_block (k.block b hb (by omega) (fun e => by have := hv b e; omega))).trans hc⟩
theorem cntK_take {n : Int} {M : List Msg} {k : Nat} (h : k < M.length) : cntK n (M.take (k + 1)) = cntK n (M.take k) + (if M[k].kind = n then 1 else 0) := by
  rw [List.take_succ_eq_append_getElem h, cntK_snoc]
theorem cntK_le (n : Int) (M : List Msg) (k : Nat) : 0 ≤ cntK n (M.take k) ∧ cntK n (M.take k) ≤ k := by
  unfold cntK
  have := List.length_filter_le (isK n) (M.take k)
  have h2 := List.length_take_le k M
  omega
set_option maxRecDepth 100000 in
set_option maxHeartbeats 6400000 in
theorem says_any (l : List (List Op)) (wait : Int) (v : Value) (w : World) (hv : RdL TOp.slice w l v) (hg : Laid w) :
    Calls Tryd.prog 3 #[v, i64 wait] w (TrueExt w) := by
  have HN := Lib.hid (dnew_any l wait v w hv)
  have HN2 := Lib.hid fun w' => dnew_any [] 0 (.slice none 0 0) w' (RdL.of_rel (rel_none _ _ 0 _) (Nat.le_refl _))
  obtain ⟨A, c, rfl, hn, hc, _⟩ := hv.form
  unfold maxLen at hc
  have HV := Lib.hid hv
  have HL := Lib.hid hg
  clear hv hg
  by_cases hd : drvErr l wait = 0
  · have HD := Lib.hid hd
    have HOK := Lib.hid (drvOk_of hd)
    have h20 : (l.length : Int) ≤ 20 := by have := HOK.out.len; omega
    have hby := build_yes
    clear hd
    go_enter Tryd.func3, Tryd.ntmps3
    go_wp2_with (first
      | (go_at_call_of 5 (wait); refine HN.out.mono ?_; rintro e w1 ⟨hX1, hA, _⟩; obtain ⟨p, vr, rfl, hp, hA1⟩ := hA HD.out; have HA1 := Lib.hid hA1; clear hA hA1)
      | (go_at_call 5; refine (HN2.out _).mono ?_; rintro e w2 ⟨hX2, _, hB⟩; obtain rfl := hB (by decide); clear hB)
      | (go_at_call 6; refine (err_any 1 1 _ (HL.out.ext (hX1.trans hX2))).mono ?_; rintro e w3 ⟨rfl, hX3⟩; rw [decide_eq_true (rfl : (1 : Int) = 1)]))
    have hE13 : Ext w1 w3 := hX2.trans hX3
    go_loopw [10] (fun i wr => ∃ (k : Nat) (vl : Value), k ≤ l.length ∧ i = .int .i64 k ∧ Ext w wr ∧ DriveAt wr p (roundD l wait k) vr vl) (fun i _ => l.length - (intOf i).toNat)
    case atStart => exact ⟨0, .slice none 0 0, Nat.zero_le _, rfl, hX1.trans hE13, HA1.out.ext hE13⟩
    case round =>
      obtain ⟨k, vl, hk, rfl, hwr, hdr⟩ := hrel
      have HDR := Lib.hid hdr
      clear hdr
      have hbase : ∀ g, vl.ownBlock = some g → w.heap.size ≤ g := fun g e => by have := (HDR.out.own.lt g e).1; omega
      have HBASE := Lib.hid hbase
      clear hbase
      by_cases hlt : k < l.length
      · have hlt2 : (k : Int) < (l.length : Int) := by omega
        have hk0 : (0 : Int) ≤ (k : Int) := by omega
        obtain ⟨b, off, rfl, hb, hrow⟩ := HV.out.at_ hlt
        obtain ⟨vk, hcell, hrd⟩ := row_slice hrow rfl hlt
        have hr : l[k]? = some l[k] := List.getElem?_eq_getElem hlt
        have hsw := HOK.out.sw _ (List.getElem_mem hlt)
        have hrl := HOK.out.rows _ (List.getElem_mem hlt)
        generalize l[k] = r at hr hrd hsw hrl
        obtain ⟨C, c3, rfl, _, hc3, _⟩ := hrd.form
        unfold maxLen at hc3
        have HR := Lib.hid hr
        have HSW := Lib.hid hsw
        have HCE := Lib.hid fun w' (e : Ext w w') => (World.cell?_of_block (e.block hb)).trans hcell
        have HSAY := Lib.hid (say_ops r k)
        have HALL := Lib.hid (say_all r k (touched r))
        have htl := touched_len r hrl
        have hnx := says_next HDR.out HOK.out HR.out
        generalize (touched r).flatMap (sayOne r k) = M at hnx HSAY HALL
        have HNX := Lib.hid hnx
        clear hr hsw hrow hcell hrd hnx
        go_wp2_with (go_at_call 7; refine HNX.out.mono ?_; rintro e w4 ⟨v4, vl4, rfl, hM, hA4, hO4⟩; obtain ⟨Am, cm, rfl⟩ := slice_val hM; have HM := Lib.hid (RdL.of_rel hM (Nat.le_refl _)); have HA4 := Lib.hid hA4; have HO4 := Lib.hid hO4; clear hM hA4 hO4)
        have hw4 : Ext w w4 := OffV.ext hwr HO4.out hp HBASE.out
        have hmml : M.length ≤ 9223372036854775807 := by
          obtain ⟨_, _, _, hmc, hmc2, _⟩ := HM.out.form
          unfold maxLen at hmc2; omega
        go_loop [13, 14, 15] (fun a b i => ∃ q : Nat, q ≤ M.length ∧ i = .int .i64 q ∧ a = i64 (cntK 1 (M.take q)) ∧ b = i64 (cntK 2 (M.take q))) (fun _ _ i => M.length - (intOf i).toNat)
        case atStart => exact ⟨0, Nat.zero_le _, rfl, rfl, rfl⟩
        case round =>
          obtain ⟨q, hq, rfl, rfl, rfl⟩ := hrel
          have hq1 := cntK_le 1 M q
          have hq2 := cntK_le 2 M q
          by_cases hqm : q < M.length
          · have hqm2 : (q : Int) < (M.length : Int) := by omega
            obtain ⟨bm, om, rfl, hbm, hrm⟩ := HM.out.at_ hqm
            obtain ⟨cs, hro, hrel⟩ := hrm q _ (List.getElem?_eq_getElem hqm)
            obtain ⟨rfl, _⟩ : cs = Msg.cells M[q] ∧ _ := hrel
            have hc0 : w4.cell? ⟨bm, om + q * 12, none⟩ = some (i64 M[q].kind) := hro 0 _ rfl
            have hc2 : w4.cell? ⟨bm, om + q * 12 + 2, none⟩ = some (i64 M[q].round) := hro 2 _ rfl
            have hmm := HALL.out _ (List.getElem_mem hqm)
            have HT1 := Lib.hid (cntK_take (n := 1) hqm)
            have HT2 := Lib.hid (cntK_take (n := 2) hqm)
            clear hro hrm
            generalize M[q] = m at hc0 hc2 hmm HT1 HT2
            generalize hn1 : cntK 1 (M.take q) = n1 at hq1 HT1 ⊢
            generalize hn2 : cntK 2 (M.take q) = n2 at hq2 HT2 ⊢
            clear hn1 hn2
            obtain ⟨hmr, hmk⟩ := hmm
            rw [hmr] at hc2
            clear hmr
            have hc0' : w4.cell? ⟨bm, om + q * 12, none⟩ = some (i64 m.kind) := hc0
            clear hc0
            rcases hmk with hmk | hmk
            · rw [hmk] at hc0'
              have e1 : Hid (cntK 1 (M.take (q + 1)) = n1 + 1) := by show _ = _; rw [HT1.out, if_pos hmk]
              have e2 : Hid (cntK 2 (M.take (q + 1)) = n2) := by show _ = _; rw [HT2.out, if_neg (by rw [hmk]; decide), Int.add_zero]
              clear hmk
              go_wp2
              go_round
              case rel => exact ⟨q + 1, by omega, by go_num, by rw [e1.out], by rw [e2.out]⟩
              case measure => simp [intOf]; omega
            · rw [hmk] at hc0'
              have e1 : Hid (cntK 1 (M.take (q + 1)) = n1) := by show _ = _; rw [HT1.out, if_neg (by rw [hmk]; decide), Int.add_zero]
              have e2 : Hid (cntK 2 (M.take (q + 1)) = n2 + 1) := by show _ = _; rw [HT2.out, if_pos hmk]
              clear hmk
              go_wp2
              go_round
              case rel => exact ⟨q + 1, by omega, by go_num, by rw [e1.out], by rw [e2.out]⟩
              case measure => simp [intOf]; omega
          · have hqe : q = M.length := by omega
            subst hqe
            rw [List.take_length, HSAY.out.1, HSAY.out.2]
            clear hq1 hq2
            have hcl := HCE.out
            go_wp2_with (first
              | (go_at_call 8; refine (says_left HA4.out htl).mono ?_; rintro e w5 ⟨v5, rfl, hown5, hX5⟩; obtain ⟨A5, c5, rfl⟩ := own_slice hown5; have hcw5 := hcl w5 (hw4.trans hX5); have HO5 := Lib.hid hown5; clear hown5))
            have hpl := HA4.out.own.lt
            have hp4 : p < w4.heap.size := HA4.out.lt
            have HB4 := Lib.hid (fun g (e : vl4.ownBlock = some g) => (hpl g e).2)
            have HB5 := Lib.hid (fun g (e : vl4.ownBlock = some g) => (show w.heap.size ≤ g from by have := (hpl g e).1; omega))
            have hw5 : Ext w w5 := hw4.trans hX5
            have HND := Lib.hid (touched_nodup r)
            have HS6 : Hid (∀ s ∈ touched r, 1 ≤ s ∧ s ≤ 6) := fun s hs => by
              obtain ⟨o, ho, rfl⟩ := (touched_mem r s).1 hs
              exact HSW.out o ho
            clear hpl
            generalize touched r = T at HA4 HO5 HND HS6 htl ⊢
            go_loopw [17] (fun i wr => ∃ (q : Nat) (vl' : Value), q ≤ T.length ∧ i = .int .i64 q ∧ DriveAt wr p (waitD l wait k (T.drop q)) vr vl' ∧ vl'.ownBlock = vl4.ownBlock ∧ OffV p vl4 w5 wr) (fun i _ => T.length - (intOf i).toNat)
            case atStart => exact ⟨0, vl4, Nat.zero_le _, rfl, by rw [List.drop_zero]; exact HA4.out.ext hX5, rfl, OffV.of_ext (ext_refl _)⟩
            case round =>
              obtain ⟨q, vl', hq, rfl, hda, hvb, hoff⟩ := hrel
              have HOFF := Lib.hid hoff
              have HDA := Lib.hid hda
              clear hoff hda
              by_cases hqt : q < T.length
              · have hqt2 : (q : Int) < (T.length : Int) := by omega
                have hq0 : (0 : Int) ≤ (q : Int) := by omega
                obtain ⟨g5, o5, rfl, hcell5⟩ := left_cell HO5.out hp4 HB4.out hqt
                have hd := List.drop_eq_getElem_cons hqt
                have h6 := HS6.out _ (List.getElem_mem hqt)
                have hnn : T[q] ∉ T.drop (q + 1) := by
                  have := HND.out.sublist (List.drop_sublist q T)
                  rw [hd] at this
                  exact (List.nodup_cons.1 this).1
                have hdl : (T.drop (q + 1)).length < 1000 := by rw [List.length_drop]; omega
                have HDA2 : Hid (DriveAt wr p (waitD l wait k (T[q] :: T.drop (q + 1))) vr vl') := by show DriveAt _ _ _ _ _; rw [← hd]; exact HDA.out
                have HC5 := Lib.hid hcell5
                generalize T[q] = s at h6 hnn HDA2 HC5
                have H6 := Lib.hid h6
                have HNN := Lib.hid hnn
                have HDL := Lib.hid hdl
                clear hd h6 hnn hdl hcell5
                go_wp2_with (first
                  | (go_at_call 7; refine (says_soon HDA2.out HOK.out hlt).mono ?_; rintro e w6 ⟨v6, rfl, hX6⟩; have HE6 := Lib.hid (OffV.ext hw5 (HOFF.out.then hX6) hp HB5.out))
                  | (go_at_call 6; refine (err_any 6 6 _ (HL.out.ext HE6.out)).mono ?_; rintro e w7 ⟨rfl, hX7⟩; rw [decide_eq_true (rfl : (6 : Int) = 6)]; have HF7 := Lib.hid ((HOFF.out.then hX6).then hX7); have hc7 := HC5.out w7 HF7.out; have HA7 := Lib.hid (HDA2.out.ext (hX6.trans hX7)))
                  | (go_at_call 9; refine (says_hear HA7.out HOK.out hlt H6.out.1 H6.out.2 HDL.out).mono ?_; rintro e w8 ⟨vl8, rfl, hA8, hO8, hb8⟩; have HF8 := Lib.hid (HF7.out.trans hO8 hvb); have hc8 := HC5.out w8 HF8.out; have HA8 := Lib.hid hA8; have hv8 := hb8.trans hvb; clear hA8 hO8 hb8)
                  | (go_at_call 9; refine (says_twice HA8.out HOK.out hlt H6.out.1 H6.out.2 HDL.out HNN.out).mono ?_; rintro e w9 ⟨vl9, rfl, hA9, hO9, hb9⟩; have HF9 := Lib.hid (HF8.out.trans hO9 hv8); have HA9 := Lib.hid hA9; have hv9 := hb9.trans hv8; have HE9 := Lib.hid (OffV.ext hw5 HF9.out hp HB5.out); clear hA9 hO9 hb9)
                  | (go_at_call 6; refine (err_any 6 6 _ (HL.out.ext HE9.out)).mono ?_; rintro e w10 ⟨rfl, hX10⟩; rw [decide_eq_true (rfl : (6 : Int) = 6)]))
                go_roundw
                case rel => exact ⟨q + 1, vl9, by omega, by go_num, HA9.out.ext hX10, hv9, HF9.out.then hX10⟩
                case measure => simp [intOf]; omega
              · have hqe : q = T.length := by omega
                have HDA2 : Hid (DriveAt wr p (roundD l wait (k + 1)) vr vl') := by
                  show DriveAt _ _ _ _ _
                  rw [← wait_done]
                  have := HDA.out
                  rwa [hqe, List.drop_length] at this
                subst hqe
                go_wp2
                go_roundw
                case rel => exact ⟨k + 1, vl', by omega, by go_num, OffV.ext hw5 HOFF.out hp HB5.out, HDA2.out⟩
                case measure => simp [intOf]; omega
      · have hke : k = l.length := by omega
        subst hke
        have hdone := done_end l wait
        go_wp2_with (first
          | (go_at_call 10; refine (done_any p _ vr vl _ HDR.out).mono ?_; rintro e w4 ⟨rfl, hX4⟩; rw [show doneB (roundD l wait l.length) = true from hdone]; have HA4 := Lib.hid (HDR.out.ext hX4))
          | (go_at_call 11; refine (round_any p _ vr vl _ HA4.out).mono ?_; rintro e w5 ⟨rfl, rfl⟩; rw [show (roundD l wait l.length).said = (l.length : Int) from rfl]))
        go_ret
        refine ⟨?_, hwr.trans hX4⟩
        simp
  · have hdd : decide (drvErr l wait = 0) = false := by simpa using hd
    have HD := Lib.hid hd
    clear hd
    go_enter Tryd.func3, Tryd.ntmps3
    go_wp2_with (go_at_call 5; refine HN.out.mono ?_; rintro e w1 ⟨hX1, _, hB⟩; obtain rfl := hB HD.out; clear hB)
    go_ret
    exact ⟨rfl, hX1⟩
end Go.Proofs.YtkfckanbpmkbgaaDoor
