/- Walk: what is wrong with a topology. -/
import Derived.Test.YthimhcbjboffcaaDoorTopo1
namespace Go.Proofs.YthimhcbjboffcaaDoor
open Go Go.RowKit
structure Topo where
  switches : Int
  links : List Link
  hosts : List Host
  deriving DecidableEq
def linkErr (sw : Int) : List Spot → List Link → Int
  | _, [] => 0
  | used, l :: ls => if spotOk sw l.a = false ∨ spotOk sw l.b = false then 1 else if isIn l.a used = true ∨ isIn l.b used = true ∨ l.a = l.b then 7 else linkErr sw (used ++ [l.a] ++ [l.b]) ls
def hostErr (sw : Int) : List ByteArray → List Spot → List Host → Int
  | _, _, [] => 0
  | names, used, h :: hs => if nameOk h.name = false then 2 else if spotOk sw h.spot = false then 1 else if isIn h.name names = true ∨ isIn h.spot used = true then 7 else hostErr sw (names ++ [h.name]) (used ++ [h.spot]) hs
def usedBy (ls : List Link) : List Spot := ls.flatMap fun l => [l.a] ++ [l.b]
def topoErr (t : Topo) : Int :=
  if t.switches < 1 ∨ 6 < t.switches then 1 else if 200 < t.links.length ∨ 8 < t.hosts.length then 4
  else if linkErr t.switches [] t.links ≠ 0 then linkErr t.switches [] t.links else hostErr t.switches [] (usedBy t.links) t.hosts
/-- A topology, by its value. -/
def RdTopo (w : World) (t : Topo) (vl vh : Value) : Prop := RdL TLink w t.links vl ∧ RdL THost w t.hosts vh
theorem RdTopo.ext {w w' : World} {t : Topo} {vl vh : Value} (h : RdTopo w t vl vh) (hE : Ext w w') : RdTopo w' t vl vh := ⟨h.1.ext hE, h.2.ext hE⟩
theorem box_range {w w' : World} {cs : List Value} {T : TypeId} (h : Ext (w.alloc (.cells cs.toArray T)) w') : w'.rangeAt w.heap.size 0 cs := rangeAt_block (rangeAt_new w cs T) (h.block (by simp))
theorem box_free {w w' : World} {cs : Array Value} {T : TypeId} (h : Ext (w.alloc (.cells cs T)) w') (j : Nat) : w'.frozen? ⟨w.heap.size, j, none⟩ = false :=
  frozen_of_row w' w.heap.size j cs T ((h.block (by simp)).trans (heap_alloc_new w _))
abbrev boxTopo (w : World) (sw : Int) (vl vh : Value) : World := w.alloc (.cells #[i64 sw, vl, vh] 34)
theorem boxTopo_cells (w : World) (sw : Int) (vl vh : Value) : ∀ w', Ext (boxTopo w sw vl vh) w' → w'.cell? ⟨w.heap.size, 0, none⟩ = some (i64 sw) ∧ w'.cell? ⟨w.heap.size, 1, none⟩ = some vl ∧ w'.cell? ⟨w.heap.size, 2, none⟩ = some vh :=
  fun _ h => have r := box_range (cs := [i64 sw, vl, vh]) h; ⟨r 0 _ rfl, r 1 _ rfl, r 2 _ rfl⟩
abbrev boxLink (w : World) (l : Link) : World := w.alloc (.cells #[i64 l.a.switch, i64 l.a.port, i64 l.b.switch, i64 l.b.port] 90)
theorem boxLink_cells (w : World) (l : Link) : ∀ w', Ext (boxLink w l) w' → w'.cell? ⟨w.heap.size, 0, none⟩ = some (i64 l.a.switch) ∧ w'.cell? ⟨w.heap.size, 1, none⟩ = some (i64 l.a.port) ∧ w'.cell? ⟨w.heap.size, 2, none⟩ = some (i64 l.b.switch) ∧ w'.cell? ⟨w.heap.size, 3, none⟩ = some (i64 l.b.port) :=
  fun _ h => have r := box_range (cs := l.cells) h; ⟨r 0 _ rfl, r 1 _ rfl, r 2 _ rfl, r 3 _ rfl⟩
abbrev boxHost (w : World) (h : Host) : World := w.alloc (.cells #[.string h.name, i64 h.spot.switch, i64 h.spot.port] 93)
theorem boxHost_cells (w : World) (l : Host) : ∀ w', Ext (boxHost w l) w' → w'.cell? ⟨w.heap.size, 0, none⟩ = some (.string l.name) ∧ w'.cell? ⟨w.heap.size, 1, none⟩ = some (i64 l.spot.switch) ∧ w'.cell? ⟨w.heap.size, 2, none⟩ = some (i64 l.spot.port) :=
  fun _ h => have r := box_range (cs := l.cells) h; ⟨r 0 _ rfl, r 1 _ rfl, r 2 _ rfl⟩
theorem spot_lookup {w : World} {g : Nat} {S : List Spot} (h : SetAt spotKey w g S) (s : Spot) : (Instr.lookup 101 (.map (some g)) (.agg #[i64 s.switch, i64 s.port]) false).run Tryd.prog w = .ok (.bool (isIn s S)) w := by
  have := run_lookup_map key_spot Tryd.underlying101 (z := .bool false) (fun w => by kernel_rfl) h s
  rw [fnd_set] at this; exact this
theorem name_lookup {w : World} {g : Nat} {S : List ByteArray} (h : SetAt Value.string w g S) (s : ByteArray) : (Instr.lookup 103 (.map (some g)) (.string s) false).run Tryd.prog w = .ok (.bool (isIn s S)) w := by
  have := run_lookup_map key_string Tryd.underlying103 (z := .bool false) (fun w => by kernel_rfl) h s
  rw [fnd_set] at this; exact this
theorem linkErr_1 {sw : Int} {used : List Spot} {l : Link} {ls : List Link} (h : spotOk sw l.a = false ∨ spotOk sw l.b = false) : linkErr sw used (l :: ls) = 1 := by rw [linkErr, if_pos h]
theorem linkErr_7 {sw : Int} {used : List Spot} {l : Link} {ls : List Link} (h1 : spotOk sw l.a = true) (h2 : spotOk sw l.b = true) (h : isIn l.a used = true ∨ isIn l.b used = true ∨ l.a = l.b) : linkErr sw used (l :: ls) = 7 := by
  rw [linkErr, if_neg (by simp [h1, h2]), if_pos h]
theorem linkErr_next {sw : Int} {used : List Spot} {l : Link} {ls : List Link} (h1 : spotOk sw l.a = true) (h2 : spotOk sw l.b = true) (h3 : isIn l.a used = false) (h4 : isIn l.b used = false) (h5 : ¬ l.a = l.b) : linkErr sw used (l :: ls) = linkErr sw (used ++ [l.a] ++ [l.b]) ls := by
  rw [linkErr, if_neg (by simp [h1, h2]), if_neg (by simp [h3, h4, h5])]

theorem hostErr_2 {sw : Int} {ns : List ByteArray} {us : List Spot} {h : Host} {hs : List Host} (h1 : nameOk h.name = false) : hostErr sw ns us (h :: hs) = 2 := by rw [hostErr, if_pos h1]
theorem hostErr_1 {sw : Int} {ns : List ByteArray} {us : List Spot} {h : Host} {hs : List Host} (h1 : nameOk h.name = true) (h2 : spotOk sw h.spot = false) : hostErr sw ns us (h :: hs) = 1 := by
  rw [hostErr, if_neg (by simp [h1]), if_pos h2]
theorem hostErr_7 {sw : Int} {ns : List ByteArray} {us : List Spot} {h : Host} {hs : List Host} (h1 : nameOk h.name = true) (h2 : spotOk sw h.spot = true) (h3 : isIn h.name ns = true ∨ isIn h.spot us = true) : hostErr sw ns us (h :: hs) = 7 := by
  rw [hostErr, if_neg (by simp [h1]), if_neg (by simp [h2]), if_pos h3]
theorem hostErr_next {sw : Int} {ns : List ByteArray} {us : List Spot} {h : Host} {hs : List Host} (h1 : nameOk h.name = true) (h2 : spotOk sw h.spot = true) (h3 : isIn h.name ns = false) (h4 : isIn h.spot us = false) :
    hostErr sw ns us (h :: hs) = hostErr sw (ns ++ [h.name]) (us ++ [h.spot]) hs := by
  rw [hostErr, if_neg (by simp [h1]), if_neg (by simp [h2]), if_neg (by simp [h3, h4])]

set_option maxRecDepth 100000 in
set_option maxHeartbeats 1600000 in
theorem tcheck_any (t : Topo) (vl vh : Value) (w : World) (hr : RdTopo w t vl vh) :
    Calls Tryd.prog 29 #[.agg #[i64 t.switches, vl, vh]] w fun e w' => e = .returned (errV (topoErr t)) ∧ Ext w w' := by
  obtain ⟨hl, hh⟩ := hr
  obtain ⟨A, c, rfl, hn, hc, _⟩ := hl.form
  obtain ⟨A2, c2, rfl, hn2, hc2, _⟩ := hh.form
  unfold maxLen at hc hc2
  have hmm := @run_makeMap Tryd.prog
  have hbt := boxTopo_cells w t.switches (.slice A t.links.length c) (.slice A2 t.hosts.length c2)
  by_cases h1 : t.switches < 1 ∨ 6 < t.switches
  · have HE := Lib.hid (show topoErr t = 1 by rw [topoErr, if_pos h1])
    rcases h1 with h1 | h1
    all_goals
      go_enter Tryd.func29, Tryd.ntmps29
      go_wp2
      go_ret
      exact ⟨by rw [HE.out]; rfl, (by repeat first | assumption | exact ext_refl _ | apply ext_alloc | apply ext_drewN | apply ext_drew)⟩
  · by_cases h2 : 200 < t.links.length ∨ 8 < t.hosts.length
    · have HE := Lib.hid (show topoErr t = 4 by rw [topoErr, if_neg h1, if_pos h2])
      have h11 : 1 ≤ t.switches := by omega
      have h12 : t.switches ≤ 6 := by omega
      clear h1
      by_cases h3 : 200 < t.links.length
      · clear h2
        go_enter Tryd.func29, Tryd.ntmps29
        go_wp2
        go_ret
        exact ⟨by rw [HE.out]; rfl, (by repeat first | assumption | exact ext_refl _ | apply ext_alloc | apply ext_drewN | apply ext_drew)⟩
      · have h4 : 8 < t.hosts.length := by omega
        clear h2
        go_enter Tryd.func29, Tryd.ntmps29
        go_wp2
        go_ret
        exact ⟨by rw [HE.out]; rfl, (by repeat first | assumption | exact ext_refl _ | apply ext_alloc | apply ext_drewN | apply ext_drew)⟩
    · have h11 : 1 ≤ t.switches := by omega
      have h12 : t.switches ≤ 6 := by omega
      have h21 : (t.links.length : Int) ≤ 200 := by omega
      have h22 : (t.hosts.length : Int) ≤ 8 := by omega
      have HE := Lib.hid (show topoErr t = if linkErr t.switches [] t.links ≠ 0 then linkErr t.switches [] t.links else hostErr t.switches [] (usedBy t.links) t.hosts by rw [topoErr, if_neg h1, if_neg h2])
      clear h1 h2
      go_enter Tryd.func29, Tryd.ntmps29
      go_wp2_with fail
      go_loopw [35] (fun i wr => ∃ k : Nat, k ≤ t.links.length ∧ i = .int .i64 k ∧ Ext (boxTopo w t.switches (.slice A t.links.length c) (.slice A2 t.hosts.length c2)) wr ∧ SetAt spotKey wr (w.heap.size + 1) (usedBy (t.links.take k)) ∧ linkErr t.switches [] t.links = linkErr t.switches (usedBy (t.links.take k)) (t.links.drop k)) (fun i _ => t.links.length - (intOf i).toNat)
      case atStart =>
        refine ⟨0, Nat.zero_le _, rfl, (by repeat first | assumption | exact ext_refl _ | apply ext_alloc | apply ext_drewN | apply ext_drew), ?_, rfl⟩
        have := MapAt.new (key := spotKey) (boxTopo w t.switches (.slice A t.links.length c) (.slice A2 t.hosts.length c2))
        simpa [SetAt, usedBy] using this
      case round =>
        obtain ⟨k, hk, rfl, hE0, hset, hgo⟩ := hrel
        have HG := Lib.hid hgo; clear hgo
        have HS := Lib.hid hset; clear hset
        by_cases hlt : k < t.links.length
        · obtain ⟨b, off, rfl, hb, hrow⟩ := hl.at_ hlt
          obtain ⟨cs, hr, hrel⟩ := hrow k _ (List.getElem?_eq_getElem hlt)
          obtain ⟨rfl, _⟩ : cs = Link.cells t.links[k] ∧ _ := hrel
          have HR := Lib.hid (rangeAt_block hr (((ext_alloc (ext_refl w) _).trans hE0).block hb) : wr.rangeAt b (off + k * 4) _)
          have HD := Lib.hid (List.drop_eq_getElem_cons hlt)
          have HT := Lib.hid (List.take_succ_eq_append_getElem hlt)
          clear hr hrow
          generalize t.links[k] = l at HR HD HT
          have hbl := boxLink_cells wr l
          generalize hus : usedBy (t.links.take k) = used at HG HS
          have HU := Lib.hid hus; clear hus
          have hla := fun w' (h : Ext (boxLink wr l) w') => spot_lookup (HS.out.ext ((ext_alloc (ext_refl wr) _).trans h)) l.a
          have hlb := fun w' (h : Ext (boxLink wr l) w') => spot_lookup (HS.out.ext ((ext_alloc (ext_refl wr) _).trans h)) l.b
          go_wp2_with (first
            | (refine wpList_load_mid rfl 90 _ rfl b _ rfl _ _ HR.out Tryd.underlying90 rfl (by kernel_rfl) ?_; unfold Link.cells)
            | (go_at_call_of 39 (l.a.switch); refine (spot_any t.switches _ _ l.a _).mono ?_; rintro e w1 ⟨rfl, hE⟩; have hX1 : Ext (boxLink wr l) w1 := Ext.trans (by repeat first | assumption | exact ext_refl _ | apply ext_alloc | apply ext_drewN | apply ext_drew) hE; have hY1 : Ext (boxTopo w t.switches (.slice (some ⟨b, off, none⟩) t.links.length c) (.slice A2 t.hosts.length c2)) w1 := hE0.trans ((ext_alloc (ext_refl _) _).trans hX1); clear hE)
            | (go_at_call_of 39 (l.b.switch); refine (spot_any t.switches _ _ l.b _).mono ?_; rintro e w2 ⟨rfl, hE⟩; have hX2 : Ext (boxLink wr l) w2 := Ext.trans (by repeat first | assumption | exact ext_refl _ | apply ext_alloc | apply ext_drewN | apply ext_drew) hE; clear hE))
          all_goals (have HQ : Hid (linkErr t.switches [] t.links = linkErr t.switches used (l :: t.links.drop (k + 1))) := by (show _ = _; rw [HG.out, HD.out]))
          · go_ret
            exact ⟨by rw [HE.out, HQ.out, linkErr_1 (.inr (by simpa using ‹(!spotOk t.switches l.b) = true›))]; rfl, hX2.of_box.trans' hE0.of_box⟩
          · go_ret
            exact ⟨by rw [HE.out, HQ.out, linkErr_7 ‹_› (by simpa using ‹(!spotOk t.switches l.b) = false›) (.inl ‹_›)]; rfl, hX2.of_box.trans' hE0.of_box⟩
          · go_ret
            exact ⟨by rw [HE.out, HQ.out, linkErr_7 ‹_› (by simpa using ‹(!spotOk t.switches l.b) = false›) (.inr (.inl ‹_›))]; rfl, hX2.of_box.trans' hE0.of_box⟩
          · go_ret
            exact ⟨by rw [HE.out, HQ.out, linkErr_7 ‹_› (by simpa using ‹(!spotOk t.switches l.b) = false›) (.inr (.inr ((Spot.eq_iff _ _).2 ‹_›)))]; rfl, hX2.of_box.trans' hE0.of_box⟩
          · have hne : ¬ l.a = l.b := Spot.ne_of ‹_›
            have hia : isIn l.a used = false := by simpa using ‹¬ isIn l.a used = true›
            have hib : isIn l.b used = false := by simpa using ‹¬ isIn l.b used = true›
            have HN := Lib.hid (linkErr_next (ls := t.links.drop (k + 1)) ‹spotOk t.switches l.a = true› (by simpa using ‹(!spotOk t.switches l.b) = false›) hia hib hne)
            have HIA := Lib.hid hia
            have HIB := Lib.hid (isIn_snoc l.b l.a used hib (fun e => hne e.symm))
            have HS2 : SetAt spotKey w2 (w.heap.size + 1) used := HS.out.ext hX2.of_box
            have HS2' := Lib.hid HS2
            clear hne hia hib HS2
            have hne : some wr.heap.size ≠ some (w.heap.size + 1) := by have := HS.out.lt; intro e; injection e; omega
            have hnn := Lib.hid hne
            clear hne
            obtain ⟨w3, hrun3, hm3, hgr3, _⟩ := run_update_map (P := Tryd.prog) key_spot Tryd.underlying101 (w := w2.drew) (g := w.heap.size + 1) HS2'.out l.a (.bool true)
            obtain ⟨w4, hrun4, hm4, hgr4, _⟩ := run_update_map (P := Tryd.prog) key_spot Tryd.underlying101 hm3 l.b (.bool true)
            unfold spotKey at hrun3 hrun4
            have HM4 := Lib.hid hm4
            have HG3 := Lib.hid hgr3
            have HG4 := Lib.hid hgr4
            clear hm3 hm4 hgr3 hgr4
            go_region_held3 (fun w' => w'.cell? ⟨wr.heap.size, 0, none⟩ = some (i64 l.a.switch) ∧ w'.cell? ⟨wr.heap.size, 1, none⟩ = some (i64 l.a.port) ∧ w'.cell? ⟨wr.heap.size, 2, none⟩ = some (i64 l.b.switch) ∧ w'.cell? ⟨wr.heap.size, 3, none⟩ = some (i64 l.b.port))
              (first
                | (go_split_ands; refine ⟨?_, ?_, ?_, ?_⟩ <;> exact HG4.out.cell (by assumption) hnn.out)
                | (go_split_ands; refine ⟨?_, ?_, ?_, ?_⟩ <;> exact HG3.out.cell (by assumption) hnn.out)
                | (exact hbl _ (ext_drew hX2)))
              (fail)
            go_wp2
            go_roundw
            case rel =>
              refine ⟨k + 1, by omega, by go_num, ext_grown (ext_grown (ext_drew (hE0.trans hX2.of_box)) HG3.out (by rintro _ ⟨⟩; simp)) HG4.out (by rintro _ ⟨⟩; simp), ?_, ?_⟩
              · have hm := HM4.out
                rw [putIn_set HIA.out, putIn_set HIB.out] at hm
                rw [HT.out, usedBy, List.flatMap_append]
                rw [← HU.out, usedBy] at hm
                simpa [SetAt, List.append_assoc] using hm
              · rw [HQ.out, HN.out, HT.out, usedBy, List.flatMap_append]
                rw [← HU.out, usedBy]
                simp [List.append_assoc]
            case measure => simp [intOf]; omega
          · go_ret
            exact ⟨by rw [HE.out, HQ.out, linkErr_1 (.inl (by simpa using ‹¬ spotOk t.switches l.a = true›))]; rfl, hX1.of_box.trans' hE0.of_box⟩
        · have hke : k = t.links.length := by omega
          have hset := HS.out
          have hgo := HG.out
          rw [hke, List.take_length] at hset hgo
          rw [List.drop_length, linkErr] at hgo
          have HZ := Lib.hid hgo
          have HS1 := Lib.hid hset
          have HK := Lib.hid hke
          clear hgo hset hke HS HG hl
          obtain ⟨wo, rfl⟩ : ∃ wo : World, wo = wr := ⟨_, rfl⟩
          go_wp2_with fail
          go_loopw [81] (fun i wr => ∃ (k : Nat) (us : List Spot) (ns : List ByteArray), k ≤ t.hosts.length ∧ i = .int .i64 k ∧ Ext (boxTopo w t.switches (.slice A t.links.length c) (.slice A2 t.hosts.length c2)) wr ∧ SetAt spotKey wr (w.heap.size + 1) us ∧ SetAt Value.string wr wo.heap.size ns ∧ hostErr t.switches [] (usedBy t.links) t.hosts = hostErr t.switches ns us (t.hosts.drop k)) (fun i _ => t.hosts.length - (intOf i).toNat)
          case atStart => exact ⟨0, _, [], Nat.zero_le _, rfl, (by repeat first | assumption | exact ext_refl _ | apply ext_alloc | apply ext_drewN | apply ext_drew), HS1.out.ext (ext_alloc (ext_refl _) _), MapAt.new (key := Value.string) wo, rfl⟩
          case round =>
            obtain ⟨k2, us, ns, hk2, rfl, hE1, hset, hset2, hgo⟩ := hrel
            have HG := Lib.hid hgo
            have HS := Lib.hid hset
            have HS2 := Lib.hid hset2
            have hwo : w.heap.size + 1 < wo.heap.size := HS1.out.lt
            have HW := Lib.hid hwo
            clear hgo hset hset2 hwo
            by_cases hlt2 : k2 < t.hosts.length
            · obtain ⟨b, off, rfl, hb, hrow⟩ := hh.at_ hlt2
              obtain ⟨cs, hr, hrel⟩ := hrow k2 _ (List.getElem?_eq_getElem hlt2)
              obtain ⟨rfl, hok⟩ : cs = Host.cells t.hosts[k2] ∧ _ := hrel
              have HR := Lib.hid (rangeAt_block hr (hE1.of_box.block hb) : wr.rangeAt b (off + k2 * 3) _)
              have HD := Lib.hid (List.drop_eq_getElem_cons hlt2)
              have HO := Lib.hid hok
              clear hr hrow hok
              generalize t.hosts[k2] = h at HR HD HO
              have hbh := boxHost_cells wr h
              have hla := fun w' (e : Ext (boxHost wr h) w') => spot_lookup (HS.out.ext ((ext_alloc (ext_refl wr) _).trans e)) h.spot
              have hlb := fun w' (e : Ext (boxHost wr h) w') => name_lookup (HS2.out.ext ((ext_alloc (ext_refl wr) _).trans e)) h.name
              go_wp2_with (first
                | (refine wpList_load_mid rfl 93 _ rfl b _ rfl _ _ HR.out Tryd.underlying93 rfl (by kernel_rfl) ?_; unfold Host.cells)
                | (go_at_call 40; refine (name_any h.name _ HO.out).mono ?_; rintro e w1 ⟨rfl, hE⟩; have hX1 : Ext (boxHost wr h) w1 := Ext.trans (by repeat first | assumption | exact ext_refl _ | apply ext_alloc | apply ext_drewN | apply ext_drew) hE; have hY1 : Ext (boxTopo w t.switches (.slice A t.links.length c) (.slice (some ⟨b, off, none⟩) t.hosts.length c2)) w1 := hE1.trans ((ext_alloc (ext_refl _) _).trans hX1); clear hE)
                | (go_at_call 39; refine (spot_any t.switches _ _ h.spot _).mono ?_; rintro e w2 ⟨rfl, hE⟩; have hX2 : Ext (boxHost wr h) w2 := Ext.trans (by repeat first | assumption | exact ext_refl _ | apply ext_alloc | apply ext_drewN | apply ext_drew) hE; clear hE))
              all_goals (have HQ : Hid (topoErr t = hostErr t.switches ns us (h :: t.hosts.drop (k2 + 1))) := by (show _ = _; rw [HE.out, if_neg (by simpa using HZ.out), HG.out, HD.out]))
              · go_ret
                exact ⟨by rw [HQ.out, hostErr_2 (by simpa using ‹(!nameOk h.name) = true›)]; rfl, hY1.of_box⟩
              · go_ret
                exact ⟨by rw [HQ.out, hostErr_1 (by simpa using ‹(!nameOk h.name) = false›) (by simpa using ‹(!spotOk t.switches h.spot) = true›)]; rfl, hX2.of_box.trans' hE1.of_box⟩
              · go_ret
                exact ⟨by rw [HQ.out, hostErr_7 (by simpa using ‹(!nameOk h.name) = false›) (by simpa using ‹(!spotOk t.switches h.spot) = false›) (.inl ‹_›)]; rfl, hX2.of_box.trans' hE1.of_box⟩
              · go_ret
                exact ⟨by rw [HQ.out, hostErr_7 (by simpa using ‹(!nameOk h.name) = false›) (by simpa using ‹(!spotOk t.switches h.spot) = false›) (.inr ‹_›)]; rfl, hX2.of_box.trans' hE1.of_box⟩
              · have hia : isIn h.name ns = false := by simpa using ‹¬ isIn h.name ns = true›
                have hib : isIn h.spot us = false := ‹_›
                have HN := Lib.hid (hostErr_next (hs := t.hosts.drop (k2 + 1)) (by simpa using ‹(!nameOk h.name) = false› : nameOk h.name = true) (by simpa using ‹(!spotOk t.switches h.spot) = false› : spotOk t.switches h.spot = true) hia hib)
                have HIA := Lib.hid hia
                have HIB := Lib.hid hib
                clear hia hib
                have hne1 : some wr.heap.size ≠ some (w.heap.size + 1) := by have := HS.out.lt; intro e; injection e; omega
                have hne2 : some wr.heap.size ≠ some wo.heap.size := by have := HS2.out.lt; intro e; injection e; omega
                have hne3 : w.heap.size + 1 ≠ wo.heap.size := by have := HW.out; omega
                have hn1 := Lib.hid hne1
                have hn2' := Lib.hid hne2
                have hn3 := Lib.hid hne3
                clear hne1 hne2 hne3
                obtain ⟨w3, hrun3, hm3, hgr3, _⟩ := run_update_map (P := Tryd.prog) key_string Tryd.underlying103 (w := w2.drew) (g := wo.heap.size) (show SetAt Value.string w2.drew wo.heap.size ns from HS2.out.ext (ext_drew hX2.of_box)) h.name (.bool true)
                have hs1 : SetAt spotKey w3 (w.heap.size + 1) us := MapAt.block (show SetAt spotKey w2.drew (w.heap.size + 1) us from HS.out.ext (ext_drew hX2.of_box)) (hgr3.block _ (HS.out.ext (ext_drew hX2.of_box)).lt (fun e => hn3.out (by injection e)))
                obtain ⟨w4, hrun4, hm4, hgr4, _⟩ := run_update_map (P := Tryd.prog) key_spot Tryd.underlying101 hs1 h.spot (.bool true)
                unfold spotKey at hrun4
                rw [putIn_set HIA.out] at hm3
                rw [putIn_set HIB.out] at hm4
                have HM3 := Lib.hid (MapAt.block hm3 (hgr4.block _ hm3.lt (fun e => hn3.out (by injection e with e; exact e.symm))))
                have HM4 := Lib.hid hm4
                have HG3 := Lib.hid hgr3
                have HG4 := Lib.hid hgr4
                clear hs1 hm3 hm4 hgr3 hgr4
                go_region_held3 (fun w' => w'.cell? ⟨wr.heap.size, 0, none⟩ = some (.string h.name) ∧ w'.cell? ⟨wr.heap.size, 1, none⟩ = some (i64 h.spot.switch) ∧ w'.cell? ⟨wr.heap.size, 2, none⟩ = some (i64 h.spot.port))
                  (first
                    | (go_split_ands; refine ⟨?_, ?_, ?_⟩ <;> exact HG4.out.cell (by assumption) hn1.out)
                    | (go_split_ands; refine ⟨?_, ?_, ?_⟩ <;> exact HG3.out.cell (by assumption) hn2'.out)
                    | (exact hbh _ (ext_drew hX2)))
                  (fail)
                go_wp2
                go_roundw
                case rel => exact ⟨k2 + 1, _, _, by omega, by go_num, ext_grown (ext_grown (ext_drew (hX2.of_box.trans' hE1)) HG3.out (by rintro _ ⟨⟩; have := HW.out; simp; omega)) HG4.out (by rintro _ ⟨⟩; simp), HM4.out, HM3.out, by rw [HG.out, HD.out, HN.out]⟩
                case measure => simp [intOf]; omega
            · have hke2 : k2 = t.hosts.length := by omega
              have HK2 := Lib.hid hke2
              clear hke2
              go_wp2
              go_ret
              exact ⟨by rw [HE.out, if_neg (by simpa using HZ.out), HG.out, HK2.out, List.drop_length, hostErr, errV_zero]; rfl, hE1.of_box⟩
end Go.Proofs.YthimhcbjboffcaaDoor
