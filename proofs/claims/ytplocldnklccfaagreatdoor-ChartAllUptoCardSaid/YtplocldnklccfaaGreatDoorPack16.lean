/- daybooklaw06: made. Printed by gen_made.py; From a walk to a row, for any seat: what the arguments are, what the bound gives, that all reads as it did; daybooklaw06: how a Play is opened: its accounts, its acts. -/
import Derived.Test.YtplocldnklccfaaGreatDoorPack15
import Derived.ChangeMaps5
import Derived.Below
import Derived.Test.YtplocldnklccfaaGreatDoorRows
import Derived.ProofKit
import Derived.OpenShut
import Derived.Deep.Slices
import Derived.Deep.Fields
import Derived.ChangeSame
import Derived.Carry
namespace Go.Proofs.YtplocldnklccfaaGreatDoor
open Go.RowKit Go.Shelf
set_option linter.unusedVariables false
set_option linter.unusedSimpArgs false

set_option maxRecDepth 100000 in
set_option maxHeartbeats 8000000 in
theorem made_yy {w : World} {v : Value} {l : List Acct} (h : AccAt w v l) (hp : Pow w) (hle : l.length ≤ 1048576) (hs : ∀ a ∈ l, a.name.size ≤ 1048576) (hv : Valid l) (hz : Valid (zL l.length)) : Calls Tryz.prog 75 #[v] w (SideNew w) := by
  obtain ⟨A, c, rfl, _, _⟩ := h.ex
  have hN := h.accN
  have HH := Lib.hid (And.intro h (And.intro hp (And.intro hs (And.intro hv (And.intro hz hN)))))
  clear h hp hs hv hz hN
  obtain ⟨wa, hwa⟩ : ∃ wa, wa = w.alloc (.cells #[.pointer none, .pointer none] 75) := ⟨_, rfl⟩
  have HBA : Hid (Below w.heap.size w wa ∧ wa.heap.size = w.heap.size + 1 ∧ wa.heap[w.heap.size]? = some (.cells #[.pointer none, .pointer none] 75 (0, 0))) := Lib.hid (by rw [hwa]; exact ⟨bel1 w _, by simp, World.alloc_heap_new w _⟩)
  go_enter Tryz.func75, Tryz.ntmps75
  go_wp2_with (go_at_call 146; rw [← hwa]; refine (RoomAccounts_any (HH.out.1.below HBA.out.1) (HH.out.2.1.below HBA.out.1) (by omega)).mono ?_; rintro e w1 ⟨g, cap, rfl, o1, b1⟩; have H1 := Lib.hid (And.intro o1 b1); have hcap : l.length + 64 ≤ cap := (by obtain ⟨cap', cur, e1, _, _, h1, _⟩ := own_block o1 (g := g) rfl; injection e1 with _ _ e2; omega); clear o1 b1)
  have hcz : (l.length : Int) ≤ (cap : Int) := by omega
  have hr1 : RowA w1 g l := rowA_own H1.out.1 (rmA_len l) fun j hj => by rw [List.getElem?_eq_getElem (by rw [rmA_len]; omega), rmA_old l j hj]
  go_wp2_with (go_at_call 147; refine (From_yes g cap l (by omega) HH.out.2.2.1 HH.out.2.2.2.1 w1 hr1).mono ?_; rintro e w2 ⟨c1, F1, rfl, b2, k2, F1l⟩; have H2 := Lib.hid (And.intro b2 (And.intro k2 F1l)); clear b2 k2 F1l)
  have hB2 := HBA.out.1.trans ((H1.out.2.trans (H2.out.1.mono H1.out.2.size)).mono HBA.out.1.size)
  go_wp2_with (go_at_call 148; refine (refFrom_yes (HH.out.1.below hB2) (by omega) HH.out.2.2.1 HH.out.2.2.2.1).mono ?_; rintro e w3 ⟨r1, R1, rfl, b3, k3, R1l⟩; have H3 := Lib.hid (And.intro b3 (And.intro k3 R1l)); clear b3 k3 R1l)
  have hB3 := hB2.trans (H3.out.1.mono hB2.size)
  have hb13 := H2.out.1.trans (H3.out.1.mono H2.out.1.size)
  have o3 := ownsRow_keep (w' := w3) H1.out.1 fun q hq => hb13.block q (H1.out.1.lt q hq).2
  have hAG := accN_own o3 (rmA_len l)
  have hAN := (HH.out.1.below hB3).accN
  have hPW := HH.out.2.1.below hB3
  have HO3 := Lib.hid o3
  have HB3 := Lib.hid (And.intro hB3 hb13)
  clear o3 hB3 hb13 hB2 hr1
  go_wp2_with (go_at_call 149; refine (KeptAccounts_any hAG hAN hPW (by omega)).mono ?_; rintro e w4 ⟨rfl, b4⟩; have H4 := Lib.hid b4; clear b4)
  clear hAG hAN hPW
  have ho4 := ownsRow_keep (w' := w4) HO3.out fun q hq => H4.out.block q (HO3.out.lt q hq).2
  have HI := Lib.hid (show OverInv w4 wa.heap.size g cap (rmA l) (.int .i64 0) w4 0 from ⟨Nat.zero_le _, rfl, by rw [rmA_len]; exact ho4, Ch.refl _ _⟩)
  have hrl := rmA_len l
  have HGW : Hid (wa.heap.size ≤ g ∧ g < w1.heap.size) := Lib.hid (H1.out.1.lt g rfl)
  clear ho4
  go_loopw [10] (fun i wr => ∃ k, OverInv w4 wa.heap.size g cap (rmA l) i wr k) (fun i _ => l.length + 64 - (intOf i).toNat)
  case atStart => exact ⟨0, HI.out⟩
  case round =>
    obtain ⟨k, hinv⟩ := hrel
    obtain ⟨hk, rfl, hown, hch⟩ := hinv
    by_cases hlt : k < l.length + 64
    · have hlt' : (k : Int) < (l.length : Int) + 64 := by omega
      have hmu : l.length + 64 - ((k : Int) + 1).toNat < l.length + 64 - k := by omega
      have hwk : wrap64 ((k : Int) + 1) = (k : Int) + 1 := by unfold wrap64; omega
      have hzl := zUp_len (rmA l) k hk
      obtain ⟨v0, v1, v2, v3, q0, q1, q2, q3⟩ := row_cells4 hown (g := g) rfl (encs4 _) k (by rw [List.length_map, hzl]; omega) (by rw [List.length_map, hzl])
      have f0 := own_froz hown (g := g) rfl (k * 4)
      have f1 := own_froz hown (g := g) rfl (k * 4 + 1)
      have f2 := own_froz hown (g := g) rfl (k * 4 + 2)
      have f3 := own_froz hown (g := g) rfl (k * 4 + 3)
      have HIN := Lib.hid (show OverInv w4 wa.heap.size g cap (rmA l) (.int .i64 (k : Int)) wr k from ⟨hk, rfl, hown, hch⟩)
      clear hown hch hzl
      go_wp2
      go_roundw
      case rel => exact ⟨k + 1, over_step HIN.out (by omega) (by go_num)⟩
      case measure => simpa [intOf] using hmu
    · obtain rfl : k = (rmA l).length := by omega
      have hZ : zUp (rmA l) (rmA l).length = zL (l.length + 64) := by unfold zUp; rw [List.drop_length, List.append_nil, hrl]
      rw [hZ, hrl] at hown
      have hr6 : RowA wr g (zL l.length) := rowA_own hown (zL_len _) (zL_get _ _ (Nat.le_add_right _ _))
      have hZL := zL_len l.length
      have HCH := Lib.hid hch
      clear hown hch hZ
      have hBr : Below w4.heap.size w4 wr → True := fun _ => trivial
      have hblk : ∀ W, Below wr.heap.size wr W → W.heap[w.heap.size]? = some (.cells #[.pointer none, .pointer none] 75 (0, 0)) := fun W hb => by
        have s1 := H1.out.2.size
        have s13 := HB3.out.2.size
        have s4 := H4.out.size
        have s5 := HCH.out.size
        have sa := HBA.out.2.1
        have sg := HGW.out.1
        exact (hb.block _ (by omega)).trans ((HCH.out.block _ (by omega) (by omega)).trans ((H4.out.block _ (by omega)).trans ((HB3.out.2.block _ (by omega)).trans ((H1.out.2.block _ (by omega)).trans HBA.out.2.2))))
      have HBK := Lib.hid hblk
      have hCP : ∀ W, Below wr.heap.size wr W → W.cell? ⟨w.heap.size, 0, none⟩ = some (.pointer none) ∧ W.cell? ⟨w.heap.size, 1, none⟩ = some (.pointer none) ∧ W.frozen? ⟨w.heap.size, 0, none⟩ = false ∧ W.frozen? ⟨w.heap.size, 1, none⟩ = false := fun W hb => ⟨by rw [cell_of_blk (HBK.out W hb)]; rfl, by rw [cell_of_blk (HBK.out W hb)]; rfl, frozen_blk (HBK.out W hb) 0, frozen_blk (HBK.out W hb) 1⟩
      have HCP := Lib.hid hCP
      clear hBr hblk hCP
      have hfz := From_yes g cap (zL l.length) (by rw [zL_len]; omega) (zL_size _) HH.out.2.2.2.2.1 wr hr6
      rw [hZL] at hfz
      go_wp2_with (go_at_call 147; refine hfz.mono ?_; rintro e w6 ⟨c6, F6, rfl, b6, _, _⟩; have H6 := Lib.hid b6; clear b6; have ha6 := accAt_row (cap := cap) (hr6.below H6.out); rw [zL_len] at ha6; have HA6 := Lib.hid ha6; clear ha6 hr6)
      go_wp2_with (go_at_call 148; refine (refFrom_yes HA6.out (by rw [zL_len]; omega) (zL_size _) HH.out.2.2.2.2.1).mono ?_; rintro e w7 ⟨r7, R7, rfl, b7, _, _⟩; have H7 := Lib.hid b7; clear b7; obtain ⟨z0, z1, z2, z3⟩ := HCP.out w7 (H6.out.trans (H7.out.mono H6.out.size)))
      have hb67 := H6.out.trans (H7.out.mono H6.out.size)
      have hB7 : Below w.heap.size w w7 := by
        have sg := HGW.out.1
        have sa := HBA.out.2.1
        have h4 := HB3.out.1.trans (H4.out.mono HB3.out.1.size)
        have h5 := h4.trans (HCH.out.toBelow h4.size fun q hq => by omega)
        exact h5.trans (hb67.mono h5.size)
      have hSD : SideAt w7 c1 r1 F1 R1 l := by
        have s1 := H1.out.2.size
        have s2 := H2.out.1.size
        have s3 := H3.out.1.size
        have s4 := H4.out.size
        have sg := HGW.out.2
        have h3 : SideAt w3 c1 r1 F1 R1 l := ⟨H2.out.2.1.below H3.out.1, H3.out.2.1, HH.out.2.2.2.1, fun q hq hr => by have := H2.out.2.2 q hq; have := H3.out.2.2 q hr; omega, fun q hq => by rcases hq with hq | hq; (have := H2.out.2.2 q hq; omega); (have := H3.out.2.2 q hq; omega)⟩
        refine ((h3.below H4.out).ch HCH.out fun q hq => ?_).below hb67
        rcases hq with hq | hq
        · have := H2.out.2.2 q hq; omega
        · have := H3.out.2.2 q hq; omega
      have hge : ∀ q, F1 q ∨ R1 q → wa.heap.size ≤ q := fun q hq => by
        have s1 := H1.out.2.size
        have s2 := H2.out.1.size
        rcases hq with hq | hq
        · have := H2.out.2.2 q hq; omega
        · have := H3.out.2.2 q hq; omega
      have hk7 := HBK.out w7 hb67
      have hk8 := heap_setCell_same (i := 0) hk7 (.pointer (some ⟨c1, 0, none⟩))
      have hk9 := heap_setCell_same (i := 1) hk8 (.pointer (some ⟨r1, 0, none⟩))
      have y0 := (cell_of_blk hk9 (i := 0)).trans rfl
      have y1 := (cell_of_blk hk9 (i := 1)).trans rfl
      have sa := HBA.out.2.1
      refine bodyPost_ret (v := .tuple #[.agg #[.pointer (some ⟨c1, 0, none⟩), .pointer (some ⟨r1, 0, none⟩)], .bool true]) (by simp [results, Tryz.results75, go_sem, y0, y1]) rfl ⟨c1, r1, F1, R1, l, rfl, (hSD.ch (((Ch.refl (fun q => q = w.heap.size) w7).setCell (p := ⟨w.heap.size, 0, none⟩) (.inl rfl) _).setCell (p := ⟨w.heap.size, 1, none⟩) (.inl rfl) _) fun q hq e => by have := hge q hq; omega), fun q hq => by have := hge q hq; omega, (hB7.setCell (p := ⟨w.heap.size, 0, none⟩) (Nat.le_refl _) _).setCell (p := ⟨w.heap.size, 1, none⟩) (Nat.le_refl _) _⟩

set_option maxRecDepth 100000 in
set_option maxHeartbeats 8000000 in
theorem made_yn {w : World} {v : Value} {l : List Acct} (h : AccAt w v l) (hp : Pow w) (hle : l.length ≤ 1048576) (hs : ∀ a ∈ l, a.name.size ≤ 1048576) (hv : Valid l) (hz : ¬ Valid (zL l.length)) : Calls Tryz.prog 75 #[v] w (SideNew w) := by
  obtain ⟨A, c, rfl, _, _⟩ := h.ex
  have hN := h.accN
  have HH := Lib.hid (And.intro h (And.intro hp (And.intro hs (And.intro hv (And.intro hz hN)))))
  clear h hp hs hv hz hN
  obtain ⟨wa, hwa⟩ : ∃ wa, wa = w.alloc (.cells #[.pointer none, .pointer none] 75) := ⟨_, rfl⟩
  have HBA : Hid (Below w.heap.size w wa ∧ wa.heap.size = w.heap.size + 1 ∧ wa.heap[w.heap.size]? = some (.cells #[.pointer none, .pointer none] 75 (0, 0))) := Lib.hid (by rw [hwa]; exact ⟨bel1 w _, by simp, World.alloc_heap_new w _⟩)
  go_enter Tryz.func75, Tryz.ntmps75
  go_wp2_with (go_at_call 146; rw [← hwa]; refine (RoomAccounts_any (HH.out.1.below HBA.out.1) (HH.out.2.1.below HBA.out.1) (by omega)).mono ?_; rintro e w1 ⟨g, cap, rfl, o1, b1⟩; have H1 := Lib.hid (And.intro o1 b1); have hcap : l.length + 64 ≤ cap := (by obtain ⟨cap', cur, e1, _, _, h1, _⟩ := own_block o1 (g := g) rfl; injection e1 with _ _ e2; omega); clear o1 b1)
  have hcz : (l.length : Int) ≤ (cap : Int) := by omega
  have hr1 : RowA w1 g l := rowA_own H1.out.1 (rmA_len l) fun j hj => by rw [List.getElem?_eq_getElem (by rw [rmA_len]; omega), rmA_old l j hj]
  go_wp2_with (go_at_call 147; refine (From_yes g cap l (by omega) HH.out.2.2.1 HH.out.2.2.2.1 w1 hr1).mono ?_; rintro e w2 ⟨c1, F1, rfl, b2, k2, F1l⟩; have H2 := Lib.hid (And.intro b2 (And.intro k2 F1l)); clear b2 k2 F1l)
  have hB2 := HBA.out.1.trans ((H1.out.2.trans (H2.out.1.mono H1.out.2.size)).mono HBA.out.1.size)
  go_wp2_with (go_at_call 148; refine (refFrom_yes (HH.out.1.below hB2) (by omega) HH.out.2.2.1 HH.out.2.2.2.1).mono ?_; rintro e w3 ⟨r1, R1, rfl, b3, k3, R1l⟩; have H3 := Lib.hid (And.intro b3 (And.intro k3 R1l)); clear b3 k3 R1l)
  have hB3 := hB2.trans (H3.out.1.mono hB2.size)
  have hb13 := H2.out.1.trans (H3.out.1.mono H2.out.1.size)
  have o3 := ownsRow_keep (w' := w3) H1.out.1 fun q hq => hb13.block q (H1.out.1.lt q hq).2
  have hAG := accN_own o3 (rmA_len l)
  have hAN := (HH.out.1.below hB3).accN
  have hPW := HH.out.2.1.below hB3
  have HO3 := Lib.hid o3
  have HB3 := Lib.hid (And.intro hB3 hb13)
  clear o3 hB3 hb13 hB2 hr1
  go_wp2_with (go_at_call 149; refine (KeptAccounts_any hAG hAN hPW (by omega)).mono ?_; rintro e w4 ⟨rfl, b4⟩; have H4 := Lib.hid b4; clear b4)
  clear hAG hAN hPW
  have ho4 := ownsRow_keep (w' := w4) HO3.out fun q hq => H4.out.block q (HO3.out.lt q hq).2
  have HI := Lib.hid (show OverInv w4 wa.heap.size g cap (rmA l) (.int .i64 0) w4 0 from ⟨Nat.zero_le _, rfl, by rw [rmA_len]; exact ho4, Ch.refl _ _⟩)
  have hrl := rmA_len l
  have HGW : Hid (wa.heap.size ≤ g ∧ g < w1.heap.size) := Lib.hid (H1.out.1.lt g rfl)
  clear ho4
  go_loopw [10] (fun i wr => ∃ k, OverInv w4 wa.heap.size g cap (rmA l) i wr k) (fun i _ => l.length + 64 - (intOf i).toNat)
  case atStart => exact ⟨0, HI.out⟩
  case round =>
    obtain ⟨k, hinv⟩ := hrel
    obtain ⟨hk, rfl, hown, hch⟩ := hinv
    by_cases hlt : k < l.length + 64
    · have hlt' : (k : Int) < (l.length : Int) + 64 := by omega
      have hmu : l.length + 64 - ((k : Int) + 1).toNat < l.length + 64 - k := by omega
      have hwk : wrap64 ((k : Int) + 1) = (k : Int) + 1 := by unfold wrap64; omega
      have hzl := zUp_len (rmA l) k hk
      obtain ⟨v0, v1, v2, v3, q0, q1, q2, q3⟩ := row_cells4 hown (g := g) rfl (encs4 _) k (by rw [List.length_map, hzl]; omega) (by rw [List.length_map, hzl])
      have f0 := own_froz hown (g := g) rfl (k * 4)
      have f1 := own_froz hown (g := g) rfl (k * 4 + 1)
      have f2 := own_froz hown (g := g) rfl (k * 4 + 2)
      have f3 := own_froz hown (g := g) rfl (k * 4 + 3)
      have HIN := Lib.hid (show OverInv w4 wa.heap.size g cap (rmA l) (.int .i64 (k : Int)) wr k from ⟨hk, rfl, hown, hch⟩)
      clear hown hch hzl
      go_wp2
      go_roundw
      case rel => exact ⟨k + 1, over_step HIN.out (by omega) (by go_num)⟩
      case measure => simpa [intOf] using hmu
    · obtain rfl : k = (rmA l).length := by omega
      have hZ : zUp (rmA l) (rmA l).length = zL (l.length + 64) := by unfold zUp; rw [List.drop_length, List.append_nil, hrl]
      rw [hZ, hrl] at hown
      have hr6 : RowA wr g (zL l.length) := rowA_own hown (zL_len _) (zL_get _ _ (Nat.le_add_right _ _))
      have hZL := zL_len l.length
      have HCH := Lib.hid hch
      clear hown hch hZ
      have hBr : Below w4.heap.size w4 wr → True := fun _ => trivial
      have hblk : ∀ W, Below wr.heap.size wr W → W.heap[w.heap.size]? = some (.cells #[.pointer none, .pointer none] 75 (0, 0)) := fun W hb => by
        have s1 := H1.out.2.size
        have s13 := HB3.out.2.size
        have s4 := H4.out.size
        have s5 := HCH.out.size
        have sa := HBA.out.2.1
        have sg := HGW.out.1
        exact (hb.block _ (by omega)).trans ((HCH.out.block _ (by omega) (by omega)).trans ((H4.out.block _ (by omega)).trans ((HB3.out.2.block _ (by omega)).trans ((H1.out.2.block _ (by omega)).trans HBA.out.2.2))))
      have HBK := Lib.hid hblk
      have hCP : ∀ W, Below wr.heap.size wr W → W.cell? ⟨w.heap.size, 0, none⟩ = some (.pointer none) ∧ W.cell? ⟨w.heap.size, 1, none⟩ = some (.pointer none) ∧ W.frozen? ⟨w.heap.size, 0, none⟩ = false ∧ W.frozen? ⟨w.heap.size, 1, none⟩ = false := fun W hb => ⟨by rw [cell_of_blk (HBK.out W hb)]; rfl, by rw [cell_of_blk (HBK.out W hb)]; rfl, frozen_blk (HBK.out W hb) 0, frozen_blk (HBK.out W hb) 1⟩
      have HCP := Lib.hid hCP
      clear hBr hblk hCP
      have hfz := From_no g cap (zL l.length) (by rw [zL_len]; omega) (zL_size _) HH.out.2.2.2.2.1 wr hr6
      rw [hZL] at hfz
      go_wp2_with (go_at_call 147; refine hfz.mono ?_; rintro e w6 ⟨rfl, b6⟩; have H6 := Lib.hid b6; clear b6; have ha6 := accAt_row (cap := cap) (hr6.below H6.out); rw [zL_len] at ha6; have HA6 := Lib.hid ha6; clear ha6 hr6)
      go_wp2_with (go_at_call 148; refine (refFrom_no HA6.out (by rw [zL_len]; omega) (zL_size _) HH.out.2.2.2.2.1).mono ?_; rintro e w7 ⟨rfl, b7⟩; have H7 := Lib.hid b7; clear b7; obtain ⟨z0, z1, z2, z3⟩ := HCP.out w7 (H6.out.trans (H7.out.mono H6.out.size)))
      have hb67 := H6.out.trans (H7.out.mono H6.out.size)
      have hB7 : Below w.heap.size w w7 := by
        have sg := HGW.out.1
        have sa := HBA.out.2.1
        have h4 := HB3.out.1.trans (H4.out.mono HB3.out.1.size)
        have h5 := h4.trans (HCH.out.toBelow h4.size fun q hq => by omega)
        exact h5.trans (hb67.mono h5.size)
      have hSD : SideAt w7 c1 r1 F1 R1 l := by
        have s1 := H1.out.2.size
        have s2 := H2.out.1.size
        have s3 := H3.out.1.size
        have s4 := H4.out.size
        have sg := HGW.out.2
        have h3 : SideAt w3 c1 r1 F1 R1 l := ⟨H2.out.2.1.below H3.out.1, H3.out.2.1, HH.out.2.2.2.1, fun q hq hr => by have := H2.out.2.2 q hq; have := H3.out.2.2 q hr; omega, fun q hq => by rcases hq with hq | hq; (have := H2.out.2.2 q hq; omega); (have := H3.out.2.2 q hq; omega)⟩
        refine ((h3.below H4.out).ch HCH.out fun q hq => ?_).below hb67
        rcases hq with hq | hq
        · have := H2.out.2.2 q hq; omega
        · have := H3.out.2.2 q hq; omega
      have hge : ∀ q, F1 q ∨ R1 q → wa.heap.size ≤ q := fun q hq => by
        have s1 := H1.out.2.size
        have s2 := H2.out.1.size
        rcases hq with hq | hq
        · have := H2.out.2.2 q hq; omega
        · have := H3.out.2.2 q hq; omega
      have hk7 := HBK.out w7 hb67
      have hk8 := heap_setCell_same (i := 0) hk7 (.pointer (some ⟨c1, 0, none⟩))
      have hk9 := heap_setCell_same (i := 1) hk8 (.pointer (some ⟨r1, 0, none⟩))
      have y0 := (cell_of_blk hk9 (i := 0)).trans rfl
      have y1 := (cell_of_blk hk9 (i := 1)).trans rfl
      have sa := HBA.out.2.1
      refine bodyPost_ret (v := .tuple #[.agg #[.pointer (some ⟨c1, 0, none⟩), .pointer (some ⟨r1, 0, none⟩)], .bool true]) (by simp [results, Tryz.results75, go_sem, y0, y1]) rfl ⟨c1, r1, F1, R1, l, rfl, (hSD.ch (((Ch.refl (fun q => q = w.heap.size) w7).setCell (p := ⟨w.heap.size, 0, none⟩) (.inl rfl) _).setCell (p := ⟨w.heap.size, 1, none⟩) (.inl rfl) _) fun q hq e => by have := hge q hq; omega), fun q hq => by have := hge q hq; omega, (hB7.setCell (p := ⟨w.heap.size, 0, none⟩) (Nat.le_refl _) _).setCell (p := ⟨w.heap.size, 1, none⟩) (Nat.le_refl _) _⟩

set_option maxRecDepth 100000 in
set_option maxHeartbeats 8000000 in
theorem made_ny {w : World} {v : Value} {l : List Acct} (h : AccAt w v l) (hp : Pow w) (hle : l.length ≤ 1048576) (hs : ∀ a ∈ l, a.name.size ≤ 1048576) (hv : ¬ Valid l) (hz : Valid (zL l.length)) : Calls Tryz.prog 75 #[v] w (SideNew w) := by
  obtain ⟨A, c, rfl, _, _⟩ := h.ex
  have hN := h.accN
  have HH := Lib.hid (And.intro h (And.intro hp (And.intro hs (And.intro hv (And.intro hz hN)))))
  clear h hp hs hv hz hN
  obtain ⟨wa, hwa⟩ : ∃ wa, wa = w.alloc (.cells #[.pointer none, .pointer none] 75) := ⟨_, rfl⟩
  have HBA : Hid (Below w.heap.size w wa ∧ wa.heap.size = w.heap.size + 1 ∧ wa.heap[w.heap.size]? = some (.cells #[.pointer none, .pointer none] 75 (0, 0))) := Lib.hid (by rw [hwa]; exact ⟨bel1 w _, by simp, World.alloc_heap_new w _⟩)
  go_enter Tryz.func75, Tryz.ntmps75
  go_wp2_with (go_at_call 146; rw [← hwa]; refine (RoomAccounts_any (HH.out.1.below HBA.out.1) (HH.out.2.1.below HBA.out.1) (by omega)).mono ?_; rintro e w1 ⟨g, cap, rfl, o1, b1⟩; have H1 := Lib.hid (And.intro o1 b1); have hcap : l.length + 64 ≤ cap := (by obtain ⟨cap', cur, e1, _, _, h1, _⟩ := own_block o1 (g := g) rfl; injection e1 with _ _ e2; omega); clear o1 b1)
  have hcz : (l.length : Int) ≤ (cap : Int) := by omega
  have hr1 : RowA w1 g l := rowA_own H1.out.1 (rmA_len l) fun j hj => by rw [List.getElem?_eq_getElem (by rw [rmA_len]; omega), rmA_old l j hj]
  go_wp2_with (go_at_call 147; refine (From_no g cap l (by omega) HH.out.2.2.1 HH.out.2.2.2.1 w1 hr1).mono ?_; rintro e w2 ⟨rfl, b2⟩; have H2 := Lib.hid (And.intro b2 trivial); clear b2)
  have hB2 := HBA.out.1.trans ((H1.out.2.trans (H2.out.1.mono H1.out.2.size)).mono HBA.out.1.size)
  go_wp2_with (go_at_call 148; refine (refFrom_no (HH.out.1.below hB2) (by omega) HH.out.2.2.1 HH.out.2.2.2.1).mono ?_; rintro e w3 ⟨rfl, b3⟩; have H3 := Lib.hid (And.intro b3 trivial); clear b3)
  have hB3 := hB2.trans (H3.out.1.mono hB2.size)
  have hb13 := H2.out.1.trans (H3.out.1.mono H2.out.1.size)
  have o3 := ownsRow_keep (w' := w3) H1.out.1 fun q hq => hb13.block q (H1.out.1.lt q hq).2
  have hAG := accN_own o3 (rmA_len l)
  have hAN := (HH.out.1.below hB3).accN
  have hPW := HH.out.2.1.below hB3
  have HO3 := Lib.hid o3
  have HB3 := Lib.hid (And.intro hB3 hb13)
  clear o3 hB3 hb13 hB2 hr1
  go_wp2_with (go_at_call 149; refine (KeptAccounts_any hAG hAN hPW (by omega)).mono ?_; rintro e w4 ⟨rfl, b4⟩; have H4 := Lib.hid b4; clear b4)
  clear hAG hAN hPW
  have ho4 := ownsRow_keep (w' := w4) HO3.out fun q hq => H4.out.block q (HO3.out.lt q hq).2
  have HI := Lib.hid (show OverInv w4 wa.heap.size g cap (rmA l) (.int .i64 0) w4 0 from ⟨Nat.zero_le _, rfl, by rw [rmA_len]; exact ho4, Ch.refl _ _⟩)
  have hrl := rmA_len l
  have HGW : Hid (wa.heap.size ≤ g ∧ g < w1.heap.size) := Lib.hid (H1.out.1.lt g rfl)
  clear ho4
  go_loopw [10] (fun i wr => ∃ k, OverInv w4 wa.heap.size g cap (rmA l) i wr k) (fun i _ => l.length + 64 - (intOf i).toNat)
  case atStart => exact ⟨0, HI.out⟩
  case round =>
    obtain ⟨k, hinv⟩ := hrel
    obtain ⟨hk, rfl, hown, hch⟩ := hinv
    by_cases hlt : k < l.length + 64
    · have hlt' : (k : Int) < (l.length : Int) + 64 := by omega
      have hmu : l.length + 64 - ((k : Int) + 1).toNat < l.length + 64 - k := by omega
      have hwk : wrap64 ((k : Int) + 1) = (k : Int) + 1 := by unfold wrap64; omega
      have hzl := zUp_len (rmA l) k hk
      obtain ⟨v0, v1, v2, v3, q0, q1, q2, q3⟩ := row_cells4 hown (g := g) rfl (encs4 _) k (by rw [List.length_map, hzl]; omega) (by rw [List.length_map, hzl])
      have f0 := own_froz hown (g := g) rfl (k * 4)
      have f1 := own_froz hown (g := g) rfl (k * 4 + 1)
      have f2 := own_froz hown (g := g) rfl (k * 4 + 2)
      have f3 := own_froz hown (g := g) rfl (k * 4 + 3)
      have HIN := Lib.hid (show OverInv w4 wa.heap.size g cap (rmA l) (.int .i64 (k : Int)) wr k from ⟨hk, rfl, hown, hch⟩)
      clear hown hch hzl
      go_wp2
      go_roundw
      case rel => exact ⟨k + 1, over_step HIN.out (by omega) (by go_num)⟩
      case measure => simpa [intOf] using hmu
    · obtain rfl : k = (rmA l).length := by omega
      have hZ : zUp (rmA l) (rmA l).length = zL (l.length + 64) := by unfold zUp; rw [List.drop_length, List.append_nil, hrl]
      rw [hZ, hrl] at hown
      have hr6 : RowA wr g (zL l.length) := rowA_own hown (zL_len _) (zL_get _ _ (Nat.le_add_right _ _))
      have hZL := zL_len l.length
      have HCH := Lib.hid hch
      clear hown hch hZ
      have hBr : Below w4.heap.size w4 wr → True := fun _ => trivial
      have hblk : ∀ W, Below wr.heap.size wr W → W.heap[w.heap.size]? = some (.cells #[.pointer none, .pointer none] 75 (0, 0)) := fun W hb => by
        have s1 := H1.out.2.size
        have s13 := HB3.out.2.size
        have s4 := H4.out.size
        have s5 := HCH.out.size
        have sa := HBA.out.2.1
        have sg := HGW.out.1
        exact (hb.block _ (by omega)).trans ((HCH.out.block _ (by omega) (by omega)).trans ((H4.out.block _ (by omega)).trans ((HB3.out.2.block _ (by omega)).trans ((H1.out.2.block _ (by omega)).trans HBA.out.2.2))))
      have HBK := Lib.hid hblk
      have hCP : ∀ W, Below wr.heap.size wr W → W.cell? ⟨w.heap.size, 0, none⟩ = some (.pointer none) ∧ W.cell? ⟨w.heap.size, 1, none⟩ = some (.pointer none) ∧ W.frozen? ⟨w.heap.size, 0, none⟩ = false ∧ W.frozen? ⟨w.heap.size, 1, none⟩ = false := fun W hb => ⟨by rw [cell_of_blk (HBK.out W hb)]; rfl, by rw [cell_of_blk (HBK.out W hb)]; rfl, frozen_blk (HBK.out W hb) 0, frozen_blk (HBK.out W hb) 1⟩
      have HCP := Lib.hid hCP
      clear hBr hblk hCP
      have hfz := From_yes g cap (zL l.length) (by rw [zL_len]; omega) (zL_size _) HH.out.2.2.2.2.1 wr hr6
      rw [hZL] at hfz
      go_wp2_with (go_at_call 147; refine hfz.mono ?_; rintro e w6 ⟨c6, F6, rfl, b6, _, _⟩; have H6 := Lib.hid b6; clear b6; have ha6 := accAt_row (cap := cap) (hr6.below H6.out); rw [zL_len] at ha6; have HA6 := Lib.hid ha6; clear ha6 hr6)
      go_wp2_with (go_at_call 148; refine (refFrom_yes HA6.out (by rw [zL_len]; omega) (zL_size _) HH.out.2.2.2.2.1).mono ?_; rintro e w7 ⟨r7, R7, rfl, b7, _, _⟩; have H7 := Lib.hid b7; clear b7)
      go_wp2_with (go_at_call 73; have hn := New_any w7; unfold ptrV at hn; refine hn.mono ?_; clear hn; rintro e w8 ⟨rfl, k8, s8, b8⟩; have H8 := Lib.hid (And.intro k8 (And.intro s8 b8)); clear k8 s8 b8)
      go_wp2_with (go_at_call 74; refine (refNew_any w8).mono ?_; rintro e w9 ⟨rfl, k9, s9, b9⟩; have H9 := Lib.hid (And.intro k9 (And.intro s9 b9)); obtain ⟨z0, z1, z2, z3⟩ := HCP.out w9 ((H6.out.trans (H7.out.mono H6.out.size)).trans ((H8.out.2.2.trans (b9.mono H8.out.2.2.size)).mono (H6.out.trans (H7.out.mono H6.out.size)).size)); clear k9 s9 b9)
      have hb67 := H6.out.trans (H7.out.mono H6.out.size)
      have hb89 := H8.out.2.2.trans (H9.out.2.2.mono H8.out.2.2.size)
      have hb69 := hb67.trans (hb89.mono hb67.size)
      have hB7 : Below w.heap.size w w7 := by
        have sg := HGW.out.1
        have sa := HBA.out.2.1
        have h4 := HB3.out.1.trans (H4.out.mono HB3.out.1.size)
        have h5 := h4.trans (HCH.out.toBelow h4.size fun q hq => by omega)
        exact h5.trans (hb67.mono h5.size)
      have hB9 : Below w.heap.size w w9 := hB7.trans (hb89.mono hB7.size)
      have sa := HBA.out.2.1
      have sw : wa.heap.size ≤ w7.heap.size := by
        have s1 := H1.out.2.size
        have s13 := HB3.out.2.size
        have s4 := H4.out.size
        have s5 := HCH.out.size
        have s6 := hb67.size
        omega
      obtain ⟨c1, hc1⟩ : ∃ c1, c1 = w7.heap.size + 1 := ⟨_, rfl⟩
      obtain ⟨r1, hr1⟩ : ∃ r1, r1 = w8.heap.size := ⟨_, rfl⟩
      have hSD : SideAt w9 c1 r1 (fun k => w7.heap.size ≤ k ∧ k < w7.heap.size + 2) (fun q => q = w8.heap.size) [] := by
        have s8 := H8.out.2.1
        have s9 := H9.out.2.1
        rw [hc1, hr1]
        exact ⟨H8.out.1.below H9.out.2.2, H9.out.1, valid_nil, fun q hq hr => by omega, fun q hq => by rcases hq with hq | hq <;> omega⟩
      have hge : ∀ q, (w7.heap.size ≤ q ∧ q < w7.heap.size + 2) ∨ q = w8.heap.size → wa.heap.size ≤ q := fun q hq => by
        have s8 := H8.out.2.1
        rcases hq with hq | hq <;> omega
      have hk7 := HBK.out w9 hb69
      have hk8 := heap_setCell_same (i := 0) hk7 (.pointer (some ⟨c1, 0, none⟩))
      have hk9 := heap_setCell_same (i := 1) hk8 (.pointer (some ⟨r1, 0, none⟩))
      have y0 := (cell_of_blk hk9 (i := 0)).trans rfl
      have y1 := (cell_of_blk hk9 (i := 1)).trans rfl
      rw [← hc1, ← hr1]
      refine bodyPost_ret (v := .tuple #[.agg #[.pointer (some ⟨c1, 0, none⟩), .pointer (some ⟨r1, 0, none⟩)], .bool true]) (by simp [results, Tryz.results75, go_sem, y0, y1]) rfl ⟨c1, r1, _, _, [], rfl, (hSD.ch (((Ch.refl (fun q => q = w.heap.size) w9).setCell (p := ⟨w.heap.size, 0, none⟩) (.inl rfl) _).setCell (p := ⟨w.heap.size, 1, none⟩) (.inl rfl) _) fun q hq e => by have := hge q hq; omega), fun q hq => by have := hge q hq; omega, (hB9.setCell (p := ⟨w.heap.size, 0, none⟩) (Nat.le_refl _) _).setCell (p := ⟨w.heap.size, 1, none⟩) (Nat.le_refl _) _⟩

set_option maxRecDepth 100000 in
set_option maxHeartbeats 8000000 in
theorem made_nn {w : World} {v : Value} {l : List Acct} (h : AccAt w v l) (hp : Pow w) (hle : l.length ≤ 1048576) (hs : ∀ a ∈ l, a.name.size ≤ 1048576) (hv : ¬ Valid l) (hz : ¬ Valid (zL l.length)) : Calls Tryz.prog 75 #[v] w (SideNew w) := by
  obtain ⟨A, c, rfl, _, _⟩ := h.ex
  have hN := h.accN
  have HH := Lib.hid (And.intro h (And.intro hp (And.intro hs (And.intro hv (And.intro hz hN)))))
  clear h hp hs hv hz hN
  obtain ⟨wa, hwa⟩ : ∃ wa, wa = w.alloc (.cells #[.pointer none, .pointer none] 75) := ⟨_, rfl⟩
  have HBA : Hid (Below w.heap.size w wa ∧ wa.heap.size = w.heap.size + 1 ∧ wa.heap[w.heap.size]? = some (.cells #[.pointer none, .pointer none] 75 (0, 0))) := Lib.hid (by rw [hwa]; exact ⟨bel1 w _, by simp, World.alloc_heap_new w _⟩)
  go_enter Tryz.func75, Tryz.ntmps75
  go_wp2_with (go_at_call 146; rw [← hwa]; refine (RoomAccounts_any (HH.out.1.below HBA.out.1) (HH.out.2.1.below HBA.out.1) (by omega)).mono ?_; rintro e w1 ⟨g, cap, rfl, o1, b1⟩; have H1 := Lib.hid (And.intro o1 b1); have hcap : l.length + 64 ≤ cap := (by obtain ⟨cap', cur, e1, _, _, h1, _⟩ := own_block o1 (g := g) rfl; injection e1 with _ _ e2; omega); clear o1 b1)
  have hcz : (l.length : Int) ≤ (cap : Int) := by omega
  have hr1 : RowA w1 g l := rowA_own H1.out.1 (rmA_len l) fun j hj => by rw [List.getElem?_eq_getElem (by rw [rmA_len]; omega), rmA_old l j hj]
  go_wp2_with (go_at_call 147; refine (From_no g cap l (by omega) HH.out.2.2.1 HH.out.2.2.2.1 w1 hr1).mono ?_; rintro e w2 ⟨rfl, b2⟩; have H2 := Lib.hid (And.intro b2 trivial); clear b2)
  have hB2 := HBA.out.1.trans ((H1.out.2.trans (H2.out.1.mono H1.out.2.size)).mono HBA.out.1.size)
  go_wp2_with (go_at_call 148; refine (refFrom_no (HH.out.1.below hB2) (by omega) HH.out.2.2.1 HH.out.2.2.2.1).mono ?_; rintro e w3 ⟨rfl, b3⟩; have H3 := Lib.hid (And.intro b3 trivial); clear b3)
  have hB3 := hB2.trans (H3.out.1.mono hB2.size)
  have hb13 := H2.out.1.trans (H3.out.1.mono H2.out.1.size)
  have o3 := ownsRow_keep (w' := w3) H1.out.1 fun q hq => hb13.block q (H1.out.1.lt q hq).2
  have hAG := accN_own o3 (rmA_len l)
  have hAN := (HH.out.1.below hB3).accN
  have hPW := HH.out.2.1.below hB3
  have HO3 := Lib.hid o3
  have HB3 := Lib.hid (And.intro hB3 hb13)
  clear o3 hB3 hb13 hB2 hr1
  go_wp2_with (go_at_call 149; refine (KeptAccounts_any hAG hAN hPW (by omega)).mono ?_; rintro e w4 ⟨rfl, b4⟩; have H4 := Lib.hid b4; clear b4)
  clear hAG hAN hPW
  have ho4 := ownsRow_keep (w' := w4) HO3.out fun q hq => H4.out.block q (HO3.out.lt q hq).2
  have HI := Lib.hid (show OverInv w4 wa.heap.size g cap (rmA l) (.int .i64 0) w4 0 from ⟨Nat.zero_le _, rfl, by rw [rmA_len]; exact ho4, Ch.refl _ _⟩)
  have hrl := rmA_len l
  have HGW : Hid (wa.heap.size ≤ g ∧ g < w1.heap.size) := Lib.hid (H1.out.1.lt g rfl)
  clear ho4
  go_loopw [10] (fun i wr => ∃ k, OverInv w4 wa.heap.size g cap (rmA l) i wr k) (fun i _ => l.length + 64 - (intOf i).toNat)
  case atStart => exact ⟨0, HI.out⟩
  case round =>
    obtain ⟨k, hinv⟩ := hrel
    obtain ⟨hk, rfl, hown, hch⟩ := hinv
    by_cases hlt : k < l.length + 64
    · have hlt' : (k : Int) < (l.length : Int) + 64 := by omega
      have hmu : l.length + 64 - ((k : Int) + 1).toNat < l.length + 64 - k := by omega
      have hwk : wrap64 ((k : Int) + 1) = (k : Int) + 1 := by unfold wrap64; omega
      have hzl := zUp_len (rmA l) k hk
      obtain ⟨v0, v1, v2, v3, q0, q1, q2, q3⟩ := row_cells4 hown (g := g) rfl (encs4 _) k (by rw [List.length_map, hzl]; omega) (by rw [List.length_map, hzl])
      have f0 := own_froz hown (g := g) rfl (k * 4)
      have f1 := own_froz hown (g := g) rfl (k * 4 + 1)
      have f2 := own_froz hown (g := g) rfl (k * 4 + 2)
      have f3 := own_froz hown (g := g) rfl (k * 4 + 3)
      have HIN := Lib.hid (show OverInv w4 wa.heap.size g cap (rmA l) (.int .i64 (k : Int)) wr k from ⟨hk, rfl, hown, hch⟩)
      clear hown hch hzl
      go_wp2
      go_roundw
      case rel => exact ⟨k + 1, over_step HIN.out (by omega) (by go_num)⟩
      case measure => simpa [intOf] using hmu
    · obtain rfl : k = (rmA l).length := by omega
      have hZ : zUp (rmA l) (rmA l).length = zL (l.length + 64) := by unfold zUp; rw [List.drop_length, List.append_nil, hrl]
      rw [hZ, hrl] at hown
      have hr6 : RowA wr g (zL l.length) := rowA_own hown (zL_len _) (zL_get _ _ (Nat.le_add_right _ _))
      have hZL := zL_len l.length
      have HCH := Lib.hid hch
      clear hown hch hZ
      have hBr : Below w4.heap.size w4 wr → True := fun _ => trivial
      have hblk : ∀ W, Below wr.heap.size wr W → W.heap[w.heap.size]? = some (.cells #[.pointer none, .pointer none] 75 (0, 0)) := fun W hb => by
        have s1 := H1.out.2.size
        have s13 := HB3.out.2.size
        have s4 := H4.out.size
        have s5 := HCH.out.size
        have sa := HBA.out.2.1
        have sg := HGW.out.1
        exact (hb.block _ (by omega)).trans ((HCH.out.block _ (by omega) (by omega)).trans ((H4.out.block _ (by omega)).trans ((HB3.out.2.block _ (by omega)).trans ((H1.out.2.block _ (by omega)).trans HBA.out.2.2))))
      have HBK := Lib.hid hblk
      have hCP : ∀ W, Below wr.heap.size wr W → W.cell? ⟨w.heap.size, 0, none⟩ = some (.pointer none) ∧ W.cell? ⟨w.heap.size, 1, none⟩ = some (.pointer none) ∧ W.frozen? ⟨w.heap.size, 0, none⟩ = false ∧ W.frozen? ⟨w.heap.size, 1, none⟩ = false := fun W hb => ⟨by rw [cell_of_blk (HBK.out W hb)]; rfl, by rw [cell_of_blk (HBK.out W hb)]; rfl, frozen_blk (HBK.out W hb) 0, frozen_blk (HBK.out W hb) 1⟩
      have HCP := Lib.hid hCP
      clear hBr hblk hCP
      have hfz := From_no g cap (zL l.length) (by rw [zL_len]; omega) (zL_size _) HH.out.2.2.2.2.1 wr hr6
      rw [hZL] at hfz
      go_wp2_with (go_at_call 147; refine hfz.mono ?_; rintro e w6 ⟨rfl, b6⟩; have H6 := Lib.hid b6; clear b6; have ha6 := accAt_row (cap := cap) (hr6.below H6.out); rw [zL_len] at ha6; have HA6 := Lib.hid ha6; clear ha6 hr6)
      go_wp2_with (go_at_call 148; refine (refFrom_no HA6.out (by rw [zL_len]; omega) (zL_size _) HH.out.2.2.2.2.1).mono ?_; rintro e w7 ⟨rfl, b7⟩; have H7 := Lib.hid b7; clear b7)
      go_wp2_with (go_at_call 73; have hn := New_any w7; unfold ptrV at hn; refine hn.mono ?_; clear hn; rintro e w8 ⟨rfl, k8, s8, b8⟩; have H8 := Lib.hid (And.intro k8 (And.intro s8 b8)); clear k8 s8 b8)
      go_wp2_with (go_at_call 74; refine (refNew_any w8).mono ?_; rintro e w9 ⟨rfl, k9, s9, b9⟩; have H9 := Lib.hid (And.intro k9 (And.intro s9 b9)); obtain ⟨z0, z1, z2, z3⟩ := HCP.out w9 ((H6.out.trans (H7.out.mono H6.out.size)).trans ((H8.out.2.2.trans (b9.mono H8.out.2.2.size)).mono (H6.out.trans (H7.out.mono H6.out.size)).size)); clear k9 s9 b9)
      have hb67 := H6.out.trans (H7.out.mono H6.out.size)
      have hb89 := H8.out.2.2.trans (H9.out.2.2.mono H8.out.2.2.size)
      have hb69 := hb67.trans (hb89.mono hb67.size)
      have hB7 : Below w.heap.size w w7 := by
        have sg := HGW.out.1
        have sa := HBA.out.2.1
        have h4 := HB3.out.1.trans (H4.out.mono HB3.out.1.size)
        have h5 := h4.trans (HCH.out.toBelow h4.size fun q hq => by omega)
        exact h5.trans (hb67.mono h5.size)
      have hB9 : Below w.heap.size w w9 := hB7.trans (hb89.mono hB7.size)
      have sa := HBA.out.2.1
      have sw : wa.heap.size ≤ w7.heap.size := by
        have s1 := H1.out.2.size
        have s13 := HB3.out.2.size
        have s4 := H4.out.size
        have s5 := HCH.out.size
        have s6 := hb67.size
        omega
      obtain ⟨c1, hc1⟩ : ∃ c1, c1 = w7.heap.size + 1 := ⟨_, rfl⟩
      obtain ⟨r1, hr1⟩ : ∃ r1, r1 = w8.heap.size := ⟨_, rfl⟩
      have hSD : SideAt w9 c1 r1 (fun k => w7.heap.size ≤ k ∧ k < w7.heap.size + 2) (fun q => q = w8.heap.size) [] := by
        have s8 := H8.out.2.1
        have s9 := H9.out.2.1
        rw [hc1, hr1]
        exact ⟨H8.out.1.below H9.out.2.2, H9.out.1, valid_nil, fun q hq hr => by omega, fun q hq => by rcases hq with hq | hq <;> omega⟩
      have hge : ∀ q, (w7.heap.size ≤ q ∧ q < w7.heap.size + 2) ∨ q = w8.heap.size → wa.heap.size ≤ q := fun q hq => by
        have s8 := H8.out.2.1
        rcases hq with hq | hq <;> omega
      have hk7 := HBK.out w9 hb69
      have hk8 := heap_setCell_same (i := 0) hk7 (.pointer (some ⟨c1, 0, none⟩))
      have hk9 := heap_setCell_same (i := 1) hk8 (.pointer (some ⟨r1, 0, none⟩))
      have y0 := (cell_of_blk hk9 (i := 0)).trans rfl
      have y1 := (cell_of_blk hk9 (i := 1)).trans rfl
      rw [← hc1, ← hr1]
      refine bodyPost_ret (v := .tuple #[.agg #[.pointer (some ⟨c1, 0, none⟩), .pointer (some ⟨r1, 0, none⟩)], .bool true]) (by simp [results, Tryz.results75, go_sem, y0, y1]) rfl ⟨c1, r1, _, _, [], rfl, (hSD.ch (((Ch.refl (fun q => q = w.heap.size) w9).setCell (p := ⟨w.heap.size, 0, none⟩) (.inl rfl) _).setCell (p := ⟨w.heap.size, 1, none⟩) (.inl rfl) _) fun q hq e => by have := hge q hq; omega), fun q hq => by have := hge q hq; omega, (hB9.setCell (p := ⟨w.heap.size, 0, none⟩) (Nat.le_refl _) _).setCell (p := ⟨w.heap.size, 1, none⟩) (Nat.le_refl _) _⟩

theorem made_any {w : World} {v : Value} {l : List Acct} (h : AccAt w v l) (hp : Pow w) (hle : l.length ≤ 1048576) (hs : ∀ a ∈ l, a.name.size ≤ 1048576) : Calls Tryz.prog 75 #[v] w (SideNew w) := by
  by_cases hv : Valid l
  · by_cases hz : Valid (zL l.length)
    · exact made_yy h hp hle hs hv hz
    · exact made_yn h hp hle hs hv hz
  · by_cases hz : Valid (zL l.length)
    · exact made_ny h hp hle hs hv hz
    · exact made_nn h hp hle hs hv hz
end Go.Proofs.YtplocldnklccfaaGreatDoor
namespace Go.Proofs.YtplocldnklccfaaGreatDoor
open Go.ChangeShapes Go.WideShapes Go.ChangeAt Go.RowKit Go.Deep Go.ChangeMaps
set_option linter.unusedVariables false
set_option linter.unusedSimpArgs false

theorem laidOut : laidOutB Tryz.prog = true := by kernel_rfl

section
variable {H : Type} {enc : TypeId × Value → H} {P : Program}

theorem trodAll_stays {W W' : World} {sp : Nat → Bool} (hl : laidOutB P = true) (hb : Below W.heap.size W W') : ∀ (ts : List TypeId) (vs : List Value) (ds : List (DataW H)) (ps : List MemPlace),
    (∀ t ∈ ts, P.readableRec t = true ∧ t < P.types.size) → DataW.TrodAll enc P W 0 (fun _ => true) true ts vs ds ps → (∀ x ∈ ps, x.block < W.heap.size ∧ sp x.block = true) → DataW.TrodAll enc P W' 0 sp true ts vs ds ps
  | [], vs, ds, ps, _, h, _ => by
    obtain ⟨rfl, rfl, rfl⟩ := trodAll_nil h
    exact trodAll_mk0
  | t :: ts, vs, ds, ps, hr, h, hx => by
    obtain ⟨v, vs', d, ds', p, p', rfl, rfl, rfl, h1, h2⟩ := trodAll_cons h
    obtain ⟨hr1, hr2⟩ := hr t (by simp)
    exact trodAll_cons_mk (WideElems.Trod_stays hl hr1 hr2 h1 (fun x hm => hb.same (hx x (by simp [hm])).1) (fun x hm => (hx x (by simp [hm])).2))
      (trodAll_stays hl hb ts vs' ds' p' (fun t ht => hr t (by simp [ht])) h2 (fun x hm => hx x (by simp [hm])))

/-- A law's row, from its walk: it returns true and nothing of what was there has turned. -/
theorem post_true {f : Func} {s : ChangeSpec} {W W' : World} {args : Array Value} {ds gs : List (DataW H)} {before : List MemPlace} {tb : TypeId}
    (hW : DataW.Whole enc P f.params.toList s.vars false W args.toList ds gs before) (hvn : s.vars = [])
    (hfn : s.fn H ds = { results := [.lit (.bool true)], args := ds, vars := [] }) (hrt : f.resultTypes = #[tb]) (htb : P.underlying tb = some .bool)
    (hl : laidOutB P = true) (hread : ∀ t ∈ f.params.toList, P.readableRec t = true ∧ t < P.types.size) (hb : Below W.heap.size W W') :
    s.post enc P f false true false false W args (.bool true) W' := by
  have hlt : ∀ p ∈ before, p.block < W.heap.size := fun p hp => by simpa using hW.lt p hp
  have hW' := hW
  obtain ⟨p, q, hA, hV, rfl, hz, hn⟩ := hW'
  rw [hvn] at hV
  obtain ⟨rfl, rfl⟩ := trodVars_none hV
  have hargs : ∀ sp : Nat → Bool, (∀ x ∈ p ++ [], sp x.block = true) → DataW.TrodAll enc P W' 0 sp true f.params.toList args.toList (s.fn H (ds ++ [])).args p := fun sp hsp => by
    rw [List.append_nil, hfn]
    exact trodAll_stays hl hb _ _ _ _ hread hA fun x hx => ⟨hlt x (by simpa using hx), hsp x (by simpa using hx)⟩
  have hres : ∀ (b : Nat) (sp : Nat → Bool) (hd : Bool), DataW.TrodAll enc P W' b sp hd f.resultTypes.toList ((Value.bool true).resultList f.resultTypes.size) (s.fn H (ds ++ [])).results [] := fun b sp hd => by
    rw [List.append_nil, hfn, hrt]
    exact trodAll_cons_mk (shut_bool htb true) trodAll_mk0
  have hvars : ∀ sp : Nat → Bool, DataW.TrodVars enc P W' sp s.vars (s.fn H (ds ++ [])).vars [] := fun sp => by
    rw [List.append_nil, hfn, hvn]
    rfl
  have hold : ∀ x ∈ p ++ [], (fun b => decide (b < W.heap.size)) x.block = true := fun x hx => by simpa using hlt x hx
  refine ⟨ds, [], p ++ [], [], p, [], hW, hres _ _ _, hargs _ hold, hvars _, hb.frame _, fun _ => ?_⟩
  refine ⟨?_, _, _, ([] ++ p) ++ [], ⟨[] ++ p, [], trodAll_append (hargs _ (fun _ _ => rfl)) (hres _ _ _), hvars _, rfl, ?_, ?_⟩, ?_⟩
  · exact ok_one hrt rfl (okWide_bool_mk htb true)
  · intro b off hp
    have hm : MemPlace.cell b off ∈ p ++ [] := by simpa using hp
    rw [hb.frozen (p := ⟨b, off, none⟩) (hlt _ hm)]
    exact hz b off hm
  · intro ha
    cases ha
  · intro x hx _
    simpa using hx
end

/-! ### A slice of structs -/
section
variable {H : Type} {enc : TypeId × Value → H} {P : Program} {w : World} {base : Nat} {spare : Nat → Bool} {held : Bool}
theorem open_slice_fields {t e : TypeId} {fs : Array Field} {fuel : Nat} {cs : List Value} {x : DataW H × List MemPlace} (ht : P.underlying t = some (.slice e)) (he : P.underlying e = some (.struct fs))
    (hone : oneCellFields P fs = true) (hC : P.cellsOf e = fs.size) (h : DataW.trod enc P w base spare held fuel t cs = some x) :
    (cs = [.slice none 0 0] ∧ x = (.nil, [])) ∨
    ∃ (a : Addr) (len cap m : Nat) (D : Nat → DataW H) (Pl : Nat → List MemPlace), cs = [.slice (some a) len cap] ∧ base ≤ a.block ∧ len ≤ cap ∧ cap ≤ maxLen ∧ m = (if spare a.block then cap else len) ∧
      x = (.slice ((List.range len).map D) ((List.range (m - len)).map fun j => D (len + j)), MemPlace.row a (m * fs.size) ++ (List.range m).flatMap Pl) ∧
      ∀ i, i < m → ∃ (ys : List (DataW H × List MemPlace)) (n : Nat), D i = .agg (ys.map (·.1)) ∧ Pl i = ys.flatMap (·.2) ∧ ys.length = fs.size ∧
        ∀ (j : Nat) (f : Field), fs[j]? = some f → ∃ (v : Value) (y : DataW H × List MemPlace), w.cell? (a.add (i * fs.size + j)) = some v ∧ ys[j]? = some y ∧ DataW.trod enc P w base spare held n f.type [v] = some y := by
  rcases open_slice ht h with h0 | ⟨a, len, cap, m, n, D, Pl, hcs, hb, hl, hm, hmm, hx, hi⟩
  · exact .inl h0
  · refine .inr ⟨a, len, cap, m, D, Pl, hcs, hb, hl, hm, hmm, by rw [hC] at hx; exact hx, fun i him => ?_⟩
    obtain ⟨cs', hc, ht'⟩ := hi i him
    rw [hC] at hc
    obtain ⟨ys, n', hn', hy, hlen, hyl, hf⟩ := DataW.trod_struct he ht'
    obtain ⟨_, hcl, hat⟩ := World.cells?_some hc
    simp only [Prod.mk.injEq] at hy
    refine ⟨ys, n', hy.1, hy.2, hyl, fun j f hj => ?_⟩
    obtain ⟨ho, hk⟩ := hone_of hone j f hj
    have hjl : j < fs.size := (Array.getElem?_eq_some_iff.1 hj).1
    have hcell := hat j hjl
    have hv : cs'[j]? = some (cs'[j]'(by omega)) := List.getElem?_eq_getElem (by omega)
    have h1 := hf j f hj
    rw [ho, hk] at h1
    have hone' : (cs'.drop j).take 1 = [cs'[j]'(by omega)] := by
      rw [List.drop_eq_getElem_cons (by omega)]
      rfl
    rw [hone'] at h1
    have hys : ys[j]? = some (ys[j]'(by omega)) := List.getElem?_eq_getElem (by omega)
    refine ⟨_, _, ?_, hys, h1.trans hys⟩
    rw [← Go.Deep.add_add, hcell, hv]
end

theorem list_choice {α : Type} {n : Nat} {R : Nat → α → Prop} (h : ∀ i, i < n → ∃ x, R i x) : ∃ l : List α, l.length = n ∧ ∀ i (hi : i < l.length), R i l[i] := by
  induction n with
  | zero => exact ⟨[], rfl, fun i hi => by simp at hi⟩
  | succ n ih =>
    obtain ⟨l, hl, hR⟩ := ih fun i hi => h i (by omega)
    obtain ⟨x, hx⟩ := h n (by omega)
    refine ⟨l ++ [x], by simp [hl], fun i hi => ?_⟩
    by_cases hin : i < l.length
    · rw [List.getElem_append_left hin]
      exact hR i hin
    · have : i = l.length := by simp at hi; omega
      subst this
      rw [List.getElem_append_right (by omega)]
      simp
      rw [hl]
      exact hx

/-! ### What the bound gives -/
theorem bulk_pos {H : Type} (d : DataW H) : 1 ≤ Rows.uptoBulk d := by
  cases d with
  | lit l => cases l <;> simp [Rows.uptoBulk]
  | nil => simp [Rows.uptoBulk]
  | ptr d => simp [Rows.uptoBulk]
  | slice elems spare => simp [Rows.uptoBulk]
  | agg parts => simp [Rows.uptoBulk]
  | iface t d => simp [Rows.uptoBulk]
  | map entries => simp [Rows.uptoBulk]
  | held h => simp [Rows.uptoBulk]
theorem bulk_part {H : Type} {d : DataW H} {l : List (DataW H)} (h : d ∈ l) : Rows.uptoBulk d ≤ Rows.uptoBulkAll l := by
  induction l with
  | nil => cases h
  | cons x r ih =>
    simp only [Rows.uptoBulkAll]
    cases List.mem_cons.1 h with
    | inl e => subst e; omega
    | inr e => have := ih e; omega
theorem bulk_length {H : Type} (l : List (DataW H)) : l.length ≤ Rows.uptoBulkAll l := by
  induction l with
  | nil => simp [Rows.uptoBulkAll]
  | cons x r ih => have := bulk_pos x; simp only [Rows.uptoBulkAll, List.length_cons]; omega
theorem bulk_elems {H : Type} (elems spare : List (DataW H)) : Rows.uptoBulkAll elems + 1 ≤ Rows.uptoBulk (.slice elems spare) := by
  simp only [Rows.uptoBulk]
  omega
theorem bulk_agg {H : Type} (ps : List (DataW H)) : Rows.uptoBulkAll ps + 1 ≤ Rows.uptoBulk (.agg ps) := by
  simp only [Rows.uptoBulk]
  omega
theorem bulk_text {H : Type} (bytes : List UInt8) : Rows.uptoBulk (DataW.lit (H := H) (.string bytes)) = bytes.length + 1 := by
  simp [Rows.uptoBulk]

theorem bulk_bound {H : Type} {l : List (DataW H)} (hk : Rows.uptoSmall H l = true) : Rows.uptoBulkAll l ≤ 1048576 := by
  simpa [Rows.uptoSmall] using hk


set_option maxRecDepth 100000 in
theorem text_open {H : Type} {enc : TypeId × Value → H} {W : World} {base : Nat} {b0 : Nat} {r : Reach} {sp : Nat → Bool} {held : Bool} {t : TypeId} {v : Value} {d : DataW H} {ps : List MemPlace} (ht : Tryz.prog.underlying t = some .string)
    (hval : Value.okWide Tryz.prog W r b0 t v) (hd : DataW.Trod enc Tryz.prog W base sp held t v d ps) (hb : Rows.uptoBulk d ≤ 1048576) : ∃ s : ByteArray, v = .string s ∧ s.size ≤ 1048576 := by
  have h := open_string (P := Tryz.prog) ht hval hd
  obtain ⟨s, e1, e2, _, _⟩ := h
  refine ⟨s, e1, ?_⟩
  rw [e2, bulk_text] at hb
  have : s.data.toList.length = s.size := rfl
  omega
end Go.Proofs.YtplocldnklccfaaGreatDoor
namespace Go.Proofs.YtplocldnklccfaaGreatDoor
open Go.ChangeShapes Go.WideShapes Go.ChangeAt Go.RowKit Go.Deep
set_option linter.unusedVariables false
set_option linter.unusedSimpArgs false

section
variable {H : Type} {enc : TypeId × Value → H} {W : World} {base fuel : Nat} {u : Value} {x : DataW H × List MemPlace}
theorem name_small {name : ByteArray} {y : DataW H × List MemPlace} {ys : List (DataW H × List MemPlace)} {len j i : Nat} {D : Nat → DataW H} {b : Nat}
    (z : y.1 = .lit (.string name.data.toList)) (e : ys[i]? = some y) (hD : D j = .agg (ys.map (·.1))) (hj : j < len) (hb : Rows.uptoBulkAll ((List.range len).map D) ≤ b) : name.size ≤ b := by
  have h1 : y.1 ∈ ys.map (·.1) := List.mem_map.2 ⟨y, List.mem_of_getElem? e, rfl⟩
  have h2 := bulk_part h1
  have h3 : D j ∈ (List.range len).map D := List.mem_map.2 ⟨j, by simpa using hj, rfl⟩
  have h4 := bulk_part h3
  rw [hD] at h4
  have h5 := bulk_agg (ys.map (·.1))
  rw [z, bulk_text] at h2
  have h6 : name.data.toList.length = name.size := rfl
  omega
theorem acts_trod (hf : DataW.trod enc Tryz.prog W base (fun _ => true) true fuel 56 [u] = some x) (hk : Rows.uptoBulk x.1 ≤ 1048576) : ∃ acts, ActsAt W u acts := by
  rcases open_slice_fields Tryz.underlying56 Tryz.underlying79 (by kernel_rfl) (by kernel_rfl) hf with ⟨hc, hx⟩ | ⟨a, len, cap, m, D, Pl, hc, hb, hl, hm, hmm, hx, hi⟩
  · injection hc with hc _
    subst hc
    exact ⟨[], ⟨none, 0, rfl, fun j hj => absurd hj (Nat.not_lt_zero _)⟩, Nat.zero_le _, fun x hx => by cases hx⟩
  · injection hc with hc _
    subst hc
    subst hx
    have hmc : len ≤ m := by rw [hmm]; split <;> omega
    have hb1 := bulk_elems ((List.range len).map D) ((List.range (m - len)).map fun j => D (len + j))
    have hln := bulk_length ((List.range len).map D)
    rw [List.length_map, List.length_range] at hln
    have hbb : Rows.uptoBulkAll ((List.range len).map D) ≤ 1048576 := by
      dsimp only at hk
      omega
    obtain ⟨acts, hal, hR⟩ := list_choice (n := len) (R := fun j (x : ActR) => a.block < W.heap.size ∧ x.a.name.size ≤ 1048576 ∧ E6 W (a.add (j * 6)) x) (fun j hj => by
      obtain ⟨ys, n, hD, hPl, hyl, hfd⟩ := hi j (by omega)
      obtain ⟨v0, y0, c0, e0, t0⟩ := hfd 0 _ rfl
      obtain ⟨v1, y1, c1, e1, t1⟩ := hfd 1 _ rfl
      obtain ⟨v2, y2, c2, e2, t2⟩ := hfd 2 _ rfl
      obtain ⟨v3, y3, c3, e3, t3⟩ := hfd 3 _ rfl
      obtain ⟨v4, y4, c4, e4, t4⟩ := hfd 4 _ rfl
      obtain ⟨v5, y5, c5, e5, t5⟩ := hfd 5 _ rfl
      obtain ⟨who, q0, _, _⟩ := DataW.trod_int Tryz.underlying3 t0
      obtain ⟨kind, q1, _, _⟩ := DataW.trod_int Tryz.underlying3 t1
      obtain ⟨typ, q2, _, _⟩ := DataW.trod_int Tryz.underlying3 t2
      obtain ⟨day, q3, _, _⟩ := DataW.trod_int Tryz.underlying3 t3
      obtain ⟨name, q4, z4, _⟩ := DataW.trod_string Tryz.underlying9 t4
      obtain ⟨ask, q5, _, _⟩ := DataW.trod_string Tryz.underlying9 t5
      injection q0 with q0 _
      injection q1 with q1 _
      injection q2 with q2 _
      injection q3 with q3 _
      injection q4 with q4 _
      injection q5 with q5 _
      subst q0 q1 q2 q3 q4 q5
      have k1 : W.cell? ((a.add (j * 6)).add 1) = some (.int .i64 kind) := by rw [Go.Deep.add_add]; exact c1
      have k2 : W.cell? ((a.add (j * 6)).add 2) = some (.int .i64 typ) := by rw [Go.Deep.add_add]; exact c2
      have k3 : W.cell? ((a.add (j * 6)).add 3) = some (.int .i64 day) := by rw [Go.Deep.add_add]; exact c3
      have k4 : W.cell? ((a.add (j * 6)).add 4) = some (.string name) := by rw [Go.Deep.add_add]; exact c4
      have k5 : W.cell? ((a.add (j * 6)).add 5) = some (.string ask) := by rw [Go.Deep.add_add]; exact c5
      exact ⟨⟨who, ⟨kind, typ, day, name⟩, ask⟩, by have := World.block_lt_of_cell? W _ c0; rwa [block_add] at this, name_small (by rw [z4]) e4 hD hj hbb, c0, k1, k2, k3, k4, k5⟩)
    refine ⟨acts, ⟨some a, cap, by rw [hal], fun j hj => ?_⟩, by omega, fun x hx => ?_⟩
    · obtain ⟨h1, h2, h3⟩ := hR j hj
      exact ⟨a, rfl, h1, h3⟩
    · obtain ⟨j, hj, rfl⟩ := List.getElem_of_mem hx
      exact (hR j hj).2.1
theorem accs_trod (hf : DataW.trod enc Tryz.prog W base (fun _ => true) true fuel 55 [u] = some x) (hk : Rows.uptoBulk x.1 ≤ 1048576) : ∃ l, AccAt W u l ∧ l.length ≤ 1048576 ∧ ∀ a ∈ l, a.name.size ≤ 1048576 := by
  rcases open_slice_fields Tryz.underlying55 Tryz.underlying159 (by kernel_rfl) (by kernel_rfl) hf with ⟨hc, hx⟩ | ⟨a, len, cap, m, D, Pl, hc, hb, hl, hm, hmm, hx, hi⟩
  · injection hc with hc _
    subst hc
    exact ⟨[], ⟨none, 0, rfl, fun n c e => (by cases e; exact ⟨rfl, rfl⟩), fun j hj => absurd hj (Nat.not_lt_zero _)⟩, Nat.zero_le _, fun x hx => by cases hx⟩
  · injection hc with hc _
    subst hc
    subst hx
    have hmc : len ≤ m := by rw [hmm]; split <;> omega
    have hb1 := bulk_elems ((List.range len).map D) ((List.range (m - len)).map fun j => D (len + j))
    have hln := bulk_length ((List.range len).map D)
    rw [List.length_map, List.length_range] at hln
    have hbb : Rows.uptoBulkAll ((List.range len).map D) ≤ 1048576 := by
      dsimp only at hk
      omega
    obtain ⟨l, hal, hR⟩ := list_choice (n := len) (R := fun j (x : Acct) => a.block < W.heap.size ∧ x.name.size ≤ 1048576 ∧ E4 W (a.add (j * 4)) x) (fun j hj => by
      obtain ⟨ys, n, hD, hPl, hyl, hfd⟩ := hi j (by omega)
      obtain ⟨v0, y0, c0, e0, t0⟩ := hfd 0 _ rfl
      obtain ⟨v1, y1, c1, e1, t1⟩ := hfd 1 _ rfl
      obtain ⟨v2, y2, c2, e2, t2⟩ := hfd 2 _ rfl
      obtain ⟨v3, y3, c3, e3, t3⟩ := hfd 3 _ rfl
      obtain ⟨name, q0, z0, _⟩ := DataW.trod_string Tryz.underlying9 t0
      obtain ⟨typ, q1, _, _⟩ := DataW.trod_int Tryz.underlying3 t1
      obtain ⟨opened, q2, _, _⟩ := DataW.trod_int Tryz.underlying3 t2
      obtain ⟨closed, q3, _⟩ := DataW.trod_bool Tryz.underlying4 t3
      injection q0 with q0 _
      injection q1 with q1 _
      injection q2 with q2 _
      injection q3 with q3 _
      subst q0 q1 q2 q3
      have k1 : W.cell? ((a.add (j * 4)).add 1) = some (.int .i64 typ) := by rw [Go.Deep.add_add]; exact c1
      have k2 : W.cell? ((a.add (j * 4)).add 2) = some (.int .i64 opened) := by rw [Go.Deep.add_add]; exact c2
      have k3 : W.cell? ((a.add (j * 4)).add 3) = some (.bool closed) := by rw [Go.Deep.add_add]; exact c3
      exact ⟨⟨name, typ, opened, closed⟩, by have := World.block_lt_of_cell? W _ c0; rwa [block_add] at this, name_small (by rw [z0]) e0 hD hj hbb, c0, k1, k2, k3⟩)
    refine ⟨l, ⟨some a, cap, by rw [hal], fun n c e => (by cases e), fun j hj => ?_⟩, by omega, fun x hx => ?_⟩
    · obtain ⟨h1, h2, h3, h4, h5, h6⟩ := hR j hj
      exact ⟨a, rfl, h1, h3, h4, h5, h6⟩
    · obtain ⟨j, hj, rfl⟩ := List.getElem_of_mem hx
      exact (hR j hj).2.1
set_option maxRecDepth 100000 in
theorem play_open {r : Reach} {v : Value} {d : DataW H} {p : List MemPlace} {b0 : Nat} (hv : Value.okWide Tryz.prog W r base 58 v) (h : DataW.Trod enc Tryz.prog W b0 (fun _ => true) true 58 v d p) (hk : Rows.uptoBulk d ≤ 1048576) :
    ∃ fv av l acts, v = .agg #[fv, av] ∧ AccAt W fv l ∧ l.length ≤ 1048576 ∧ (∀ a ∈ l, a.name.size ≤ 1048576) ∧ ActsAt W av acts := by
  obtain ⟨cs, rfl, hcs⟩ := okWide_struct Tryz.underlying58 hv
  have hsz : cs.size = 2 := by rw [hcs]; kernel_rfl
  obtain ⟨fv, av, rfl⟩ : ∃ fv av, cs = #[fv, av] := by
    obtain ⟨cl⟩ := cs
    match cl, hsz with
    | [fv, av], _ => exact ⟨fv, av, rfl⟩
  obtain ⟨fuel, hf⟩ := h
  have he := Tryz.underlying58
  obtain ⟨ys, n', hn', hy, hlen, hyl, hfd⟩ := DataW.trod_struct he hf
  injection hy with hy1 hy2
  have hys : ∀ j (hj : j < 2), ∃ y, ys[j]? = some y ∧ Rows.uptoBulk y.1 ≤ 1048576 := fun j hj => by
    have hyl2 : ys.length = 2 := hyl
    have hjy : j < ys.length := by omega
    refine ⟨ys[j], List.getElem?_eq_getElem hjy, ?_⟩
    have h1 : (ys[j]).1 ∈ ys.map (·.1) := List.mem_map.2 ⟨ys[j], List.getElem_mem hjy, rfl⟩
    have h2 := bulk_part h1
    have h5 := bulk_agg (ys.map (·.1))
    rw [← hy1] at h5
    omega
  obtain ⟨y0, e0, k0⟩ := hys 0 (by decide)
  obtain ⟨y1, e1, k1⟩ := hys 1 (by decide)
  have f0 := (hfd 0 _ rfl).trans e0
  have f1 := (hfd 1 _ rfl).trans e1
  obtain ⟨l, hl, hle, hs⟩ := accs_trod f0 k0
  obtain ⟨acts, ha⟩ := acts_trod f1 k1
  exact ⟨fv, av, l, acts, rfl, hl, hle, hs, ha⟩
end
end Go.Proofs.YtplocldnklccfaaGreatDoor
