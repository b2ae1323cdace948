/- ChartNames: the walk. Printed by gen_names.py. -/
import Derived.Test.YtplocldnklccfaaGreatDoorPack7
import Derived.Test.YtplocldnklccfaaGreatDoorPack5
namespace Go.Proofs.YtplocldnklccfaaGreatDoor
open Go.RowKit
set_option linter.unusedVariables false
set_option linter.unusedSimpArgs false

theorem bt {a b c : World} (h : Below a.heap.size a b) (k : Below b.heap.size b c) : Below a.heap.size a c := h.trans (k.mono h.size)
theorem path_small (s : ByteArray) : (path7 s).length ≤ 1048576 := Nat.le_trans (path7_len s) (by decide)
theorem bc_nil : BookNil (#[.int .i64 0, .slice none 0 0, .slice none 0 0, .slice none 0 0, .slice none 0 0, .slice none 0 0, .slice none 0 0, .slice none 0 0, .slice none 0 0, .slice none 0 0, .slice none 0 0, .slice none 0 0, .slice none 0 0, .slice none 0 0, .slice none 0 0, .slice none 0 0, .slice none 0 0, .slice none 0 0, .slice none 0 0, .slice none 0 0, .slice none 0 0]) := fun i hi => by
  simp at hi
  rcases hi with rfl | rfl | rfl | rfl | rfl | rfl | rfl | rfl | rfl | rfl | rfl | rfl | rfl | rfl | rfl | rfl | rfl | rfl | rfl <;> rfl
theorem book_new {w : World} {kb : Nat} (h : w.heap[kb]? = some (.cells (#[.int .i64 0, .slice none 0 0, .slice none 0 0, .slice none 0 0, .slice none 0 0, .slice none 0 0, .slice none 0 0, .slice none 0 0, .slice none 0 0, .slice none 0 0, .slice none 0 0, .slice none 0 0, .slice none 0 0, .slice none 0 0, .slice none 0 0, .slice none 0 0, .slice none 0 0, .slice none 0 0, .slice none 0 0, .slice none 0 0, .slice none 0 0]) 49 (0, 0))) (hp : Pow w) : BookT w kb (#[.int .i64 0, .slice none 0 0, .slice none 0 0, .slice none 0 0, .slice none 0 0, .slice none 0 0, .slice none 0 0, .slice none 0 0, .slice none 0 0, .slice none 0 0, .slice none 0 0, .slice none 0 0, .slice none 0 0, .slice none 0 0, .slice none 0 0, .slice none 0 0, .slice none 0 0, .slice none 0 0, .slice none 0 0, .slice none 0 0, .slice none 0 0]) (.slice none 0 0) [] :=
  ⟨h, rfl, PagesAt.nil w, fun j hj => absurd hj (Nat.not_lt_zero _), fun q hq => (by cases hq), hp, fun j hj => absurd hj (Nat.not_lt_zero _), Nat.zero_le _⟩
set_option maxRecDepth 100000 in
set_option maxHeartbeats 4000000 in
theorem names_walk {w : World} {s t : ByteArray} (hs : s.size ≤ 1048576) (ht : t.size ≤ 1048576) (hp : Pow w) (hm : ∃ m, w.cell? ⟨0, 0, none⟩ = some (.int .i64 m)) :
    Calls Tryz.prog 3 #[.string s, .string t] w fun e w' => e = .returned (.bool true) ∧ Below w.heap.size w w' := by
  have hs' : s.size ≤ 140737488355328 := by omega
  have ht' : t.size ≤ 140737488355328 := by omega
  have hG := fun W => Good_any s W (by unfold maxLen; omega)
  have hRG := fun W => refGood_any s W hs
  have hU := fun W => Under_any s t W hs' ht'
  have hU2 := fun W => Under_any t s W ht' hs'
  have hRU := fun W => refUnder_any s t W hs
  have hRU2 := fun W => refUnder_any t s W ht
  have hPa := fun W => Parent_any s W hs'
  have hRPa := fun W => refParent_any s W hs
  have hRo := (fun W (hb : Below w.heap.size w W) => Root_any s W hs' (by
    obtain ⟨m, hm⟩ := hm
    have hl : 0 < w.heap.size := Nat.lt_of_le_of_lt (Nat.zero_le _) hp.lt
    exact ⟨m, by rw [← hm]; exact World.cell?_of_block (hb.block 0 hl)⟩) (Nat.lt_of_lt_of_le (Nat.lt_of_le_of_lt (Nat.zero_le _) hp.lt) hb.size))
  have hRRo := fun W => refRoot_any s W hs
  have hPs := fun W => Path_any s W hs'
  have hPt := fun W => Path_any t W ht'
  have hRPs := fun W => refPath_any s W hs
  have hRPt := fun W => refPath_any t W ht
  have hLs := path_small s
  have hLt := path_small t
  obtain ⟨L1, hL1⟩ : ∃ L1, L1 = path7 s := ⟨_, rfl⟩
  obtain ⟨L2, hL2⟩ : ∃ L2, L2 = path7 t := ⟨_, rfl⟩
  simp only [path7_eq, ← hL1, ← hL2] at hPs hPt hRPs hRPt hLs hLt
  have HPs := Lib.hid hPs
  have HPt := Lib.hid hPt
  have HRPs := Lib.hid hRPs
  have HRPt := Lib.hid hRPt
  clear hPs hPt hRPs hRPt hL1 hL2
  have HP := Lib.hid hp
  have hb : Below w.heap.size w w := Below.refl _ _
  obtain ⟨G, hGe⟩ : ∃ G, G = goodB s.data.toList := ⟨_, rfl⟩
  obtain ⟨U, hUe⟩ : ∃ U, U = underF s t := ⟨_, rfl⟩
  obtain ⟨U2, hU2e⟩ : ∃ U2, U2 = underF t s := ⟨_, rfl⟩
  obtain ⟨P1, hP1⟩ : ∃ P1, P1 = (parentF s).getD ⟨#[]⟩ := ⟨_, rfl⟩
  obtain ⟨P2, hP2⟩ : ∃ P2, P2 = (parentF s).isSome := ⟨_, rfl⟩
  obtain ⟨RR, hRR⟩ : ∃ RR, RR = rootG s := ⟨_, rfl⟩
  simp only [← hP1, ← hP2] at hPa hRPa
  simp only [← hRR] at hRo hRRo
  have HPa := Lib.hid hPa
  have HRPa := Lib.hid hRPa
  have HRo := Lib.hid hRo
  have HRRo := Lib.hid hRRo
  clear hPa hRPa hRo hRRo hP1 hP2 hRR
  simp only [← hGe] at hG hRG
  simp only [← hUe] at hU hRU
  simp only [← hU2e] at hU2 hRU2
  clear hGe hUe hU2e hp hm hs' ht'
  have HG := Lib.hid hG
  have HRG := Lib.hid hRG
  have HU := Lib.hid hU
  have HU2 := Lib.hid hU2
  have HRU := Lib.hid hRU
  have HRU2 := Lib.hid hRU2
  clear hG hRG hU hU2 hRU hRU2
  go_enter Tryz.func3, Tryz.ntmps3
  go_wp2_with (go_at_call 6; with_reducible refine (HG.out _).mono ?_; rintro en wn ⟨rfl, hbn⟩; have hb2 := hb.trans (hbn.mono hb.size); clear hb hbn; have hb := hb2; clear hb2)
  go_wp2_with (go_at_call 7; with_reducible refine (HRG.out _).mono ?_; rintro en wn ⟨rfl, hwn⟩; have hwn := hwn.symm; subst hwn)
  go_wp2_with (go_at_call 8; with_reducible refine (HU.out _).mono ?_; rintro en wn ⟨rfl, hbn⟩; have hb2 := hb.trans (hbn.mono hb.size); clear hb hbn; have hb := hb2; clear hb2)
  go_wp2_with (go_at_call 9; with_reducible refine (HRU.out _).mono ?_; rintro en wn ⟨rfl, hbn⟩; have hb2 := hb.trans (hbn.mono hb.size); clear hb hbn; have hb := hb2; clear hb2)
  go_wp2_with (go_at_call 8; with_reducible refine (HU2.out _).mono ?_; rintro en wn ⟨rfl, hbn⟩; have hb2 := hb.trans (hbn.mono hb.size); clear hb hbn; have hb := hb2; clear hb2)
  go_wp2_with (go_at_call 9; with_reducible refine (HRU2.out _).mono ?_; rintro en wn ⟨rfl, hbn⟩; have hb2 := hb.trans (hbn.mono hb.size); clear hb hbn; have hb := hb2; clear hb2)
  go_wp2_with (go_at_call 10; with_reducible refine (HPa.out _).mono ?_; rintro en wn ⟨rfl, hbn⟩; have hb2 := hb.trans (hbn.mono hb.size); clear hb hbn; have hb := hb2; clear hb2)
  go_wp2_with (go_at_call 11; with_reducible refine (HRPa.out _).mono ?_; rintro en wn ⟨rfl, hbn⟩; have hb2 := hb.trans (hbn.mono hb.size); clear hb hbn; have hb := hb2; clear hb2)
  go_wp2_with (go_at_call 12; with_reducible refine (HRo.out _ hb).mono ?_; rintro en wn ⟨rfl, hbn⟩; have hb2 := hb.trans (hbn.mono hb.size); clear hb hbn; have hb := hb2; clear hb2)
  go_wp2_with (go_at_call 13; with_reducible refine (HRRo.out _).mono ?_; rintro en wn ⟨rfl, hbn⟩; have hb2 := hb.trans (hbn.mono hb.size); clear hb hbn; have hb := hb2; clear hb2)
  obtain ⟨wk, hwk⟩ : ∃ wk, wk = wn.alloc (.cells #[.int .i64 0, .slice none 0 0, .slice none 0 0, .slice none 0 0, .slice none 0 0, .slice none 0 0, .slice none 0 0, .slice none 0 0, .slice none 0 0, .slice none 0 0, .slice none 0 0, .slice none 0 0, .slice none 0 0, .slice none 0 0, .slice none 0 0, .slice none 0 0, .slice none 0 0, .slice none 0 0, .slice none 0 0, .slice none 0 0, .slice none 0 0] 49) := ⟨_, rfl⟩
  rw [← hwk]
  have hk0 : wk.heap[wn.heap.size]? = some (.cells #[.int .i64 0, .slice none 0 0, .slice none 0 0, .slice none 0 0, .slice none 0 0, .slice none 0 0, .slice none 0 0, .slice none 0 0, .slice none 0 0, .slice none 0 0, .slice none 0 0, .slice none 0 0, .slice none 0 0, .slice none 0 0, .slice none 0 0, .slice none 0 0, .slice none 0 0, .slice none 0 0, .slice none 0 0, .slice none 0 0, .slice none 0 0] 49 (0, 0)) := by rw [hwk]; exact World.alloc_heap_new wn _
  have hbk : Below w.heap.size w wk := by rw [hwk]; exact bt hb (bel1 wn _)
  obtain ⟨kb, hkb⟩ : ∃ kb, kb = wn.heap.size := ⟨_, rfl⟩
  rw [← hkb] at hk0 ⊢
  have hkw : w.heap.size ≤ kb := by rw [hkb]; exact hb.size
  have HK := Lib.hid (book_new hk0 (HP.out.below hbk))
  have HBK := Lib.hid (And.intro hbk hkw)
  clear hwk hk0 hbk hkb hb hkw
  refine (HPs.out wk).mono ?_
  rintro en w1 ⟨v1, rfl, o1, b1⟩
  obtain ⟨A1, d1, rfl⟩ := own_form o1
  have H1 := Lib.hid (And.intro o1 b1)
  clear o1 b1
  go_wp2_with (go_at_call 14; with_reducible refine (HPt.out w1).mono ?_; rintro en w2 ⟨v2, rfl, o2, b2⟩; obtain ⟨A2, d2, rfl⟩ := own_form o2; have H2 := Lib.hid (And.intro o2 b2); clear o2 b2)
  go_wp2_with (go_at_call 14; with_reducible refine (HPs.out w2).mono ?_; rintro en w3 ⟨v3, rfl, o3, b3⟩; obtain ⟨A3, d3, rfl⟩ := own_form o3; have H3 := Lib.hid (And.intro o3 b3); clear o3 b3)
  go_wp2_with (go_at_call 16; with_reducible refine (HRPs.out w3).mono ?_; rintro en w4 ⟨v4, rfl, o4, b4⟩; have H4 := Lib.hid (And.intro o4 b4); clear o4 b4)
  have hT1 := (TxtAt.own H1.out.1).keep (bt H2.out.2 (bt H3.out.2 H4.out.2))
  have hT4 := TxtAt.own H4.out.1
  go_wp2_with (go_at_call 15; with_reducible refine (sameTexts_same L1 hT1 hT4 hLs).mono ?_; rintro en w5 ⟨rfl, m5, hw5⟩; have b5 : Below w4.heap.size w4 w5 := (by rw [hw5]; exact below_drewN (Below.refl _ _) _); have H5 := Lib.hid b5; clear hw5 b5)
  go_wp2_with (go_at_call 16; with_reducible refine (HRPt.out w5).mono ?_; rintro en w6 ⟨v6, rfl, o6, b6⟩; have H6 := Lib.hid (And.intro o6 b6); clear o6 b6)
  have hT2 := (TxtAt.own H2.out.1).keep (bt H3.out.2 (bt H4.out.2 (bt H5.out H6.out.2)))
  have hT6 := TxtAt.own H6.out.1
  go_wp2_with (go_at_call 15; with_reducible refine (sameTexts_same L2 hT2 hT6 hLt).mono ?_; rintro en w7 ⟨rfl, m7, hw7⟩; have b7 : Below w6.heap.size w6 w7 := (by rw [hw7]; exact below_drewN (Below.refl _ _) _); have H7 := Lib.hid b7; clear hw7 b7)
  have hT3 := (TxtAt.own H3.out.1).keep (bt H4.out.2 (bt H5.out (bt H6.out.2 H7.out)))
  have hT1' := (TxtAt.own H1.out.1).keep (bt H2.out.2 (bt H3.out.2 (bt H4.out.2 (bt H5.out (bt H6.out.2 H7.out)))))
  go_wp2_with (go_at_call 15; with_reducible refine (sameTexts_same L1 hT3 hT1' hLs).mono ?_; rintro en w8 ⟨rfl, m8, hw8⟩; have b8 : Below w7.heap.size w7 w8 := (by rw [hw8]; exact below_drewN (Below.refl _ _) _); have H8 := Lib.hid b8; clear hw8 b8)
  clear hT1 hT4 hT2 hT6 hT3 hT1'
  have hkl : kb < wk.heap.size := heap_lt HK.out.blk
  have hgw : 3 < w.heap.size := HP.out.lt
  have c28 := bt H2.out.2 (bt H3.out.2 (bt H4.out.2 (bt H5.out (bt H6.out.2 (bt H7.out H8.out)))))
  have c38 := bt H3.out.2 (bt H4.out.2 (bt H5.out (bt H6.out.2 (bt H7.out H8.out))))
  have c48 := bt H4.out.2 (bt H5.out (bt H6.out.2 (bt H7.out H8.out)))
  have hl1 := ownsRow_keep (w' := w8) H1.out.1 fun q hq => c28.block q (H1.out.1.lt q hq).2
  have hl2 := ownsRow_keep (w' := w8) H2.out.1 fun q hq => c38.block q (H2.out.1.lt q hq).2
  have hl3 := ownsRow_keep (w' := w8) H3.out.1 fun q hq => c48.block q (H3.out.1.lt q hq).2
  have HB8 := Lib.hid (HK.out.below (bt H1.out.2 c28))
  have hs1 := H1.out.2.size
  have hs2 := H2.out.2.size
  have hs3 := H3.out.2.size
  have hbw := HBK.out.2
  have hkg : kb ≠ 3 := by omega
  have hq1 : ∀ q, (Value.slice A1 L1.length d1).ownBlock = some q → q ≠ kb ∧ q ≠ 3 ∧ ¬ BookF (.slice none 0 0) [] q := fun q hq => by
    have := (H1.out.1.lt q hq).1
    refine ⟨by omega, by omega, fun h => ?_⟩
    rcases h with h | ⟨j, hj, _⟩
    · cases h
    · exact absurd hj (Nat.not_lt_zero _)
  have HL := Lib.hid (And.intro hl1 (And.intro hl2 (And.intro hl3 hq1)))
  have HSZ := Lib.hid (And.intro hkl (And.intro hgw (And.intro hs1 (And.intro hs2 (And.intro hs3 (And.intro hbw (And.intro c38.size c28.size)))))))
  clear hkl hgw c28 c38 c48 hl1 hl2 hl3 hs1 hs2 hs3 hbw hq1
  go_wp2_with (go_at_call 17; with_reducible refine (KeepTexts_any HB8.out rfl ⟨by decide, by decide⟩ (by decide) HL.out.1 hLs HL.out.2.2.2 hkg).mono ?_; rintro en w9 ⟨rfl, T9, p9, b9, e9, f9, t9, c9⟩; have H9 := Lib.hid (And.intro b9 (And.intro e9 (And.intro f9 (And.intro t9 c9)))); clear b9 e9 f9 t9 c9)
  have hl2 := ownsRow_keep (w' := w9) HL.out.2.1 fun q hq => H9.out.2.2.2.2.block q (HL.out.2.1.lt q hq).2 fun e => by
    obtain ⟨z1, z2, z3, z4, z5, z6, z7, z8⟩ := HSZ.out
    have := (H2.out.1.lt q hq).1
    rcases e with e | e
    · omega
    · cases e
  have hq2 : ∀ q, (Value.slice A2 L2.length d2).ownBlock = some q → q ≠ kb ∧ q ≠ 3 ∧ ¬ BookF T9 ([] ++ [p9]) q := fun q hq => by
    obtain ⟨z1, z2, z3, z4, z5, z6, z7, z8⟩ := HSZ.out
    have y1 := (H2.out.1.lt q hq).1
    have y2 := (H2.out.1.lt q hq).2
    refine ⟨by omega, by omega, fun h => ?_⟩
    rcases h with h | ⟨j, hj, h⟩
    · rcases H9.out.2.2.2.1 q h with h | h
      · cases h
      · omega
    · obtain rfl : j = 0 := by simp at hj; omega
      rcases H9.out.2.2.1 q h with h | h
      · have := (H1.out.1.lt q h).2
        omega
      · omega
  have HL2 := Lib.hid (And.intro hl2 hq2)
  clear hl2 hq2
  go_wp2_with (go_at_call 17; with_reducible refine (KeepTexts_any H9.out.1 rfl ⟨by decide, by decide⟩ (by simp) HL2.out.1 hLt HL2.out.2 hkg).mono ?_; rintro en w10 ⟨rfl, T10, p10, b9, e9, f9, t9, c9⟩; have H10 := Lib.hid (And.intro b9 (And.intro e9 (And.intro f9 (And.intro t9 c9)))); clear b9 e9 f9 t9 c9)
  have hl3 := ownsRow_keep (w' := w10) (ownsRow_keep (w' := w9) HL.out.2.2.1 fun q hq => H9.out.2.2.2.2.block q (HL.out.2.2.1.lt q hq).2 fun e => by
    obtain ⟨z1, z2, z3, z4, z5, z6, z7, z8⟩ := HSZ.out
    have := (H3.out.1.lt q hq).1
    rcases e with e | e
    · omega
    · cases e) fun q hq => H10.out.2.2.2.2.block q (Nat.lt_of_lt_of_le (HL.out.2.2.1.lt q hq).2 H9.out.2.2.2.2.size) fun e => by
    obtain ⟨z1, z2, z3, z4, z5, z6, z7, z8⟩ := HSZ.out
    have y1 := (H3.out.1.lt q hq).1
    have y2 := (HL.out.2.2.1.lt q hq).2
    rcases e with e | e
    · omega
    · rcases H9.out.2.2.2.1 q e with h | h
      · cases h
      · omega
  have hq3 : ∀ q, (Value.slice A3 L1.length d3).ownBlock = some q → q ≠ kb ∧ q ≠ 3 ∧ ¬ BookF T10 ([] ++ [p9] ++ [p10]) q := fun q hq => by
    obtain ⟨z1, z2, z3, z4, z5, z6, z7, z8⟩ := HSZ.out
    have y1 := (H3.out.1.lt q hq).1
    have y2 := (HL.out.2.2.1.lt q hq).2
    have y9 := H9.out.2.2.2.2.size
    refine ⟨by omega, by omega, fun h => ?_⟩
    rcases h with h | ⟨j, hj, h⟩
    · rcases H10.out.2.2.2.1 q h with h | h
      · rcases H9.out.2.2.2.1 q h with h | h
        · cases h
        · omega
      · omega
    · match j, hj, h with
      | 0, hj, h =>
        rcases H9.out.2.2.1 q h with h | h
        · have := (H1.out.1.lt q h).2
          omega
        · omega
      | 1, hj, h =>
        rcases H10.out.2.2.1 q h with h | h
        · have := (H2.out.1.lt q h).2
          omega
        · omega
  have HL3 := Lib.hid (And.intro hl3 hq3)
  clear hl3 hq3
  go_wp2_with (go_at_call 18; with_reducible refine (WriteTexts_any H10.out.1 rfl ⟨by decide, by decide⟩ (by simp) HL3.out.1 hLs HL3.out.2 hkg).mono ?_; rintro en w11 ⟨rfl, T11, p11, b9, e9, f9, t9, c9⟩; have H11 := Lib.hid (And.intro b9 (And.intro e9 (And.intro f9 (And.intro t9 c9)))); clear b9 e9 f9 t9 c9)
  go_wp2_with (go_at_call 19; with_reducible refine (Settle_any H11.out.1 (BookNil.set (BookNil.set (BookNil.set bc_nil _ _) _ _) _ _)).mono ?_; rintro en w12 ⟨rfl, c12⟩; have H12 := Lib.hid c12; clear c12)
  go_wp2_with (go_at_call 14; with_reducible refine (HPs.out w12).mono ?_; rintro en w13 ⟨v13, rfl, o13, b13⟩; have H13 := Lib.hid (And.intro o13 b13); clear o13 b13)
  go_wp2_with (go_at_call 16; with_reducible refine (HRPs.out w13).mono ?_; rintro en w14 ⟨v14, rfl, o14, b14⟩; have H14 := Lib.hid (And.intro o14 b14); clear o14 b14)
  have hT13 := (TxtAt.own H13.out.1).keep H14.out.2
  have hT14 := TxtAt.own H14.out.1
  go_wp2_with (go_at_call 15; with_reducible refine (sameTexts_same L1 hT13 hT14 hLs).mono ?_; rintro en w15 ⟨rfl, m15, hw15⟩; have b15 : Below w14.heap.size w14 w15 := (by rw [hw15]; exact below_drewN (Below.refl _ _) _); have H15 := Lib.hid b15; clear hw15 b15)
  go_ret
  refine ⟨rfl, ?_⟩
  obtain ⟨z1, z2, z3, z4, z5, z6, z7, z8⟩ := HSZ.out
  have hw8 := bt HBK.out.1 (bt H1.out.2 (bt H2.out.2 (bt H3.out.2 (bt H4.out.2 (bt H5.out (bt H6.out.2 (bt H7.out H8.out)))))))
  have s8 := hw8.size
  have s9 := H9.out.2.2.2.2.size
  have s10 := H10.out.2.2.2.2.size
  have s11 := H11.out.2.2.2.2.size
  have q1 : ∀ q, (Value.slice A1 L1.length d1).ownBlock = some q → w.heap.size ≤ q := fun q hq => by have := (H1.out.1.lt q hq).1; omega
  have q2 : ∀ q, (Value.slice A2 L2.length d2).ownBlock = some q → w.heap.size ≤ q := fun q hq => by have := (H2.out.1.lt q hq).1; omega
  have q3 : ∀ q, (Value.slice A3 L1.length d3).ownBlock = some q → w.heap.size ≤ q := fun q hq => by have := (H3.out.1.lt q hq).1; omega
  have t9 : ∀ q, T9.ownBlock = some q → w.heap.size ≤ q := fun q hq => by
    rcases H9.out.2.2.2.1 q hq with h | h
    · cases h
    · omega
  have t10 : ∀ q, T10.ownBlock = some q → w.heap.size ≤ q := fun q hq => by
    rcases H10.out.2.2.2.1 q hq with h | h
    · exact t9 q h
    · omega
  have t11 : ∀ q, T11.ownBlock = some q → w.heap.size ≤ q := fun q hq => by
    rcases H11.out.2.2.2.1 q hq with h | h
    · exact t10 q h
    · omega
  have c9 := H9.out.2.2.2.2.toBelow (B := w.heap.size) s8 fun q hq => by
    rcases hq with rfl | h
    · omega
    · cases h
  have c10 := H10.out.2.2.2.2.toBelow (B := w.heap.size) (by omega) fun q hq => by
    rcases hq with rfl | h
    · omega
    · exact t9 q h
  have c11 := H11.out.2.2.2.2.toBelow (B := w.heap.size) (by omega) fun q hq => by
    rcases hq with rfl | h | h
    · omega
    · exact t10 q h
    · exact q3 q h
  have c12 := H12.out.toBelow (B := w.heap.size) (by omega) fun q hq => by
    rcases hq with h | ⟨j, hj, h⟩
    · exact t11 q h
    · match j, hj, h with
      | 0, hj, h =>
        rcases H9.out.2.2.1 q h with h | h
        · exact q1 q h
        · omega
      | 1, hj, h =>
        rcases H10.out.2.2.1 q h with h | h
        · exact q2 q h
        · omega
      | 2, hj, h =>
        rcases H11.out.2.2.1 q h with h | h
        · exact q3 q h
        · omega
  have s12 := c12.size
  exact hw8.trans (c9.trans (c10.trans (c11.trans (c12.trans ((bt H13.out.2 (bt H14.out.2 H15.out)).mono (by omega))))))
end Go.Proofs.YtplocldnklccfaaGreatDoor
