/- copied, num, tell. Printed by gen_tell.py; Events handed in, a list told, what must come whatever the events are. Printed by gen_tells.py; The books' laws: from a walk to a row: what the arguments are, what the bound gives, that all reads as it did; BookBalances in plain words: each event's rows add up to 0; no program. -/
import Derived.Test.YtgocoofcelggcaaGreatDoorPack13
import Derived.Deep.RegionHeld3
import Derived.KernelRfl
import Derived.Test.YtgocoofcelggcaaGreatDoorRows
import Derived.ProofKit
import Derived.OpenShut
import Derived.Deep.Slices
import Derived.Deep.Fields
import Derived.ChangeSame
import Derived.Carry
namespace Go.Proofs.YtgocoofcelggcaaGreatDoor
open Go.RowKit
set_option linter.unusedVariables false
set_option linter.unusedSimpArgs false


theorem row_posts' {W : World} {n m : Nat} {v : Value} {rs : List PostV} (hm : m = rs.length) (h : W.ownsRow n 39 9 v m (rs.map encPost).flatten) : RowAt W (fun k => v.ownBlock = some k) 9 v (rs.map encPost) := by
  subst hm
  exact row_posts h
theorem apply_rows (S : BookS) (e : EventV) : (applyS S e).rows = S.rows ++ applyR S e := by
  unfold applyS applyR
  split
  · rw [keepS_rows]; rfl
  · simp

structure TellPost (H G : Nat → Prop) (bt : Nat) (t : ToldS) (e : EventV) (w : World) (en : Ending) (w' : World) : Prop where
  ex : ∃ rv H' G', en = .returned (.tuple #[rv, .bool (decide (checkE t.S e = 0))]) ∧ ToldAt w' H' G' bt (tellF t e) ∧ w'.ownsRow w.heap.size 39 9 rv (applyR t.S e).length ((applyR t.S e).map encPost).flatten ∧ Ch H w w' ∧
    (∀ k, H' k → H k ∨ (w.heap.size ≤ k ∧ k < w'.heap.size)) ∧ (∀ k, rv.ownBlock = some k → ¬ H' k) ∧ ∀ k, G k → G' k

set_option maxRecDepth 100000 in
set_option maxHeartbeats 8000000 in
theorem tell_any {w : World} {H G R : Nat → Prop} {bt : Nat} {t : ToldS} {e : EventV} {lv : Value} (h : ToldAt w H G bt t) (hk : ToldOk t) (hz : SmallEv e) (hin : InEv e) (hL : LinesAt w R lv e.lines) (hn : NilOk lv) (hR : ∀ k, R k → ¬ H k ∨ G k) :
    Calls Tryz.prog 13 #[ptrV bt, evV e lv] w (TellPost H G bt t e w) := by
  obtain ⟨ie, hie, hez0, hez1, hez2⟩ := info_parts info_event
  obtain ⟨ip, hip, hpz0, hpz1, hpz2⟩ := info_parts info_post
  obtain ⟨F, bb, tv, rv0, tl, hp, hH⟩ := h
  obtain ⟨tA, tc, htv⟩ := own_form hp.taken
  obtain ⟨rA, rc, hrv0⟩ := own_form hp.rows
  subst htv hrv0
  have hT : t.T.length ≤ 1000 := by have := hk.len; have := hk.ok.ok.ev1; omega
  have hM : t.S.rows.length ≤ 12000 := by have := hk.ok.ok.rowsLe; have := hk.ok.ok.ev1; omega
  have hA12 := fun (hc : checkE t.S e = 0) => (rows_facts hk.ok hin (taken_of hc).fields).1
  have hb0 := bel1 w (.cells (evCs e lv) 25)
  have hn0 := World.alloc_heap_new w (.cells (evCs e lv) 25)
  have hbl := heap_lt hp.head
  obtain ⟨W0, hW0⟩ : ∃ W0, w.alloc (.cells (evCs e lv) 25) = W0 := ⟨_, rfl⟩
  have hsz0 : W0.heap.size = w.heap.size + 1 := by rw [← hW0]; simp
  rw [hW0] at hb0 hn0
  have hRF : ∀ k, R k → ¬ F k := fun k hr hf => by
    rcases hR k hr with h1 | h1
    · exact h1 ((hH k).2 (.inl hf))
    · exact hp.GF k h1 hf
  have hp0 := hp.below hb0
  have hL0 := hL.below hb0
  have hkeep : ∀ W : World, W.heap[w.heap.size]? = W0.heap[w.heap.size]? → W.cell? ⟨w.heap.size, 0, none⟩ = some (.int .i64 e.kind) ∧ W.cell? ⟨w.heap.size, 1, none⟩ = some (.int .i64 e.day) ∧ W.cell? ⟨w.heap.size, 2, none⟩ = some (.string e.key) ∧ W.cell? ⟨w.heap.size, 3, none⟩ = some (.string e.account) ∧ W.cell? ⟨w.heap.size, 4, none⟩ = some (.string e.other) ∧ W.cell? ⟨w.heap.size, 5, none⟩ = some (.string e.ref) ∧ W.cell? ⟨w.heap.size, 6, none⟩ = some (.string e.ref2) ∧ W.cell? ⟨w.heap.size, 7, none⟩ = some (.int .i64 e.typ) ∧ W.cell? ⟨w.heap.size, 8, none⟩ = some (.int .i64 e.due) ∧ W.cell? ⟨w.heap.size, 9, none⟩ = some (.int .i64 e.amount) ∧ W.cell? ⟨w.heap.size, 10, none⟩ = some (.string e.memo) ∧ W.cell? ⟨w.heap.size, 11, none⟩ = some (lv) := fun W hW => by
    have hE : EvAt W w.heap.size e lv := ⟨hW.trans hn0⟩
    exact ev_cells hE
  have hhd : ∀ W : World, W.heap[bt]? = w.heap[bt]? → W.cell? ⟨bt, 0, none⟩ = some (.pointer (some ⟨bb, 0, none⟩)) := fun W hW => by rw [cell_of_blk (hW.trans hp.head)]; rfl
  have hcop := copied_any (w := W0.drew) (hL0.below (Below.refl _ W0).drew) hn hz.count
  have hFl := hp.book.lt
  have HP := Lib.hid hp
  have HHH := Lib.hid hH
  have HP0 := Lib.hid hp0
  have HL0 := Lib.hid hL0
  have HK := Lib.hid hkeep
  have HHD := Lib.hid hhd
  have HW0 := Lib.hid hW0
  have HB0 := Lib.hid hb0
  have HN0 := Lib.hid hn0
  have HKO := Lib.hid hk
  have HZ := Lib.hid hz
  have HIN := Lib.hid hin
  have HNIL := Lib.hid hn
  have HRF := Lib.hid hRF
  have HFL := Lib.hid hFl
  have HA12 := Lib.hid hA12
  have hHeld : W0.drew.cell? ⟨bt, 0, none⟩ = some (.pointer (some ⟨bb, 0, none⟩)) ∧ W0.drew.cell? ⟨w.heap.size, 0, none⟩ = some (.int .i64 e.kind) ∧ W0.drew.cell? ⟨w.heap.size, 1, none⟩ = some (.int .i64 e.day) ∧ W0.drew.cell? ⟨w.heap.size, 2, none⟩ = some (.string e.key) ∧ W0.drew.cell? ⟨w.heap.size, 3, none⟩ = some (.string e.account) ∧ W0.drew.cell? ⟨w.heap.size, 4, none⟩ = some (.string e.other) ∧ W0.drew.cell? ⟨w.heap.size, 5, none⟩ = some (.string e.ref) ∧ W0.drew.cell? ⟨w.heap.size, 6, none⟩ = some (.string e.ref2) ∧ W0.drew.cell? ⟨w.heap.size, 7, none⟩ = some (.int .i64 e.typ) ∧ W0.drew.cell? ⟨w.heap.size, 8, none⟩ = some (.int .i64 e.due) ∧ W0.drew.cell? ⟨w.heap.size, 9, none⟩ = some (.int .i64 e.amount) ∧ W0.drew.cell? ⟨w.heap.size, 10, none⟩ = some (.string e.memo) ∧ W0.drew.cell? ⟨w.heap.size, 11, none⟩ = some (lv) := ⟨hhd _ (hb0.block bt hbl), hkeep _ rfl⟩
  obtain ⟨r, hr⟩ : ∃ r, r = checkE t.S e := ⟨_, rfl⟩
  have HRR := Lib.hid hr
  have hBl : w.heap.size < W0.heap.size := by omega
  have hbl0 : bt < W0.heap.size := by omega
  unfold evCs at HW0
  unfold evV at hcop
  unfold ptrV evV
  clear hp hH hp0 hL0 hkeep hhd hW0 hb0 hn0 hk hz hin hn hRF hFl hL hR hr hA12
  go_enter Tryz.func13, Tryz.ntmps13
  go_wp2
  rw [HW0.out]
  refine wp_region_n (n := 12) (S := fun w' => w'.cell? ⟨bt, 0, none⟩ = some (.pointer (some ⟨bb, 0, none⟩)) ∧ w'.cell? ⟨w.heap.size, 0, none⟩ = some (.int .i64 e.kind) ∧ w'.cell? ⟨w.heap.size, 1, none⟩ = some (.int .i64 e.day) ∧ w'.cell? ⟨w.heap.size, 2, none⟩ = some (.string e.key) ∧ w'.cell? ⟨w.heap.size, 3, none⟩ = some (.string e.account) ∧ w'.cell? ⟨w.heap.size, 4, none⟩ = some (.string e.other) ∧ w'.cell? ⟨w.heap.size, 5, none⟩ = some (.string e.ref) ∧ w'.cell? ⟨w.heap.size, 6, none⟩ = some (.string e.ref2) ∧ w'.cell? ⟨w.heap.size, 7, none⟩ = some (.int .i64 e.typ) ∧ w'.cell? ⟨w.heap.size, 8, none⟩ = some (.int .i64 e.due) ∧ w'.cell? ⟨w.heap.size, 9, none⟩ = some (.int .i64 e.amount) ∧ w'.cell? ⟨w.heap.size, 10, none⟩ = some (.string e.memo) ∧ w'.cell? ⟨w.heap.size, 11, none⟩ = some (lv)) (by kernel_rfl) ?_
  refine wpAnyN_take (i := 0) (v := ?_) rfl (by kernel_rfl) (by kernel_rfl) (by kernel_rfl) (by kernel_rfl) (fun _ _ _ h => h) (Or.inl ⟨by kernel_rfl, ?y1⟩) hHeld ?_
  case y1 =>
    intro w0 hSw
    (try dsimp only at hSw)
    go_simp
    try with_reducible rfl
  try simp only [Act.put, List.setIfInBounds_toArray, List.set_cons_zero, List.set_cons_succ, List.getElem_toArray, List.getElem_cons_succ, List.getElem_cons_zero]
  refine wpAnyN_take (i := 1) (v := ?_) rfl (by kernel_rfl) (by kernel_rfl) (by kernel_rfl) (by kernel_rfl) (fun _ _ _ h => h) (Or.inl ⟨by kernel_rfl, ?y2⟩) hHeld ?_
  case y2 =>
    intro w0 hSw
    (try dsimp only at hSw)
    go_simp
    try with_reducible rfl
  try simp only [Act.put, List.setIfInBounds_toArray, List.set_cons_zero, List.set_cons_succ, List.getElem_toArray, List.getElem_cons_succ, List.getElem_cons_zero]
  refine wpAnyN_take (i := 2) (v := ?_) rfl (by kernel_rfl) (by kernel_rfl) (by kernel_rfl) (by kernel_rfl) (fun _ _ _ h => h) (Or.inl ⟨by kernel_rfl, ?y3⟩) hHeld ?_
  case y3 =>
    intro w0 hSw
    (try dsimp only at hSw)
    go_simp
    try with_reducible rfl
  try simp only [Act.put, List.setIfInBounds_toArray, List.set_cons_zero, List.set_cons_succ, List.getElem_toArray, List.getElem_cons_succ, List.getElem_cons_zero]
  refine wpAnyN_take (i := 3) (v := ?_) rfl (by kernel_rfl) (by kernel_rfl) (by kernel_rfl) (by kernel_rfl) (fun _ _ _ h => h) (Or.inl ⟨by kernel_rfl, ?y4⟩) hHeld ?_
  case y4 =>
    intro w0 hSw
    (try dsimp only at hSw)
    go_simp
    try with_reducible rfl
  try simp only [Act.put, List.setIfInBounds_toArray, List.set_cons_zero, List.set_cons_succ, List.getElem_toArray, List.getElem_cons_succ, List.getElem_cons_zero]
  refine wpAnyN_take (i := 4) (v := ?_) rfl (by kernel_rfl) (by kernel_rfl) (by kernel_rfl) (by kernel_rfl) (fun _ _ _ h => h) (Or.inl ⟨by kernel_rfl, ?y5⟩) hHeld ?_
  case y5 =>
    intro w0 hSw
    (try dsimp only at hSw)
    go_simp
    try with_reducible rfl
  try simp only [Act.put, List.setIfInBounds_toArray, List.set_cons_zero, List.set_cons_succ, List.getElem_toArray, List.getElem_cons_succ, List.getElem_cons_zero]
  refine wpAnyN_step (i := 5) (by kernel_rfl) rfl (fun K hK => ?_)
  go_simp
  go_at_call 12
  refine hcop.mono ?_
  rintro en wc ⟨cv, rfl, hcv, hbc⟩
  have hbc := below_undrew hbc
  have hcv : wc.ownsRow W0.heap.size 90 3 cv e.lines.length (e.lines.map encLine).flatten := hcv
  obtain ⟨cA, cc, hcf⟩ := own_form hcv
  subst hcf
  have hkc : wc.heap[bt]? = W0.heap[bt]? := hbc.block bt hbl0
  have hkc0 := hkc.trans (HB0.out.block bt hbl)
  have hkB : wc.heap[w.heap.size]? = W0.heap[w.heap.size]? := hbc.block _ hBl
  have happ := apply_any (w := wc) (R := fun k => (Value.slice cA e.lines.length cc).ownBlock = some k) (HP0.out.book.below hbc) HKO.out.ok HZ.out HIN.out cA cc (RowAt.of_own (B := W0.heap.size) (e := 90) (by rw [List.length_map]; exact hcv) (lines_len _) fun _ e' => e') (fun k e' hf => by have h1 := (hcv.lt k e').1; have h2 := HFL.out k hf; omega)
  rw [← HRR.out] at happ
  unfold evV ptrV at happ
  have HBC := Lib.hid hbc
  have hHeld1 : wc.cell? ⟨bt, 0, none⟩ = some (.pointer (some ⟨bb, 0, none⟩)) ∧ wc.cell? ⟨w.heap.size, 0, none⟩ = some (.int .i64 e.kind) ∧ wc.cell? ⟨w.heap.size, 1, none⟩ = some (.int .i64 e.day) ∧ wc.cell? ⟨w.heap.size, 2, none⟩ = some (.string e.key) ∧ wc.cell? ⟨w.heap.size, 3, none⟩ = some (.string e.account) ∧ wc.cell? ⟨w.heap.size, 4, none⟩ = some (.string e.other) ∧ wc.cell? ⟨w.heap.size, 5, none⟩ = some (.string e.ref) ∧ wc.cell? ⟨w.heap.size, 6, none⟩ = some (.string e.ref2) ∧ wc.cell? ⟨w.heap.size, 7, none⟩ = some (.int .i64 e.typ) ∧ wc.cell? ⟨w.heap.size, 8, none⟩ = some (.int .i64 e.due) ∧ wc.cell? ⟨w.heap.size, 9, none⟩ = some (.int .i64 e.amount) ∧ wc.cell? ⟨w.heap.size, 10, none⟩ = some (.string e.memo) ∧ wc.cell? ⟨w.heap.size, 11, none⟩ = some (lv) := ⟨HHD.out _ hkc0, HK.out _ hkB⟩
  clear hcop hcv hbc
  go_wp2_with fail
  refine hK.out _ _ (fun _ => hHeld1) ?_
  clear hK K
  try simp only [Act.put, List.setIfInBounds_toArray, List.set_cons_zero, List.set_cons_succ, List.getElem_toArray, List.getElem_cons_succ, List.getElem_cons_zero]
  refine wpAnyN_step (i := 6) (by kernel_rfl) rfl (fun K hK => ?_)
  go_simp
  go_at_call 22
  refine happ.mono ?_
  rintro en wa ⟨rv1, F1, rfl, hrv1, hbk1, hch1, hnew1, hdis1⟩
  obtain ⟨m, hm⟩ : ∃ m, m = (applyR t.S e).length := ⟨_, rfl⟩
  rw [← hm] at hrv1
  obtain ⟨vA, vc, hvf⟩ := own_form hrv1
  subst hvf
  have hka : wa.heap[bt]? = w.heap[bt]? := (hch1.block bt (Nat.lt_of_lt_of_le hbl0 HBC.out.size) HP.out.bF).trans hkc0
  have hkBa : wa.heap[w.heap.size]? = W0.heap[w.heap.size]? := (hch1.block _ (Nat.lt_of_lt_of_le hBl HBC.out.size) (fun hf => by have := HFL.out _ hf; omega)).trans hkB
  have HAP := Lib.hid (And.intro hrv1 (And.intro hbk1 (And.intro hch1 (And.intro hnew1 hdis1))))
  have HMM := Lib.hid hm
  have HBA := Lib.hid hkBa
  have hHeld2 : wa.cell? ⟨bt, 0, none⟩ = some (.pointer (some ⟨bb, 0, none⟩)) ∧ wa.cell? ⟨w.heap.size, 0, none⟩ = some (.int .i64 e.kind) ∧ wa.cell? ⟨w.heap.size, 1, none⟩ = some (.int .i64 e.day) ∧ wa.cell? ⟨w.heap.size, 2, none⟩ = some (.string e.key) ∧ wa.cell? ⟨w.heap.size, 3, none⟩ = some (.string e.account) ∧ wa.cell? ⟨w.heap.size, 4, none⟩ = some (.string e.other) ∧ wa.cell? ⟨w.heap.size, 5, none⟩ = some (.string e.ref) ∧ wa.cell? ⟨w.heap.size, 6, none⟩ = some (.string e.ref2) ∧ wa.cell? ⟨w.heap.size, 7, none⟩ = some (.int .i64 e.typ) ∧ wa.cell? ⟨w.heap.size, 8, none⟩ = some (.int .i64 e.due) ∧ wa.cell? ⟨w.heap.size, 9, none⟩ = some (.int .i64 e.amount) ∧ wa.cell? ⟨w.heap.size, 10, none⟩ = some (.string e.memo) ∧ wa.cell? ⟨w.heap.size, 11, none⟩ = some (lv) := ⟨HHD.out _ hka, HK.out _ hkBa⟩
  clear happ hrv1 hbk1 hch1 hnew1 hdis1 hm
  go_wp2_with fail
  refine hK.out _ _ (fun _ => hHeld2) ?_
  clear hK K
  try simp only [Act.put, List.setIfInBounds_toArray, List.set_cons_zero, List.set_cons_succ, List.getElem_toArray, List.getElem_cons_succ, List.getElem_cons_zero]
  refine wpAnyN_take (i := 7) (v := ?_) rfl (by kernel_rfl) (by kernel_rfl) (by kernel_rfl) (by kernel_rfl) (fun _ _ _ h => h) (Or.inl ⟨by kernel_rfl, ?y6⟩) hHeld2 ?_
  case y6 =>
    intro w0 hSw
    (try dsimp only at hSw)
    go_simp
    try with_reducible rfl
  try simp only [Act.put, List.setIfInBounds_toArray, List.set_cons_zero, List.set_cons_succ, List.getElem_toArray, List.getElem_cons_succ, List.getElem_cons_zero]
  refine wpAnyN_take (i := 8) (v := ?_) rfl (by kernel_rfl) (by kernel_rfl) (by kernel_rfl) (by kernel_rfl) (fun _ _ _ h => h) (Or.inl ⟨by kernel_rfl, ?y7⟩) hHeld2 ?_
  case y7 =>
    intro w0 hSw
    (try dsimp only at hSw)
    go_simp
    try with_reducible rfl
  try simp only [Act.put, List.setIfInBounds_toArray, List.set_cons_zero, List.set_cons_succ, List.getElem_toArray, List.getElem_cons_succ, List.getElem_cons_zero]
  refine wpAnyN_take (i := 9) (v := ?_) rfl (by kernel_rfl) (by kernel_rfl) (by kernel_rfl) (by kernel_rfl) (fun _ _ _ h => h) (Or.inl ⟨by kernel_rfl, ?y8⟩) hHeld2 ?_
  case y8 =>
    intro w0 hSw
    (try dsimp only at hSw)
    go_simp
    try with_reducible rfl
  try simp only [Act.put, List.setIfInBounds_toArray, List.set_cons_zero, List.set_cons_succ, List.getElem_toArray, List.getElem_cons_succ, List.getElem_cons_zero]
  refine wpAnyN_take (i := 10) (v := ?_) rfl (by kernel_rfl) (by kernel_rfl) (by kernel_rfl) (by kernel_rfl) (fun _ _ _ h => h) (Or.inl ⟨by kernel_rfl, ?y9⟩) hHeld2 ?_
  case y9 =>
    intro w0 hSw
    (try dsimp only at hSw)
    go_simp
    try with_reducible rfl
  try simp only [Act.put, List.setIfInBounds_toArray, List.set_cons_zero, List.set_cons_succ, List.getElem_toArray, List.getElem_cons_succ, List.getElem_cons_zero]
  refine wpAnyN_take (i := 11) (v := ?_) rfl (by kernel_rfl) (by kernel_rfl) (by kernel_rfl) (by kernel_rfl) (fun _ _ _ h => h) (Or.inl ⟨by kernel_rfl, ?y10⟩) hHeld2 ?_
  case y10 =>
    intro w0 hSw
    (try dsimp only at hSw)
    go_simp
    try with_reducible rfl
  try simp only [Act.put, List.setIfInBounds_toArray, List.set_cons_zero, List.set_cons_succ, List.getElem_toArray, List.getElem_cons_succ, List.getElem_cons_zero]
  refine wpAnyN_done (by kernel_rfl) ?_ _
  have hpc := HP0.out.below HBC.out
  have hpa := hpc.book_step HAP.out.2.1 HAP.out.2.2.1 HAP.out.2.2.2.1
  have hsa := HAP.out.2.2.1.size
  have hsc := HBC.out.size
  have hown1 := HAP.out.1
  have hrvT : ∀ k, (Value.slice vA m vc).ownBlock = some k → ¬ toldH F1 G bt (.slice tA t.T.length tc) (.slice rA t.S.rows.length rc) k ∧ wc.heap.size ≤ k ∧ k < wa.heap.size := fun k e' => by
    have hl := hown1.lt k e'
    refine ⟨fun hh => ?_, hl⟩
    have h9 := HP0.out.lt
    rcases hh with h1 | h1 | h1 | h1 | h1
    · exact HAP.out.2.2.2.2 k e' h1
    · have := h9 k (.inr (.inl h1)); omega
    · omega
    · have := h9 k (.inr (.inr (.inr (.inl h1)))); omega
    · have := h9 k (.inr (.inr (.inr (.inr h1)))); omega
  have hChH : Ch H w wa := ((Ch.of_below HB0.out).below HBC.out).trans HAP.out.2.2.1 fun k hf => .inl ((HHH.out k).2 (.inl hf))
  have hnewH : ∀ k, toldH F1 G bt (.slice tA t.T.length tc) (.slice rA t.S.rows.length rc) k → H k ∨ (w.heap.size ≤ k ∧ k < wa.heap.size) := fun k hh => by
    rcases hh with h1 | h1
    · rcases HAP.out.2.2.2.1 k h1 with h2 | h2
      · exact .inl ((HHH.out k).2 (.inl h2))
      · exact .inr ⟨by omega, h2.2⟩
    · exact .inl ((HHH.out k).2 (.inr h1))
  have HPA := Lib.hid hpa
  have HRVT := Lib.hid hrvT
  have HCHH := Lib.hid hChH
  have HNH := Lib.hid hnewH
  have hbla : bt < wa.heap.size := by omega
  have hBla : w.heap.size < wa.heap.size := by omega
  clear hpc hpa hown1 hrvT hChH hnewH hHeld hHeld2
  by_cases hr0 : r = 0
  · subst hr0
    have hc := HRR.out.symm
    have hwin := HA12.out hc
    have hap0 : applyR t.S e = rowsOf t.S e := by unfold applyR; rw [if_pos hc]
    have htell : tellF t e = ⟨applyS t.S e, t.T ++ [e]⟩ := tellF_yes hc
    have hml : m ≤ 12 := by rw [HMM.out, hap0]; exact hwin
    have HC := Lib.hid hc
    have HTL := Lib.hid htell
    have HAP0 := Lib.hid hap0
    clear hc htell hap0 hwin
    go_wp2_with (go_at_call 20; refine (num_any _ _).mono ?_; rintro en w' ⟨rfl, hw'⟩; obtain rfl := hw'.symm)
    have hhda : ∀ W : World, W.heap[bt]? = wa.heap[bt]? → W.cell? ⟨bt, 1, none⟩ = some (.slice tA t.T.length tc) ∧ W.cell? ⟨bt, 2, none⟩ = some (.slice rA t.S.rows.length rc) ∧ W.frozen? ⟨bt, 1, none⟩ = false ∧ W.frozen? ⟨bt, 2, none⟩ = false := fun W hW =>
      ⟨by rw [cell_of_blk (hW.trans HPA.out.head)]; rfl, by rw [cell_of_blk (hW.trans HPA.out.head)]; rfl, frozen_blk (hW.trans HPA.out.head) 1, frozen_blk (hW.trans HPA.out.head) 2⟩
    have HHDA := Lib.hid hhda
    have hLa : LinesAt wa R lv e.lines := (HL0.out.below HBC.out).ch HAP.out.2.2.1 HRF.out
    have hcop2 := copied_any (w := wa.drew) (hLa.below (Below.refl _ wa).drew) HNIL.out HZ.out.count
    have hHeld4 : wa.drew.cell? ⟨bt, 1, none⟩ = some (.slice tA t.T.length tc) ∧ wa.drew.cell? ⟨w.heap.size, 0, none⟩ = some (.int .i64 e.kind) ∧ wa.drew.cell? ⟨w.heap.size, 1, none⟩ = some (.int .i64 e.day) ∧ wa.drew.cell? ⟨w.heap.size, 2, none⟩ = some (.string e.key) ∧ wa.drew.cell? ⟨w.heap.size, 3, none⟩ = some (.string e.account) ∧ wa.drew.cell? ⟨w.heap.size, 4, none⟩ = some (.string e.other) ∧ wa.drew.cell? ⟨w.heap.size, 5, none⟩ = some (.string e.ref) ∧ wa.drew.cell? ⟨w.heap.size, 6, none⟩ = some (.string e.ref2) ∧ wa.drew.cell? ⟨w.heap.size, 7, none⟩ = some (.int .i64 e.typ) ∧ wa.drew.cell? ⟨w.heap.size, 8, none⟩ = some (.int .i64 e.due) ∧ wa.drew.cell? ⟨w.heap.size, 9, none⟩ = some (.int .i64 e.amount) ∧ wa.drew.cell? ⟨w.heap.size, 10, none⟩ = some (.string e.memo) ∧ wa.drew.cell? ⟨w.heap.size, 11, none⟩ = some (lv) := ⟨(hhda wa.drew rfl).1, HK.out wa.drew HBA.out⟩
    have HOT := Lib.hid HPA.out.taken
    unfold evV at hcop2
    clear hhda hLa
    refine wp_region_n (n := 11) (S := fun w' => w'.cell? ⟨bt, 1, none⟩ = some (.slice tA t.T.length tc) ∧ w'.cell? ⟨w.heap.size, 0, none⟩ = some (.int .i64 e.kind) ∧ w'.cell? ⟨w.heap.size, 1, none⟩ = some (.int .i64 e.day) ∧ w'.cell? ⟨w.heap.size, 2, none⟩ = some (.string e.key) ∧ w'.cell? ⟨w.heap.size, 3, none⟩ = some (.string e.account) ∧ w'.cell? ⟨w.heap.size, 4, none⟩ = some (.string e.other) ∧ w'.cell? ⟨w.heap.size, 5, none⟩ = some (.string e.ref) ∧ w'.cell? ⟨w.heap.size, 6, none⟩ = some (.string e.ref2) ∧ w'.cell? ⟨w.heap.size, 7, none⟩ = some (.int .i64 e.typ) ∧ w'.cell? ⟨w.heap.size, 8, none⟩ = some (.int .i64 e.due) ∧ w'.cell? ⟨w.heap.size, 9, none⟩ = some (.int .i64 e.amount) ∧ w'.cell? ⟨w.heap.size, 10, none⟩ = some (.string e.memo) ∧ w'.cell? ⟨w.heap.size, 11, none⟩ = some (lv)) (by kernel_rfl) ?_
    refine wpAnyN_take (i := 0) (v := ?_) rfl (by kernel_rfl) (by kernel_rfl) (by kernel_rfl) (by kernel_rfl) (fun _ _ _ h => h) (Or.inl ⟨by kernel_rfl, ?y11⟩) hHeld4 ?_
    case y11 =>
      intro w0 hSw
      (try dsimp only at hSw)
      go_simp
      try with_reducible rfl
    try simp only [Act.put, List.setIfInBounds_toArray, List.set_cons_zero, List.set_cons_succ, List.getElem_toArray, List.getElem_cons_succ, List.getElem_cons_zero]
    refine wpAnyN_take (i := 1) (v := ?_) rfl (by kernel_rfl) (by kernel_rfl) (by kernel_rfl) (by kernel_rfl) (fun _ _ _ h => h) (Or.inl ⟨by kernel_rfl, ?y12⟩) hHeld4 ?_
    case y12 =>
      intro w0 hSw
      (try dsimp only at hSw)
      go_simp
      try with_reducible rfl
    try simp only [Act.put, List.setIfInBounds_toArray, List.set_cons_zero, List.set_cons_succ, List.getElem_toArray, List.getElem_cons_succ, List.getElem_cons_zero]
    refine wpAnyN_take (i := 2) (v := ?_) rfl (by kernel_rfl) (by kernel_rfl) (by kernel_rfl) (by kernel_rfl) (fun _ _ _ h => h) (Or.inl ⟨by kernel_rfl, ?y13⟩) hHeld4 ?_
    case y13 =>
      intro w0 hSw
      (try dsimp only at hSw)
      go_simp
      try with_reducible rfl
    try simp only [Act.put, List.setIfInBounds_toArray, List.set_cons_zero, List.set_cons_succ, List.getElem_toArray, List.getElem_cons_succ, List.getElem_cons_zero]
    refine wpAnyN_take (i := 3) (v := ?_) rfl (by kernel_rfl) (by kernel_rfl) (by kernel_rfl) (by kernel_rfl) (fun _ _ _ h => h) (Or.inl ⟨by kernel_rfl, ?y14⟩) hHeld4 ?_
    case y14 =>
      intro w0 hSw
      (try dsimp only at hSw)
      go_simp
      try with_reducible rfl
    try simp only [Act.put, List.setIfInBounds_toArray, List.set_cons_zero, List.set_cons_succ, List.getElem_toArray, List.getElem_cons_succ, List.getElem_cons_zero]
    refine wpAnyN_take (i := 4) (v := ?_) rfl (by kernel_rfl) (by kernel_rfl) (by kernel_rfl) (by kernel_rfl) (fun _ _ _ h => h) (Or.inl ⟨by kernel_rfl, ?y15⟩) hHeld4 ?_
    case y15 =>
      intro w0 hSw
      (try dsimp only at hSw)
      go_simp
      try with_reducible rfl
    try simp only [Act.put, List.setIfInBounds_toArray, List.set_cons_zero, List.set_cons_succ, List.getElem_toArray, List.getElem_cons_succ, List.getElem_cons_zero]
    refine wpAnyN_take (i := 5) (v := ?_) rfl (by kernel_rfl) (by kernel_rfl) (by kernel_rfl) (by kernel_rfl) (fun _ _ _ h => h) (Or.inl ⟨by kernel_rfl, ?y16⟩) hHeld4 ?_
    case y16 =>
      intro w0 hSw
      (try dsimp only at hSw)
      go_simp
      try with_reducible rfl
    try simp only [Act.put, List.setIfInBounds_toArray, List.set_cons_zero, List.set_cons_succ, List.getElem_toArray, List.getElem_cons_succ, List.getElem_cons_zero]
    refine wpAnyN_step (i := 6) (by kernel_rfl) rfl (fun K hK => ?_)
    go_simp
    go_at_call 12
    refine hcop2.mono ?_
    rintro en wc2 ⟨cv2, rfl, hcv2, hbc2⟩
    have hbc2 := below_undrew hbc2
    have hcv2 : wc2.ownsRow wa.heap.size 90 3 cv2 e.lines.length (e.lines.map encLine).flatten := hcv2
    obtain ⟨dA, dc, hdf⟩ := own_form hcv2
    subst hdf
    have hkc2 : wc2.heap[bt]? = wa.heap[bt]? := hbc2.block bt hbla
    have hkB2 : wc2.heap[w.heap.size]? = W0.heap[w.heap.size]? := (hbc2.block _ hBla).trans HBA.out
    have HBC2 := Lib.hid hbc2
    have HCV2 := Lib.hid hcv2
    have hHeld5 : wc2.cell? ⟨bt, 1, none⟩ = some (.slice tA t.T.length tc) ∧ wc2.cell? ⟨w.heap.size, 0, none⟩ = some (.int .i64 e.kind) ∧ wc2.cell? ⟨w.heap.size, 1, none⟩ = some (.int .i64 e.day) ∧ wc2.cell? ⟨w.heap.size, 2, none⟩ = some (.string e.key) ∧ wc2.cell? ⟨w.heap.size, 3, none⟩ = some (.string e.account) ∧ wc2.cell? ⟨w.heap.size, 4, none⟩ = some (.string e.other) ∧ wc2.cell? ⟨w.heap.size, 5, none⟩ = some (.string e.ref) ∧ wc2.cell? ⟨w.heap.size, 6, none⟩ = some (.string e.ref2) ∧ wc2.cell? ⟨w.heap.size, 7, none⟩ = some (.int .i64 e.typ) ∧ wc2.cell? ⟨w.heap.size, 8, none⟩ = some (.int .i64 e.due) ∧ wc2.cell? ⟨w.heap.size, 9, none⟩ = some (.int .i64 e.amount) ∧ wc2.cell? ⟨w.heap.size, 10, none⟩ = some (.string e.memo) ∧ wc2.cell? ⟨w.heap.size, 11, none⟩ = some (lv) := ⟨(HHDA.out _ hkc2).1, HK.out _ hkB2⟩
    have HOW := Lib.hid (World.ownsRow.alloc (w := wc2) (own_below HOT.out hbc2) (.cells #[.int .i64 e.kind, .int .i64 e.day, .string e.key, .string e.account, .string e.other, .string e.ref, .string e.ref2, .int .i64 e.typ, .int .i64 e.due, .int .i64 e.amount, .string e.memo, .slice dA e.lines.length dc] 25))
    have hHeld6 : ∀ o, (wc2.alloc o).cell? ⟨bt, 1, none⟩ = some (.slice tA t.T.length tc) ∧ (wc2.alloc o).cell? ⟨w.heap.size, 0, none⟩ = some (.int .i64 e.kind) ∧ (wc2.alloc o).cell? ⟨w.heap.size, 1, none⟩ = some (.int .i64 e.day) ∧ (wc2.alloc o).cell? ⟨w.heap.size, 2, none⟩ = some (.string e.key) ∧ (wc2.alloc o).cell? ⟨w.heap.size, 3, none⟩ = some (.string e.account) ∧ (wc2.alloc o).cell? ⟨w.heap.size, 4, none⟩ = some (.string e.other) ∧ (wc2.alloc o).cell? ⟨w.heap.size, 5, none⟩ = some (.string e.ref) ∧ (wc2.alloc o).cell? ⟨w.heap.size, 6, none⟩ = some (.string e.ref2) ∧ (wc2.alloc o).cell? ⟨w.heap.size, 7, none⟩ = some (.int .i64 e.typ) ∧ (wc2.alloc o).cell? ⟨w.heap.size, 8, none⟩ = some (.int .i64 e.due) ∧ (wc2.alloc o).cell? ⟨w.heap.size, 9, none⟩ = some (.int .i64 e.amount) ∧ (wc2.alloc o).cell? ⟨w.heap.size, 10, none⟩ = some (.string e.memo) ∧ (wc2.alloc o).cell? ⟨w.heap.size, 11, none⟩ = some (lv) := fun o => ⟨(HHDA.out _ ((Below.heap_alloc wc2 o bt (Nat.lt_of_lt_of_le hbla hbc2.size)).trans hkc2)).1, HK.out _ ((Below.heap_alloc wc2 o _ (Nat.lt_of_lt_of_le hBla hbc2.size)).trans hkB2)⟩
    clear hcop2 hcv2 hbc2
    go_wp2_with fail
    refine hK.out _ _ (fun _ => hHeld5) ?_
    clear hK K
    try simp only [Act.put, List.setIfInBounds_toArray, List.set_cons_zero, List.set_cons_succ, List.getElem_toArray, List.getElem_cons_succ, List.getElem_cons_zero]
    refine wpAnyN_step (i := 7) (by kernel_rfl) rfl (fun K hK => ?_)
    go_simp
    refine hK.out _ _ (fun _ => hHeld6 _) ?_
    clear hK K
    try simp only [Act.put, List.setIfInBounds_toArray, List.set_cons_zero, List.set_cons_succ, List.getElem_toArray, List.getElem_cons_succ, List.getElem_cons_zero]
    refine wpAnyN_step (i := 8) (by kernel_rfl) rfl (fun K hK => ?_)
    refine step_append_lies _ rfl _ _ 22 rfl 0 25 ie (.agg #[.int .i64 0, .int .i64 0, .string ByteArray.empty, .string ByteArray.empty, .string ByteArray.empty, .string ByteArray.empty, .string ByteArray.empty, .int .i64 0, .int .i64 0, .int .i64 0, .string ByteArray.empty, .slice none 0 0]) 12 160 Tryz.underlying22 hie hez0 hez1 hez2 rfl (by decide) (.slice tA t.T.length tc) t.T.length _ (by simp [Act.eval, Act.put]) HOW.out ⟨wc2.heap.size, 0, none⟩ 1 1 (evCs e (.slice dA e.lines.length dc)).toList (by simp [Act.eval, Act.put]) rfl (World.news_of_block (World.alloc_heap_new wc2 _)) (ev_one _ _ _ _) (by decide) (by unfold maxLen; omega) (by omega) (Nat.zero_le _) _ rfl ?_
    intro g cap w4 hown4 hgrow4 hat4 hlt4
    have hk4 : ∀ k, k < wc2.heap.size → (Value.slice tA t.T.length tc).ownBlock ≠ some k → w4.heap[k]? = wc2.heap[k]? := fun k hk hn => (hgrow4.block k (by simp; omega) fun e' => hn e'.symm).trans (Below.heap_alloc wc2 _ k hk)
    have hbt4 : w4.heap[bt]? = wa.heap[bt]? := (hk4 bt (Nat.lt_of_lt_of_le hbla HBC2.out.size) fun e' => (HPA.out.TF bt e').2.2 rfl).trans hkc2
    have hB4 : w4.heap[w.heap.size]? = W0.heap[w.heap.size]? := (hk4 _ (Nat.lt_of_lt_of_le hBla HBC2.out.size) fun e' => by have := HP.out.lt w.heap.size (.inr (.inr (.inr (.inl e')))); omega).trans hkB2
    obtain ⟨q1, _, f1, _⟩ := HHDA.out w4 hbt4
    have hHeld7 : w4.cell? ⟨bt, 1, none⟩ = some (.slice tA t.T.length tc) ∧ w4.cell? ⟨w.heap.size, 0, none⟩ = some (.int .i64 e.kind) ∧ w4.cell? ⟨w.heap.size, 1, none⟩ = some (.int .i64 e.day) ∧ w4.cell? ⟨w.heap.size, 2, none⟩ = some (.string e.key) ∧ w4.cell? ⟨w.heap.size, 3, none⟩ = some (.string e.account) ∧ w4.cell? ⟨w.heap.size, 4, none⟩ = some (.string e.other) ∧ w4.cell? ⟨w.heap.size, 5, none⟩ = some (.string e.ref) ∧ w4.cell? ⟨w.heap.size, 6, none⟩ = some (.string e.ref2) ∧ w4.cell? ⟨w.heap.size, 7, none⟩ = some (.int .i64 e.typ) ∧ w4.cell? ⟨w.heap.size, 8, none⟩ = some (.int .i64 e.due) ∧ w4.cell? ⟨w.heap.size, 9, none⟩ = some (.int .i64 e.amount) ∧ w4.cell? ⟨w.heap.size, 10, none⟩ = some (.string e.memo) ∧ w4.cell? ⟨w.heap.size, 11, none⟩ = some (lv) := ⟨q1, HK.out _ hB4⟩
    have H4 := Lib.hid (And.intro hown4 (And.intro hgrow4 (And.intro hat4 (And.intro hlt4 hk4))))
    clear hown4 hgrow4 hat4 hlt4 hk4 hHeld6
    refine hK.out _ _ (fun _ => hHeld7) ?_
    clear hK K
    try simp only [Act.put, List.setIfInBounds_toArray, List.set_cons_zero, List.set_cons_succ, List.getElem_toArray, List.getElem_cons_succ, List.getElem_cons_zero]
    refine wpAnyN_step (i := 9) (by kernel_rfl) rfl (fun K hK => ?_)
    go_simp
    refine hK.out _ _ (fun _ => hHeld7) ?_
    clear hK K
    try simp only [Act.put, List.setIfInBounds_toArray, List.set_cons_zero, List.set_cons_succ, List.getElem_toArray, List.getElem_cons_succ, List.getElem_cons_zero]
    refine wpAnyN_step (i := 10) (by kernel_rfl) rfl (fun K hK => ?_)
    go_simp
    refine hK.out _ _ (fun _ => hHeld7) ?_
    clear hK K
    try simp only [Act.put, List.setIfInBounds_toArray, List.set_cons_zero, List.set_cons_succ, List.getElem_toArray, List.getElem_cons_succ, List.getElem_cons_zero]
    refine wpAnyN_step (i := 11) (by kernel_rfl) rfl (fun K hK => ?_)
    go_simp
    refine hK.out _ _ (fun h => absurd h (by decide)) ?_
    clear hK K
    try simp only [Act.put, List.setIfInBounds_toArray, List.set_cons_zero, List.set_cons_succ, List.getElem_toArray, List.getElem_cons_succ, List.getElem_cons_zero]
    refine wpAnyN_done (by kernel_rfl) ?_ _
    obtain ⟨hown4, hgrow4, hat4, hlt4, hk4⟩ := H4.out
    have hHV := heap_setCell_same (i := 1) (hbt4.trans HPA.out.head) (.slice (some ⟨g, 0, none⟩) (t.T.length + 1) cap)
    have hkV : ∀ k, k ≠ bt → (w4.setCell ⟨bt, 1, none⟩ (.slice (some ⟨g, 0, none⟩) (t.T.length + 1) cap)).heap[k]? = w4.heap[k]? := fun k hk => Below.heap_setCell _ _ _ _ hk
    have hsV : (w4.setCell ⟨bt, 1, none⟩ (.slice (some ⟨g, 0, none⟩) (t.T.length + 1) cap)).heap.size = w4.heap.size := by simp [World.setCell]
    have hcV := ((((Ch.refl (fun k => k = bt ∨ (Value.slice tA t.T.length tc).ownBlock = some k ∨ (Value.slice rA t.S.rows.length rc).ownBlock = some k) wa).below HBC2.out).alloc (.cells #[.int .i64 e.kind, .int .i64 e.day, .string e.key, .string e.account, .string e.other, .string e.ref, .string e.ref2, .int .i64 e.typ, .int .i64 e.due, .int .i64 e.amount, .string e.memo, .slice dA e.lines.length dc] 25)).grown hgrow4 fun k hk => .inl (.inr (.inl hk))).setCell (p := ⟨bt, 1, none⟩) (.inl (.inl rfl)) (.slice (some ⟨g, 0, none⟩) (t.T.length + 1) cap)
    generalize w4.setCell ⟨bt, 1, none⟩ (.slice (some ⟨g, 0, none⟩) (t.T.length + 1) cap) = V at hHV hkV hsV hcV ⊢
    have hs2 := HBC2.out.size
    have hs4 := hgrow4.size
    rw [World.size_alloc] at hs4
    have htvlt : ∀ k, (Value.slice tA t.T.length tc).ownBlock = some k → k < w.heap.size ∧ k ≠ bt := fun k e' => ⟨HP.out.lt k (.inr (.inr (.inr (.inl e')))), (HP.out.TF k e').2.2⟩
    have hrvlt : ∀ k, (Value.slice rA t.S.rows.length rc).ownBlock = some k → k < w.heap.size ∧ k ≠ bt := fun k e' => ⟨HP.out.lt k (.inr (.inr (.inr (.inr e')))), (HP.out.RF k e').2.2.1⟩
    have hgw : (Value.slice tA t.T.length tc).ownBlock = some g ∨ wc2.heap.size ≤ g := by
      rcases hat4 with h | h
      · exact .inl h
      · right; subst h; simp
    have hgb : g ≠ bt := fun e' => by
      rcases hgw with h | h
      · exact (htvlt g h).2 e'
      · omega
    have hkk : ∀ k, k < wa.heap.size → k ≠ bt → (Value.slice tA t.T.length tc).ownBlock ≠ some k → V.heap[k]? = wa.heap[k]? := fun k hk hn ho => (hkV k hn).trans ((hk4 k (by omega) ho).trans (HBC2.out.block k hk))
    have hcvl : ∀ k, (Value.slice dA e.lines.length dc).ownBlock = some k → wa.heap.size ≤ k ∧ k < wc2.heap.size := fun k e' => HCV2.out.lt k e'
    have hpV := HPA.out.take_step (W := V) e ⟨HZ.out, HIN.out⟩ (cv := .slice dA e.lines.length dc) (g := g) (cap := cap) (by omega) hkk hHV
      (ownsRow_keep hown4 fun k e' => hkV k (by obtain rfl : k = g := (Option.some.inj e').symm; exact hgb))
      (hgw.imp id (by intro h; omega))
      (ownsRow_keep HCV2.out fun k e' => (hkV k (by have := hcvl k e'; omega)).trans (hk4 k (hcvl k e').2 fun e'' => by have := htvlt k e''; have := hcvl k e'; omega))
      (fun e' => by have h1 := hcvl g e'; rcases hgw with h | h; have := htvlt g h; omega; omega)
    have hrv1V := ownsRow_keep (w' := V) HAP.out.1 fun k e' => by
      have h1 := HRVT.out k e'
      exact hkk k h1.2.2 (fun e'' => h1.1 (.inr (.inr (.inl e'')))) fun e'' => h1.1 (.inr (.inr (.inr (.inl e''))))
    have hV2 : ∀ W : World, W.heap[bt]? = V.heap[bt]? → W.cell? ⟨bt, 2, none⟩ = some (.slice rA t.S.rows.length rc) ∧ W.frozen? ⟨bt, 2, none⟩ = false := fun W hW =>
      ⟨by rw [cell_of_blk (hW.trans hpV.head)]; rfl, frozen_blk (hW.trans hpV.head) 2⟩
    have hbV : bt < V.heap.size := by omega
    have HV2 := Lib.hid hV2
    have HPV := Lib.hid hpV
    have HRV1 := Lib.hid hrv1V
    have HHV := Lib.hid hHV
    have HCV := Lib.hid hcV
    have HGW := Lib.hid hgw
    have HGB := Lib.hid hgb
    have HCVL := Lib.hid hcvl
    have HTL2 := Lib.hid htvlt
    have HRL2 := Lib.hid hrvlt
    have hwaV : wc2.heap.size ≤ V.heap.size := by omega
    have hgl : g < V.heap.size := by omega
    have hHeldV : V.drew.cell? ⟨bt, 2, none⟩ = some (.slice rA t.S.rows.length rc) := (hV2 V.drew rfl).1
    clear hown4 hgrow4 hat4 hlt4 hk4 H4 hHV hkV hsV hcV htvlt hrvlt hgw hgb hkk hcvl hpV hrv1V hV2 hHeld4 hHeld5 hHeld7 hbt4 hB4 q1 f1 HOW HOT hs4 hkc2 hkB2
    go_wp2
    refine wp_region_n (n := 10) (S := fun w' => w'.cell? ⟨bt, 2, none⟩ = some (.slice rA t.S.rows.length rc)) (by kernel_rfl) ?_
    refine wpAnyN_take (i := 0) (v := ?_) rfl (by kernel_rfl) (by kernel_rfl) (by kernel_rfl) (by kernel_rfl) (fun _ _ _ h => h) (Or.inl ⟨by kernel_rfl, ?y17⟩) hHeldV ?_
    case y17 =>
      intro w0 hSw
      (try dsimp only at hSw)
      go_simp
      try with_reducible rfl
    try simp only [Act.put, List.setIfInBounds_toArray, List.set_cons_zero, List.set_cons_succ, List.getElem_toArray, List.getElem_cons_succ, List.getElem_cons_zero]
    refine wpAnyN_take (i := 1) (v := ?_) rfl (by kernel_rfl) (by kernel_rfl) (by kernel_rfl) (by kernel_rfl) (fun _ _ _ h => h) (Or.inl ⟨by kernel_rfl, ?y18⟩) hHeldV ?_
    case y18 =>
      intro w0 hSw
      (try dsimp only at hSw)
      go_simp
      try with_reducible rfl
    try simp only [Act.put, List.setIfInBounds_toArray, List.set_cons_zero, List.set_cons_succ, List.getElem_toArray, List.getElem_cons_succ, List.getElem_cons_zero]
    refine wpAnyN_take (i := 2) (v := ?_) rfl (by kernel_rfl) (by kernel_rfl) (by kernel_rfl) (by kernel_rfl) (fun _ _ _ h => h) (Or.inl ⟨by kernel_rfl, ?y19⟩) hHeldV ?_
    case y19 =>
      intro w0 hSw
      (try dsimp only at hSw)
      go_simp
      try with_reducible rfl
    try simp only [Act.put, List.setIfInBounds_toArray, List.set_cons_zero, List.set_cons_succ, List.getElem_toArray, List.getElem_cons_succ, List.getElem_cons_zero]
    refine wpAnyN_take (i := 3) (v := ?_) rfl (by kernel_rfl) (by kernel_rfl) (by kernel_rfl) (by kernel_rfl) (fun _ _ _ h => h) (Or.inl ⟨by kernel_rfl, ?y20⟩) hHeldV ?_
    case y20 =>
      intro w0 hSw
      (try dsimp only at hSw)
      go_simp
      try with_reducible rfl
    try simp only [Act.put, List.setIfInBounds_toArray, List.set_cons_zero, List.set_cons_succ, List.getElem_toArray, List.getElem_cons_succ, List.getElem_cons_zero]
    refine wpAnyN_take (i := 4) (v := ?_) rfl (by kernel_rfl) (by kernel_rfl) (by kernel_rfl) (by kernel_rfl) (fun _ _ _ h => h) (Or.inl ⟨by kernel_rfl, ?y21⟩) hHeldV ?_
    case y21 =>
      intro w0 hSw
      (try dsimp only at hSw)
      go_simp
      try with_reducible rfl
    try simp only [Act.put, List.setIfInBounds_toArray, List.set_cons_zero, List.set_cons_succ, List.getElem_toArray, List.getElem_cons_succ, List.getElem_cons_zero]
    refine wpAnyN_take (i := 5) (v := ?_) rfl (by kernel_rfl) (by kernel_rfl) (by kernel_rfl) (by kernel_rfl) (fun _ _ _ h => h) (Or.inl ⟨by kernel_rfl, ?y22⟩) hHeldV ?_
    case y22 =>
      intro w0 hSw
      (try dsimp only at hSw)
      go_simp
      try with_reducible rfl
    try simp only [Act.put, List.setIfInBounds_toArray, List.set_cons_zero, List.set_cons_succ, List.getElem_toArray, List.getElem_cons_succ, List.getElem_cons_zero]
    refine wpAnyN_step (i := 6) (by kernel_rfl) rfl (fun K hK => ?_)
    refine step_append_row rfl _ _ 29 rfl wa.heap.size 39 ip (.agg #[.int .i64 0, .int .i64 0, .int .i64 0, .int .i64 0, .string ByteArray.empty, .string ByteArray.empty, .int .i64 0, .string ByteArray.empty, .string ByteArray.empty]) 9 104 Tryz.underlying29 hip hpz0 hpz1 hpz2 rfl (by decide) (.slice none 0 0) 0 [] (by simp [Act.eval]) (World.ownsRow_nil _ _ _ _) (.slice vA m vc) ((applyR t.S e).map encPost) (by simp [Act.eval, Act.put]) (row_posts' HMM.out HRV1.out) (NilOk.own HRV1.out) (posts_len _) (posts_one _) (by rw [List.length_map, ← HMM.out]; unfold maxLen; omega) (by rw [List.length_map, ← HMM.out]; omega) (by show wa.heap.size ≤ V.heap.size; omega) ?_
    intro v6 w6 hown6 hgrow6 hat6
    have hown6 : w6.ownsRow wa.heap.size 39 9 v6 (applyR t.S e).length ((applyR t.S e).map encPost).flatten := by simpa using hown6
    obtain ⟨sA, sc, hs6f⟩ := own_form hown6
    subst hs6f
    have hbt6 : w6.heap[bt]? = V.heap[bt]? := hgrow6.block bt hbV (by simp [Value.ownBlock])
    have hHeld8 : w6.cell? ⟨bt, 2, none⟩ = some (.slice rA t.S.rows.length rc) := (HV2.out _ hbt6).1
    have HOW6 := Lib.hid (ownsRow_keep (w' := w6) HPV.out.rows fun k e' => hgrow6.block k (by have := (HPV.out.rows.lt k e').2; exact this) (by simp [Value.ownBlock]))
    have HG6 := Lib.hid hgrow6
    have HO6 := Lib.hid hown6
    clear hown6 hgrow6 hat6
    refine hK.out _ _ (fun _ => hHeld8) ?_
    clear hK K
    try simp only [Act.put, List.setIfInBounds_toArray, List.set_cons_zero, List.set_cons_succ, List.getElem_toArray, List.getElem_cons_succ, List.getElem_cons_zero]
    refine wpAnyN_step (i := 7) (by kernel_rfl) rfl (fun K hK => ?_)
    refine step_append_row rfl _ _ 29 rfl 0 39 ip (.agg #[.int .i64 0, .int .i64 0, .int .i64 0, .int .i64 0, .string ByteArray.empty, .string ByteArray.empty, .int .i64 0, .string ByteArray.empty, .string ByteArray.empty]) 9 104 Tryz.underlying29 hip hpz0 hpz1 hpz2 rfl (by decide) (.slice rA t.S.rows.length rc) t.S.rows.length _ (by simp [Act.eval, Act.put]) HOW6.out (.slice sA (applyR t.S e).length sc) ((applyR t.S e).map encPost) (by simp [Act.eval, Act.put]) (row_posts HO6.out) (NilOk.own HO6.out) (posts_len _) (posts_one _) (by rw [List.length_map, ← HMM.out]; unfold maxLen; omega) (by rw [List.length_map, ← HMM.out]; omega) (Nat.zero_le _) ?_
    intro v7 w7 hown7 hgrow7 hat7
    have hown7 : w7.ownsRow 0 39 9 v7 (t.S.rows.length + (applyR t.S e).length) ((t.S.rows.map encPost).flatten ++ ((applyR t.S e).map encPost).flatten) := by simpa using hown7
    obtain ⟨uA, uc, hu7⟩ := own_form hown7
    subst hu7
    have hbt7 : w7.heap[bt]? = V.heap[bt]? := (hgrow7.block bt (Nat.lt_of_lt_of_le hbV HG6.out.size) (fun e' => (HRL2.out bt e'.symm).2 rfl)).trans hbt6
    have hHeld9 : w7.cell? ⟨bt, 2, none⟩ = some (.slice rA t.S.rows.length rc) := (HV2.out _ hbt7).1
    have f27 := (HV2.out _ hbt7).2
    have H7 := Lib.hid (And.intro hown7 (And.intro hgrow7 hat7))
    clear hown7 hgrow7 hat7
    refine hK.out _ _ (fun _ => hHeld9) ?_
    clear hK K
    try simp only [Act.put, List.setIfInBounds_toArray, List.set_cons_zero, List.set_cons_succ, List.getElem_toArray, List.getElem_cons_succ, List.getElem_cons_zero]
    refine wpAnyN_step (i := 8) (by kernel_rfl) rfl (fun K hK => ?_)
    go_simp
    refine hK.out _ _ (fun _ => hHeld9) ?_
    clear hK K
    try simp only [Act.put, List.setIfInBounds_toArray, List.set_cons_zero, List.set_cons_succ, List.getElem_toArray, List.getElem_cons_succ, List.getElem_cons_zero]
    refine wpAnyN_step (i := 9) (by kernel_rfl) rfl (fun K hK => ?_)
    go_simp
    refine hK.out _ _ (fun _ => hHeld9) ?_
    clear hK K
    try simp only [Act.put, List.setIfInBounds_toArray, List.set_cons_zero, List.set_cons_succ, List.getElem_toArray, List.getElem_cons_succ, List.getElem_cons_zero]
    refine wpAnyN_step (i := 10) (by kernel_rfl) rfl (fun K hK => ?_)
    go_simp
    refine hK.out _ _ (fun h => absurd h (by decide)) ?_
    clear hK K
    try simp only [Act.put, List.setIfInBounds_toArray, List.set_cons_zero, List.set_cons_succ, List.getElem_toArray, List.getElem_cons_succ, List.getElem_cons_zero]
    refine wpAnyN_done (by kernel_rfl) ?_ _
    obtain ⟨hown7, hgrow7, hat7⟩ := H7.out
    have hH9 := heap_setCell_same (i := 2) (hbt7.trans HPV.out.head) (.slice uA (t.S.rows.length + (applyR t.S e).length) uc)
    have hk9 : ∀ k, k ≠ bt → (w7.setCell ⟨bt, 2, none⟩ (.slice uA (t.S.rows.length + (applyR t.S e).length) uc)).heap[k]? = w7.heap[k]? := fun k hk => Below.heap_setCell _ _ _ _ hk
    have hs9 : (w7.setCell ⟨bt, 2, none⟩ (.slice uA (t.S.rows.length + (applyR t.S e).length) uc)).heap.size = w7.heap.size := by simp [World.setCell]
    have hc6 := HCV.out.drew.grown HG6.out fun k hk => by cases hk
    have hc7 := hc6.grown hgrow7 fun k hk => Or.inl (Or.inr (Or.inr hk))
    have hc9 := hc7.setCell (p := ⟨bt, 2, none⟩) (Or.inl (Or.inl rfl)) (.slice uA (t.S.rows.length + (applyR t.S e).length) uc)
    generalize w7.setCell ⟨bt, 2, none⟩ (.slice uA (t.S.rows.length + (applyR t.S e).length) uc) = V9 at hH9 hk9 hs9 hc9 ⊢
    go_wp2
    go_ret2
    have hs6 := HG6.out.size
    have hs7 := hgrow7.size
    have hs6' : V.heap.size ≤ w6.heap.size := hs6
    have hk6 : ∀ k, k < V.heap.size → w6.heap[k]? = V.heap[k]? := fun k hk => HG6.out.block k hk (by simp [Value.ownBlock])
    have hk79 : ∀ k, k < V.heap.size → k ≠ bt → (Value.slice rA t.S.rows.length rc).ownBlock ≠ some k → V9.heap[k]? = V.heap[k]? := fun k hk hn ho => ((hk9 k hn).trans (hgrow7.block k (by omega) fun e' => ho e'.symm)).trans (hk6 k hk)
    have hg7 : ∀ k, (Value.slice uA (t.S.rows.length + (applyR t.S e).length) uc).ownBlock = some k → (Value.slice rA t.S.rows.length rc).ownBlock = some k ∨ V.heap.size ≤ k := fun k e' => by
      rcases hat7 with h | h
      · exact .inl (h ▸ e')
      · right
        rw [h] at e'
        have := Option.some.inj e'
        omega
    have hp9 := HPV.out.rows_step (W := V9) (applyR t.S e) (by omega) hk79 hH9
      (ownsRow_keep hown7 fun k e' => hk9 k fun e'' => by subst e''; rcases hg7 _ e' with h | h; exact (HRL2.out _ h).2 rfl; omega) hg7
    have hfin := hown7.lt
    have hrow : t.S.rows ++ applyR t.S e = (applyS t.S e).rows := (apply_rows t.S e).symm
    rw [hrow] at hp9
    refine ⟨_, toldH F1 (fun k => G k ∨ (Value.slice dA e.lines.length dc).ownBlock = some k) bt (.slice (some ⟨g, 0, none⟩) (t.T.length + 1) cap) (.slice uA (t.S.rows.length + (applyR t.S e).length) uc), fun k => G k ∨ (Value.slice dA e.lines.length dc).ownBlock = some k, by rw [decide_eq_true HC.out]; rfl, by rw [HTL.out]; exact ⟨F1, bb, _, _, _, hp9, fun k => Iff.rfl⟩, ?_, ?_, ?_, ?_, fun k hk => .inl hk⟩
    · rw [← HMM.out]
      have hsc := HBC.out.size
      refine (ownsRow_keep HRV1.out fun k e' => ?_).mono (by omega)
      have h1 := HRVT.out k e'
      exact hk79 k (by omega) (fun e'' => h1.1 (.inr (.inr (.inl e'')))) fun e'' => h1.1 (.inr (.inr (.inr (.inr e''))))
    · refine HCHH.out.trans hc9 fun k hk => ?_
      rcases hk with rfl | hk | hk
      · exact .inl ((HHH.out _).2 (.inr (.inr (.inl rfl))))
      · exact .inl ((HHH.out k).2 (.inr (.inr (.inr (.inl hk)))))
      · exact .inl ((HHH.out k).2 (.inr (.inr (.inr (.inr hk)))))
    · intro k hk
      have hsc := HBC.out.size
      rcases hk with h1 | h1 | h1 | h1 | h1
      · rcases HNH.out k (.inl h1) with h2 | h2
        · exact .inl h2
        · exact .inr ⟨h2.1, by omega⟩
      · rcases h1 with h1 | h1
        · exact .inl ((HHH.out k).2 (.inr (.inl h1)))
        · have := HCVL.out k h1; exact .inr ⟨by omega, by omega⟩
      · exact .inl ((HHH.out k).2 (.inr (.inr (.inl h1))))
      · obtain rfl : k = g := (Option.some.inj h1).symm
        rcases HGW.out with h2 | h2
        · exact .inl ((HHH.out k).2 (.inr (.inr (.inr (.inl h2)))))
        · exact .inr ⟨by omega, by omega⟩
      · rcases hg7 k h1 with h2 | h2
        · exact .inl ((HHH.out k).2 (.inr (.inr (.inr (.inr h2)))))
        · have := (hfin k h1).2
          exact .inr ⟨by omega, by omega⟩
    · intro k e' hk
      have h1 := HRVT.out k e'
      rcases hk with h2 | h2 | h2 | h2 | h2
      · exact h1.1 (.inl h2)
      · rcases h2 with h2 | h2
        · exact h1.1 (.inr (.inl h2))
        · have := HCVL.out k h2; omega
      · exact h1.1 (.inr (.inr (.inl h2)))
      · obtain rfl : k = g := (Option.some.inj h2).symm
        rcases HGW.out with h3 | h3
        · exact h1.1 (.inr (.inr (.inr (.inl h3))))
        · omega
      · rcases hg7 k h2 with h3 | h3
        · exact h1.1 (.inr (.inr (.inr (.inr h3))))
        · omega
  · have he : (r != 0) = true := by rw [bne_iff_ne]; exact hr0
    have hc : checkE t.S e ≠ 0 := fun h => hr0 (HRR.out.trans h)
    have HC := Lib.hid hc
    clear hc hr0
    go_wp2_with (go_at_call 20; refine (num_any _ _).mono ?_; rintro en w' ⟨rfl, hw'⟩; obtain rfl := hw'.symm)
    go_ret2
    have hc := HC.out
    have hS : applyS t.S e = t.S := by unfold applyS; rw [if_neg hc]
    have hpa := HPA.out
    rw [hS] at hpa
    refine ⟨_, _, G, by rw [decide_eq_false hc]; rfl, ?_, by rw [← HMM.out]; exact (HAP.out.1).mono (by omega), HCHH.out, HNH.out, fun k e' => (HRVT.out k e').1, fun k hg => hg⟩
    rw [tellF_no hc]
    exact ⟨F1, bb, _, _, tl, hpa, fun k => Iff.rfl⟩
end Go.Proofs.YtgocoofcelggcaaGreatDoor
namespace Go.Proofs.YtgocoofcelggcaaGreatDoor
open Go.RowKit
set_option linter.unusedVariables false
set_option linter.unusedSimpArgs false

/-- A slice of events that is handed in. -/
structure EventsAt (w : World) (v : Value) (l : List EventV) : Prop where
  ex : ∃ A c, v = .slice A l.length c ∧ ∀ j (hj : j < l.length), ∃ ad lv, A = some ad ∧ ad.block < w.heap.size ∧ (∀ i u, (evCs l[j] lv).toList[i]? = some u → w.cell? ((ad.add (j * 12)).add i) = some u) ∧ LinesAt w (fun k => k < w.heap.size) lv l[j].lines ∧ NilOk lv
  len : l.length ≤ 1048576
  small : ∀ e ∈ l, SmallEv e ∧ InEv e

/-- An event handed in by itself. -/
structure EventAt1 (w : World) (lv : Value) (x : EventV) : Prop where
  lines : LinesAt w (fun k => k < w.heap.size) lv x.lines
  nil : NilOk lv
  small : SmallEv x
  num : InEv x
theorem EventsAt.below {w W : World} {v : Value} {l : List EventV} (h : EventsAt w v l) (hb : Below w.heap.size w W) : EventsAt W v l := by
  obtain ⟨⟨A, c, hv, hx⟩, h2, h3⟩ := h
  have hs := hb.size
  refine ⟨⟨A, c, hv, fun j hj => ?_⟩, h2, h3⟩
  obtain ⟨ad, lv, e1, hl, hc, hL, hn⟩ := hx j hj
  exact ⟨ad, lv, e1, by omega, fun i u hu => (hb.cell (p := (ad.add (j * 12)).add i) (by rw [block_add, block_add]; exact hl)).trans (hc i u hu), (hL.below hb).mono fun k hk => by omega, hn⟩

/-- One of them, in any later world. -/
theorem ev_at {w : World} {a : Addr} {x : EventV} {lv : Value} (hlt : a.block < w.heap.size) (h : ∀ i u, (evCs x lv).toList[i]? = some u → w.cell? (a.add i) = some u) : ∀ W, Below w.heap.size w W → W.cell? (a) = some (.int .i64 x.kind) ∧ W.cell? ⟨(a).block, (a).off + 1, none⟩ = some (.int .i64 x.day) ∧ W.cell? ⟨(a).block, (a).off + 2, none⟩ = some (.string x.key) ∧ W.cell? ⟨(a).block, (a).off + 3, none⟩ = some (.string x.account) ∧ W.cell? ⟨(a).block, (a).off + 4, none⟩ = some (.string x.other) ∧ W.cell? ⟨(a).block, (a).off + 5, none⟩ = some (.string x.ref) ∧ W.cell? ⟨(a).block, (a).off + 6, none⟩ = some (.string x.ref2) ∧ W.cell? ⟨(a).block, (a).off + 7, none⟩ = some (.int .i64 x.typ) ∧ W.cell? ⟨(a).block, (a).off + 8, none⟩ = some (.int .i64 x.due) ∧ W.cell? ⟨(a).block, (a).off + 9, none⟩ = some (.int .i64 x.amount) ∧ W.cell? ⟨(a).block, (a).off + 10, none⟩ = some (.string x.memo) ∧ W.cell? ⟨(a).block, (a).off + 11, none⟩ = some (lv) := fun W hb => by
  have hc := fun i u hu => (hb.cell (p := a.add i) (by rw [block_add]; exact hlt)).trans (h i u hu)
  exact ⟨hc 0 _ rfl, hc 1 _ rfl, hc 2 _ rfl, hc 3 _ rfl, hc 4 _ rfl, hc 5 _ rfl, hc 6 _ rfl, hc 7 _ rfl, hc 8 _ rfl, hc 9 _ rfl, hc 10 _ rfl, hc 11 _ rfl⟩

/-- Books behind the first k of the events. -/
structure TellInv (w : World) (l : List EventV) (bt : Nat) (wr : World) (k : Nat) : Prop where
  told : ∃ H G, ToldAt wr H G bt (tellsF toldNew (l.take k)) ∧ ∀ x, H x → w.heap.size ≤ x
  bel : Below w.heap.size w wr

theorem told_ok {l : List EventV} (hs : ∀ e ∈ l, SmallEv e ∧ InEv e) (k : Nat) : ToldOk (tellsF toldNew (l.take k)) := toldOk_new.tells fun e he => (hs e (List.mem_of_mem_take he)).2
theorem tells_take {l : List EventV} {k : Nat} (hk : k < l.length) : tellsF toldNew (l.take (k + 1)) = tellF (tellsF toldNew (l.take k)) l[k] := by
  rw [List.take_succ_eq_append_getElem hk, tellsF_snoc]

theorem told_new {w w1 : World} {F : Nat → Prop} {bb : Nat} (h : BookAt w1 F bb newS) (hF : ∀ k, F k → w.heap.size ≤ k) (hb : Below w.heap.size w w1) :
    TellInv w [] w1.heap.size (w1.alloc (.cells #[ptrV bb, .slice none 0 0, .slice none 0 0] 31)) 0 := by
  have hlt := h.lt
  have hs := hb.size
  refine ⟨⟨toldH F (fun _ => False) w1.heap.size (.slice none 0 0) (.slice none 0 0), fun _ => False, ⟨F, bb, .slice none 0 0, .slice none 0 0, fun _ => .slice none 0 0, ?_, fun k => Iff.rfl⟩, ?_⟩, hb.alloc hs _⟩
  · exact {
      book := h.below (bel1 w1 _)
      head := World.alloc_heap_new w1 _
      taken := World.ownsRow_nil _ _ _ _
      lines := fun i hi => by simp [tellsF, toldNew] at hi
      nil := fun i hi => by simp [tellsF, toldNew] at hi
      small := fun x hx => by simp [tellsF, toldNew] at hx
      rows := World.ownsRow_nil _ _ _ _
      bF := fun hf => by have := hlt _ hf; omega
      Gb := fun h => h
      GF := fun k h => h.elim
      Glt := fun k h => h.elim
      TF := fun k e => by cases e
      RF := fun k e => by cases e }
  · rintro x (h1 | h1 | rfl | h1 | h1)
    · exact hF x h1
    · exact h1.elim
    · exact hs
    · cases h1
    · cases h1
theorem TellInv.zero {w : World} {l : List EventV} {bt : Nat} {wr : World} (h : TellInv w [] bt wr 0) : TellInv w l bt wr 0 := ⟨by simpa using h.told, h.bel⟩
theorem TellInv.below {w wr W : World} {l : List EventV} {bt k : Nat} (h : TellInv w l bt wr k) (hb : Below wr.heap.size wr W) : TellInv w l bt W k := by
  obtain ⟨H, G, h1, h2⟩ := h.told
  exact ⟨⟨H, G, h1.below hb, h2⟩, h.bel.trans (hb.mono h.bel.size)⟩

/-- What one event that is told leaves, beside the invariant. -/
structure TellOut (w : World) (l : List EventV) (bt : Nat) (k : Nat) (t : ToldS) (x : EventV) (n : Nat) (en : Ending) (w' : World) : Prop where
  inv : TellInv w l bt w' (k + 1)
  ret : ∃ A c, en = .returned (.tuple #[.slice A (applyR t.S x).length c, .bool (decide (checkE t.S x = 0))]) ∧ w'.ownsRow n 39 9 (.slice A (applyR t.S x).length c) (applyR t.S x).length ((applyR t.S x).map encPost).flatten ∧
    ∃ H G, ToldAt w' H G bt (tellF t x) ∧ (∀ q, H q → w.heap.size ≤ q) ∧ ∀ q, (Value.slice A (applyR t.S x).length c).ownBlock = some q → ¬ H q

theorem TellInv.tell {w wr : World} {l : List EventV} {bt k : Nat} (h : TellInv w l bt wr k) (hs : ∀ e ∈ l, SmallEv e ∧ InEv e) (hk : k < l.length) {lv : Value} (hL : LinesAt w (fun q => q < w.heap.size) lv l[k].lines) (hn : NilOk lv) :
    Calls Tryz.prog 13 #[ptrV bt, evV l[k] lv] wr (TellOut w l bt k (tellsF toldNew (l.take k)) l[k] wr.heap.size) := by
  obtain ⟨H, G, h1, h2⟩ := h.told
  have hx := hs _ (List.getElem_mem hk)
  have hw := h.bel.size
  refine (tell_any h1 (told_ok hs k) hx.1 hx.2 (hL.below h.bel) hn fun q hq => .inl fun hh => by have := h2 q hh; omega).mono ?_
  rintro en w' ⟨rv, H', G', rfl, ht, hown, hch, hnew, hdis, _⟩
  obtain ⟨A, c, rfl⟩ := own_form hown
  have hH' : ∀ q, H' q → w.heap.size ≤ q := fun q hq => by
    rcases hnew q hq with h3 | h3
    · exact h2 q h3
    · omega
  exact ⟨⟨⟨H', G', by rw [tells_take hk]; exact ht, hH'⟩, h.bel.trans (hch.toBelow hw h2)⟩, A, c, rfl, hown, H', G', ht, hH', hdis⟩

/-! ### What must come -/
def evA : EventV := ⟨1, 10, ⟨#[]⟩, ⟨#[65]⟩, ⟨#[]⟩, ⟨#[]⟩, ⟨#[]⟩, 1, 0, 0, ⟨#[]⟩, []⟩
theorem evA_taken : checkE newS evA = 0 := by kernel_rfl
theorem evA_again : checkE (applyS newS evA) evA = 62 := by kernel_rfl
theorem evA_len : (applyS newS evA).events = 1 := by kernel_rfl
theorem evA_small : SmallEv evA := by
  constructor
  all_goals first | (show (_ : Nat) ≤ _; decide) | (intro x hx; cases hx)
theorem evA_in : InEv evA := by constructor <;> simp [evA, maxA]

theorem BLen_any {w : World} {F : Nat → Prop} {bb : Nat} {S : BookS} (h : BookAt w F bb S) : Calls Tryz.prog 23 #[ptrV bb] w fun en w' => en = .returned (.int .i64 S.events) ∧ w' = w := by
  obtain ⟨ρ, p, hp, _⟩ := h
  have c0 := hp.c0
  unfold ptrV
  go_enter Tryz.func23, Tryz.ntmps23
  go_wp2
  go_ret
  exact ⟨rfl, rfl⟩
theorem BLock_any {w : World} {F : Nat → Prop} {bb : Nat} {S : BookS} (h : BookAt w F bb S) : Calls Tryz.prog 16 #[ptrV bb] w fun en w' => en = .returned (.int .i64 S.lock) ∧ w' = w := by
  obtain ⟨ρ, p, hp, _⟩ := h
  have c12 := hp.c12
  unfold ptrV
  go_enter Tryz.func16, Tryz.ntmps16
  go_wp2
  go_ret
  exact ⟨rfl, rfl⟩

set_option maxRecDepth 100000 in
set_option maxHeartbeats 4000000 in
theorem first_any (w : World) : Calls Tryz.prog 14 #[] w fun en w' => en = .returned (.bool true) ∧ Below w.heap.size w w' := by
  have q28 : ∀ (w : World) (p : Option Addr), (binOp .eql 28 (.pointer p) (.pointer none)).run Tryz.prog w = .ok (.bool p.isNone) w := fun w p => run_eql_pointer_nil w _ p (by kernel_rfl)
  have hnew := New_book w
  have hag := evA_again
  have hle := evA_len
  have hok := ok_apply okT_new evA_in
  obtain ⟨S1, hS1⟩ : ∃ S1, applyS newS evA = S1 := ⟨_, rfl⟩
  rw [hS1] at hag hle hok
  have HS1 := Lib.hid hS1
  have HAG := Lib.hid hag
  have HLE := Lib.hid hle
  have HOK := Lib.hid hok
  clear hag hle hok hS1
  go_enter Tryz.func14, Tryz.ntmps14
  go_wp2_with (first
    | (go_at_call 15; refine hnew.mono ?_; rintro en w1 ⟨rfl, hb1, hz1, hbel1⟩; have hap := apply_any (R := fun _ => False) hb1 okT_new evA_small evA_in none 0 (RowAt.nil _ _ _) (fun k h => h.elim); rw [evA_taken, HS1.out] at hap; unfold evV ptrV evA at hap; unfold ptrV; have HB := Lib.hid hbel1; have HZ := Lib.hid hz1; clear hnew hb1 hbel1 hz1)
    | (go_at_call 22; refine hap.mono ?_; rintro en w2 ⟨rv, F2, rfl, hown, hb2, hch, hnw, hdis⟩; obtain ⟨rA, rc, hrf⟩ := own_form hown; subst hrf; have hln := BLen_any hb2; have hchk := check_any (R := fun _ => False) hb2 HOK.out evA_small evA_in none 0 (RowAt.nil _ _ _); rw [HAG.out] at hchk; rw [HLE.out] at hln; unfold evV ptrV evA at hchk; unfold ptrV at hln; have HC := Lib.hid hch; clear hap hown hb2 hch hnw hdis)
    | (go_at_call 20; refine (num_any _ _).mono ?_; rintro en w' ⟨rfl, rfl⟩)
    | (go_at_call 23; refine hln.mono ?_; rintro en w' ⟨rfl, rfl⟩; clear hln)
    | (go_at_call 21; refine hchk.mono ?_; rintro en w3 ⟨rfl, hb3⟩; have HB3 := Lib.hid hb3; clear hchk hb3))
  go_simp
  go_wp2
  go_ret
  have h2 := HC.out.toBelow (B := w.heap.size) (by have := HZ.out; omega) (fun k hk => hk.1)
  exact ⟨rfl, (HB.out.trans h2).trans (HB3.out.mono (by have := HZ.out; have := HC.out.size; omega))⟩

/-! ### A list told -/
set_option maxRecDepth 100000 in
set_option maxHeartbeats 4000000 in
theorem tellAll_any (w : World) (v : Value) (l : List EventV) (hl : EventsAt w v l) :
    Calls Tryz.prog 11 #[v] w fun en w' => ∃ bt, en = .returned (ptrV bt) ∧ w.heap.size ≤ bt ∧ TellInv w l bt w' (min l.length 400) := by
  obtain ⟨⟨A, c, rfl, hcl⟩, hlen, hsm⟩ := hl
  have HCL := Lib.hid hcl
  have HSM := Lib.hid hsm
  have hnew := New_book w
  clear hcl hsm
  go_enter Tryz.func11, Tryz.ntmps11
  go_wp2_with (go_at_call 15; refine hnew.mono ?_; rintro en w1 ⟨rfl, hb1, hz1, hbel1⟩; unfold ptrV; have HT := Lib.hid (told_new hb1 (fun k hk => hk.1) hbel1); have hz1' : w.heap.size ≤ w1.heap.size := (by omega); clear hnew hb1 hbel1 hz1)
  go_loopw [4] (fun i wr => ∃ k : Nat, i = .int .i64 (k : Int) ∧ k ≤ l.length ∧ k ≤ 400 ∧ TellInv w l w1.heap.size wr k) (fun i _ => l.length - (intOf i).toNat)
  case atStart => exact ⟨0, rfl, Nat.zero_le _, Nat.zero_le _, HT.out.zero⟩
  case round =>
    obtain ⟨k, rfl, hk, hk4, hinv⟩ := hrel
    clear HT
    by_cases hlt : k < l.length
    · by_cases h4 : k < 400
      · obtain ⟨ad, lv, rfl, hab, hcs, hL, hn⟩ := HCL.out k hlt
        have htl := hinv.tell HSM.out hlt hL hn
        obtain ⟨x, hx⟩ : ∃ x, x = l[k] := ⟨_, rfl⟩
        rw [← hx] at hcs htl
        obtain ⟨g0, g1, g2, g3, g4, g5, g6, g7, g8, g9, g10, g11⟩ := ev_at (by rw [block_add]; exact hab) hcs wr hinv.bel
        have h4' : decide ((k : Int) < 400) = true := decide_eq_true (by omega)
        unfold evV ptrV at htl
        clear hcs hL hn hinv hx
        go_wp2_with (go_at_call 13; refine htl.mono ?_; rintro en w2 ⟨hinv, rA, rc, rfl, _⟩; have HI := Lib.hid hinv; clear hinv htl)
        go_roundw
        case rel => exact ⟨k + 1, by go_num, by omega, by omega, HI.out⟩
        case measure => simp [intOf]; omega
      · have hm : min l.length 400 = k := by omega
        have h4' : decide ((k : Int) < 400) = false := decide_eq_false (by omega)
        have HI := Lib.hid hinv
        clear hinv
        go_wp2
        go_ret
        exact ⟨_, rfl, hz1', by rw [hm]; exact HI.out⟩
    · have hm : min l.length 400 = k := by omega
      have HI := Lib.hid hinv
      clear hinv
      go_wp2
      go_ret
      exact ⟨_, rfl, hz1', by rw [hm]; exact HI.out⟩
end Go.Proofs.YtgocoofcelggcaaGreatDoor
namespace Go.Proofs.YtgocoofcelggcaaGreatDoor
open Go.ChangeShapes Go.WideShapes Go.ChangeAt Go.RowKit Go.Deep
set_option linter.unusedVariables false
set_option linter.unusedSimpArgs false

theorem laidOut : laidOutB Tryz.prog = true := by kernel_rfl

section
variable {H : Type} {enc : TypeId × Value → H} {P : Program}

theorem trodAll_stays {W W' : World} {sp : Nat → Bool} (hl : laidOutB P = true) (hb : Below W.heap.size W W') : ∀ (ts : List TypeId) (vs : List Value) (ds : List (DataW H)) (ps : List MemPlace),
    (∀ t ∈ ts, P.readableRec t = true ∧ t < P.types.size) → DataW.TrodAll enc P W 0 (fun _ => true) true ts vs ds ps → (∀ x ∈ ps, x.block < W.heap.size ∧ sp x.block = true) → DataW.TrodAll enc P W' 0 sp true ts vs ds ps
  | [], vs, ds, ps, _, h, _ => by
    obtain ⟨rfl, rfl, rfl⟩ := trodAll_nil h
    exact trodAll_mk0
  | t :: ts, vs, ds, ps, hr, h, hx => by
    obtain ⟨v, vs', d, ds', p, p', rfl, rfl, rfl, h1, h2⟩ := trodAll_cons h
    obtain ⟨hr1, hr2⟩ := hr t (by simp)
    exact trodAll_cons_mk (WideElems.Trod_stays hl hr1 hr2 h1 (fun x hm => hb.same (hx x (by simp [hm])).1) (fun x hm => (hx x (by simp [hm])).2))
      (trodAll_stays hl hb ts vs' ds' p' (fun t ht => hr t (by simp [ht])) h2 (fun x hm => hx x (by simp [hm])))

/-- A law's row, from its walk: it returns true and nothing of what was there has turned. -/
theorem post_true {f : Func} {s : ChangeSpec} {W W' : World} {args : Array Value} {ds gs : List (DataW H)} {before : List MemPlace} {tb : TypeId}
    (hW : DataW.Whole enc P f.params.toList s.vars false W args.toList ds gs before) (hvn : s.vars = [])
    (hfn : s.fn H ds = { results := [.lit (.bool true)], args := ds, vars := [] }) (hrt : f.resultTypes = #[tb]) (htb : P.underlying tb = some .bool)
    (hl : laidOutB P = true) (hread : ∀ t ∈ f.params.toList, P.readableRec t = true ∧ t < P.types.size) (hb : Below W.heap.size W W') :
    s.post enc P f false true false false W args (.bool true) W' := by
  have hlt : ∀ p ∈ before, p.block < W.heap.size := fun p hp => by simpa using hW.lt p hp
  have hW' := hW
  obtain ⟨p, q, hA, hV, rfl, hz, hn⟩ := hW'
  rw [hvn] at hV
  obtain ⟨rfl, rfl⟩ := trodVars_none hV
  have hargs : ∀ sp : Nat → Bool, (∀ x ∈ p ++ [], sp x.block = true) → DataW.TrodAll enc P W' 0 sp true f.params.toList args.toList (s.fn H (ds ++ [])).args p := fun sp hsp => by
    rw [List.append_nil, hfn]
    exact trodAll_stays hl hb _ _ _ _ hread hA fun x hx => ⟨hlt x (by simpa using hx), hsp x (by simpa using hx)⟩
  have hres : ∀ (b : Nat) (sp : Nat → Bool) (hd : Bool), DataW.TrodAll enc P W' b sp hd f.resultTypes.toList ((Value.bool true).resultList f.resultTypes.size) (s.fn H (ds ++ [])).results [] := fun b sp hd => by
    rw [List.append_nil, hfn, hrt]
    exact trodAll_cons_mk (shut_bool htb true) trodAll_mk0
  have hvars : ∀ sp : Nat → Bool, DataW.TrodVars enc P W' sp s.vars (s.fn H (ds ++ [])).vars [] := fun sp => by
    rw [List.append_nil, hfn, hvn]
    rfl
  have hold : ∀ x ∈ p ++ [], (fun b => decide (b < W.heap.size)) x.block = true := fun x hx => by simpa using hlt x hx
  refine ⟨ds, [], p ++ [], [], p, [], hW, hres _ _ _, hargs _ hold, hvars _, hb.frame _, fun _ => ?_⟩
  refine ⟨?_, _, _, ([] ++ p) ++ [], ⟨[] ++ p, [], trodAll_append (hargs _ (fun _ _ => rfl)) (hres _ _ _), hvars _, rfl, ?_, ?_⟩, ?_⟩
  · exact ok_one hrt rfl (okWide_bool_mk htb true)
  · intro b off hp
    have hm : MemPlace.cell b off ∈ p ++ [] := by simpa using hp
    rw [hb.frozen (p := ⟨b, off, none⟩) (hlt _ hm)]
    exact hz b off hm
  · intro ha
    cases ha
  · intro x hx _
    simpa using hx
end

/-! ### A slice of structs -/
section
variable {H : Type} {enc : TypeId × Value → H} {P : Program} {w : World} {base : Nat} {spare : Nat → Bool} {held : Bool}
theorem open_slice_fields {t e : TypeId} {fs : Array Field} {fuel : Nat} {cs : List Value} {x : DataW H × List MemPlace} (ht : P.underlying t = some (.slice e)) (he : P.underlying e = some (.struct fs))
    (hone : oneCellFields P fs = true) (hC : P.cellsOf e = fs.size) (h : DataW.trod enc P w base spare held fuel t cs = some x) :
    (cs = [.slice none 0 0] ∧ x = (.nil, [])) ∨
    ∃ (a : Addr) (len cap m : Nat) (D : Nat → DataW H) (Pl : Nat → List MemPlace), cs = [.slice (some a) len cap] ∧ base ≤ a.block ∧ len ≤ cap ∧ cap ≤ maxLen ∧ m = (if spare a.block then cap else len) ∧
      x = (.slice ((List.range len).map D) ((List.range (m - len)).map fun j => D (len + j)), MemPlace.row a (m * fs.size) ++ (List.range m).flatMap Pl) ∧
      ∀ i, i < m → ∃ (ys : List (DataW H × List MemPlace)) (n : Nat), D i = .agg (ys.map (·.1)) ∧ Pl i = ys.flatMap (·.2) ∧ ys.length = fs.size ∧
        ∀ (j : Nat) (f : Field), fs[j]? = some f → ∃ (v : Value) (y : DataW H × List MemPlace), w.cell? (a.add (i * fs.size + j)) = some v ∧ ys[j]? = some y ∧ DataW.trod enc P w base spare held n f.type [v] = some y := by
  rcases open_slice ht h with h0 | ⟨a, len, cap, m, n, D, Pl, hcs, hb, hl, hm, hmm, hx, hi⟩
  · exact .inl h0
  · refine .inr ⟨a, len, cap, m, D, Pl, hcs, hb, hl, hm, hmm, by rw [hC] at hx; exact hx, fun i him => ?_⟩
    obtain ⟨cs', hc, ht'⟩ := hi i him
    rw [hC] at hc
    obtain ⟨ys, n', hn', hy, hlen, hyl, hf⟩ := DataW.trod_struct he ht'
    obtain ⟨_, hcl, hat⟩ := World.cells?_some hc
    simp only [Prod.mk.injEq] at hy
    refine ⟨ys, n', hy.1, hy.2, hyl, fun j f hj => ?_⟩
    obtain ⟨ho, hk⟩ := hone_of hone j f hj
    have hjl : j < fs.size := (Array.getElem?_eq_some_iff.1 hj).1
    have hcell := hat j hjl
    have hv : cs'[j]? = some (cs'[j]'(by omega)) := List.getElem?_eq_getElem (by omega)
    have h1 := hf j f hj
    rw [ho, hk] at h1
    have hone' : (cs'.drop j).take 1 = [cs'[j]'(by omega)] := by
      rw [List.drop_eq_getElem_cons (by omega)]
      rfl
    rw [hone'] at h1
    have hys : ys[j]? = some (ys[j]'(by omega)) := List.getElem?_eq_getElem (by omega)
    refine ⟨_, _, ?_, hys, h1.trans hys⟩
    rw [← Go.Deep.add_add, hcell, hv]
end

theorem list_choice {α : Type} {n : Nat} {R : Nat → α → Prop} (h : ∀ i, i < n → ∃ x, R i x) : ∃ l : List α, l.length = n ∧ ∀ i (hi : i < l.length), R i l[i] := by
  induction n with
  | zero => exact ⟨[], rfl, fun i hi => by simp at hi⟩
  | succ n ih =>
    obtain ⟨l, hl, hR⟩ := ih fun i hi => h i (by omega)
    obtain ⟨x, hx⟩ := h n (by omega)
    refine ⟨l ++ [x], by simp [hl], fun i hi => ?_⟩
    by_cases hin : i < l.length
    · rw [List.getElem_append_left hin]
      exact hR i hin
    · have : i = l.length := by simp at hi; omega
      subst this
      rw [List.getElem_append_right (by omega)]
      simp
      rw [hl]
      exact hx

/-! ### What the bound gives -/
theorem bulk_pos {H : Type} (d : DataW H) : 1 ≤ Rows.uptoBulk d := by
  cases d with
  | lit l => cases l <;> simp [Rows.uptoBulk]
  | nil => simp [Rows.uptoBulk]
  | ptr d => simp [Rows.uptoBulk]
  | slice elems spare => simp [Rows.uptoBulk]
  | agg parts => simp [Rows.uptoBulk]
  | iface t d => simp [Rows.uptoBulk]
  | map entries => simp [Rows.uptoBulk]
  | held h => simp [Rows.uptoBulk]
theorem bulk_part {H : Type} {d : DataW H} {l : List (DataW H)} (h : d ∈ l) : Rows.uptoBulk d ≤ Rows.uptoBulkAll l := by
  induction l with
  | nil => cases h
  | cons x r ih =>
    simp only [Rows.uptoBulkAll]
    cases List.mem_cons.1 h with
    | inl e => subst e; omega
    | inr e => have := ih e; omega
theorem bulk_length {H : Type} (l : List (DataW H)) : l.length ≤ Rows.uptoBulkAll l := by
  induction l with
  | nil => simp [Rows.uptoBulkAll]
  | cons x r ih => have := bulk_pos x; simp only [Rows.uptoBulkAll, List.length_cons]; omega
theorem bulk_elems {H : Type} (elems spare : List (DataW H)) : Rows.uptoBulkAll elems + 1 ≤ Rows.uptoBulk (.slice elems spare) := by
  simp only [Rows.uptoBulk]
  omega
theorem bulk_agg {H : Type} (ps : List (DataW H)) : Rows.uptoBulkAll ps + 1 ≤ Rows.uptoBulk (.agg ps) := by
  simp only [Rows.uptoBulk]
  omega
theorem bulk_text {H : Type} (bytes : List UInt8) : Rows.uptoBulk (DataW.lit (H := H) (.string bytes)) = bytes.length + 1 := by
  simp [Rows.uptoBulk]

theorem bulk_bound {H : Type} {l : List (DataW H)} (hk : Rows.uptoSmall H l = true) : Rows.uptoBulkAll l ≤ 1048576 := by
  simpa [Rows.uptoSmall] using hk


theorem wf_i64 {n : Int} (h : (Lit.int .i64 n).wf = true) : -maxA - 1 ≤ n ∧ n ≤ maxA := by
  have e1 : IntKind.i64.min = -9223372036854775808 := by decide
  have e2 : IntKind.i64.max = 9223372036854775807 := by decide
  simp only [Lit.wf, Bool.and_eq_true, decide_eq_true_eq, e1, e2] at h
  unfold maxA
  omega

theorem trod_line {H : Type} {enc : TypeId × Value → H} {W : World} {base n : Nat} {v : Value} {y : DataW H × List MemPlace}
    (h : DataW.trod enc Tryz.prog W base (fun _ => true) true n 23 [v] = some y) (hk : Rows.uptoBulk y.1 ≤ 1048576) :
    ∃ l : List LineV, LinesAt W (fun k => k < W.heap.size) v l ∧ NilOk v ∧ l.length ≤ 1048576 ∧ (∀ x ∈ l, x.account.size ≤ 1048576 ∧ x.tag.size ≤ 1048576) ∧ ∀ x ∈ l, -maxA - 1 ≤ x.amount ∧ x.amount ≤ maxA := by
  rcases open_slice_fields Tryz.underlying23 Tryz.underlying90 (by kernel_rfl) (by kernel_rfl) h with ⟨hc, hx⟩ | ⟨a, len, cap, m, D, Pl, hc, hb, hl, hm, hmm, hx, hi⟩
  · injection hc with hc _
    subst hc
    exact ⟨[], RowAt.nil _ _ _, fun n c e => by cases e; exact ⟨rfl, rfl⟩, by simp, by simp, by simp⟩
  · injection hc with hc _
    subst hc
    subst hx
    have hmc : len ≤ m := by rw [hmm]; split <;> omega
    have hb1 := bulk_elems ((List.range len).map D) ((List.range (m - len)).map fun j => D (len + j))
    have hln := bulk_length ((List.range len).map D)
    rw [List.length_map, List.length_range] at hln
    simp only at hk
    obtain ⟨ls, hal, hR⟩ := list_choice (n := len) (R := fun j (x : LineV) => a.block < W.heap.size ∧ x.account.size ≤ 1048576 ∧ x.tag.size ≤ 1048576 ∧ (-maxA - 1 ≤ x.amount ∧ x.amount ≤ maxA) ∧
        ∀ i u, (encLine x)[i]? = some u → W.cell? ((a.add (j * 3)).add i) = some u) (fun j hj => by
      obtain ⟨ys, n, hD, hPl, hyl, hfd⟩ := hi j (by omega)
      obtain ⟨v0, y0, c0, e0, t0⟩ := hfd 0 _ rfl
      obtain ⟨v1, y1, c1, e1, t1⟩ := hfd 1 _ rfl
      obtain ⟨v2, y2, c2, e2, t2⟩ := hfd 2 _ rfl
      obtain ⟨acc, q0, z0, _⟩ := DataW.trod_string Tryz.underlying9 t0
      obtain ⟨amt, q1, _, w1⟩ := DataW.trod_int Tryz.underlying2 t1
      obtain ⟨tag, q2, z2, _⟩ := DataW.trod_string Tryz.underlying9 t2
      injection q0 with q0 _
      injection q1 with q1 _
      injection q2 with q2 _
      subst q0 q1 q2
      have h3 : D j ∈ (List.range len).map D := List.mem_map.2 ⟨j, by simpa using hj, rfl⟩
      have h4 := bulk_part h3
      rw [hD] at h4
      have h5 := bulk_agg (ys.map (·.1))
      have txt : ∀ (s : ByteArray) (y : DataW H × List MemPlace) (i : Nat), ys[i]? = some y → y.1 = .lit (.string s.data.toList) → s.size ≤ 1048576 := fun s y i e z => by
        have h1 : y.1 ∈ ys.map (·.1) := List.mem_map.2 ⟨y, List.mem_of_getElem? e, rfl⟩
        have h2 := bulk_part h1
        rw [z, bulk_text] at h2
        have h6 : s.data.toList.length = s.size := rfl
        omega
      refine ⟨⟨acc, amt, tag⟩, by have := World.block_lt_of_cell? W _ c0; rwa [block_add] at this, txt acc y0 0 e0 (by rw [z0]), txt tag y2 2 e2 (by rw [z2]), wf_i64 w1, ?_⟩
      intro i u hu
      rw [Go.Deep.add_add]
      match i, hu with
      | 0, hu => injection hu with hu; subst hu; exact c0
      | 1, hu => injection hu with hu; subst hu; exact c1
      | 2, hu => injection hu with hu; subst hu; exact c2
      | i + 3, hu => simp [encLine] at hu)
    refine ⟨ls, ⟨some a, cap, by rw [List.length_map, hal], fun j hj => ?_⟩, fun n c e => (by cases e), by omega, fun x hx => ?_, fun x hx => ?_⟩
    · have hj : j < ls.length := by simpa using hj
      obtain ⟨h1, _, _, _, h3⟩ := hR j hj
      rw [List.getElem_map]
      exact ⟨a, rfl, h1, h1, h3⟩
    · obtain ⟨j, hj, rfl⟩ := List.getElem_of_mem hx
      obtain ⟨_, h1, h2, _⟩ := hR j hj
      exact ⟨h1, h2⟩
    · obtain ⟨j, hj, rfl⟩ := List.getElem_of_mem hx
      obtain ⟨_, _, _, h1, _⟩ := hR j hj
      exact h1
set_option maxRecDepth 100000 in
theorem trod_event {H : Type} {enc : TypeId × Value → H} {W : World} {base : Nat} {C : Nat → Value → Prop} {D : DataW H} {ys : List (DataW H × List MemPlace)} {n : Nat} {fs : Array Field} (hfs : Tryz.prog.underlying 25 = some (.struct fs)) (hD : D = .agg (ys.map (·.1)))
    (hfd : ∀ (i : Nat) (f : Field), fs[i]? = some f → ∃ (v : Value) (y : DataW H × List MemPlace), C i v ∧ ys[i]? = some y ∧ DataW.trod enc Tryz.prog W base (fun _ => true) true n f.type [v] = some y) (hk : Rows.uptoBulk D ≤ 1048576) :
    ∃ (x : EventV) (lv : Value), (∀ i u, (evCs x lv).toList[i]? = some u → C i u) ∧ LinesAt W (fun k => k < W.heap.size) lv x.lines ∧ NilOk lv ∧ SmallEv x ∧ InEv x := by
  have hfs' := Tryz.underlying25
  rw [hfs] at hfs'
  injection hfs' with hfs'
  injection hfs' with hfs'
  subst hfs'
  obtain ⟨v0, y0, c0, e0, t0⟩ := hfd 0 _ rfl
  obtain ⟨v1, y1, c1, e1, t1⟩ := hfd 1 _ rfl
  obtain ⟨v2, y2, c2, e2, t2⟩ := hfd 2 _ rfl
  obtain ⟨v3, y3, c3, e3, t3⟩ := hfd 3 _ rfl
  obtain ⟨v4, y4, c4, e4, t4⟩ := hfd 4 _ rfl
  obtain ⟨v5, y5, c5, e5, t5⟩ := hfd 5 _ rfl
  obtain ⟨v6, y6, c6, e6, t6⟩ := hfd 6 _ rfl
  obtain ⟨v7, y7, c7, e7, t7⟩ := hfd 7 _ rfl
  obtain ⟨v8, y8, c8, e8, t8⟩ := hfd 8 _ rfl
  obtain ⟨v9, y9, c9, e9, t9⟩ := hfd 9 _ rfl
  obtain ⟨v10, y10, c10, e10, t10⟩ := hfd 10 _ rfl
  obtain ⟨v11, y11, c11, e11, t11⟩ := hfd 11 _ rfl
  obtain ⟨kind, q0, _, w0⟩ := DataW.trod_int Tryz.underlying3 t0
  obtain ⟨day, q1, _, w1⟩ := DataW.trod_int Tryz.underlying3 t1
  obtain ⟨key, q2, z2, _⟩ := DataW.trod_string Tryz.underlying9 t2
  obtain ⟨account, q3, z3, _⟩ := DataW.trod_string Tryz.underlying9 t3
  obtain ⟨other, q4, z4, _⟩ := DataW.trod_string Tryz.underlying9 t4
  obtain ⟨ref, q5, z5, _⟩ := DataW.trod_string Tryz.underlying9 t5
  obtain ⟨ref2, q6, z6, _⟩ := DataW.trod_string Tryz.underlying9 t6
  obtain ⟨typ, q7, _, w7⟩ := DataW.trod_int Tryz.underlying3 t7
  obtain ⟨due, q8, _, w8⟩ := DataW.trod_int Tryz.underlying3 t8
  obtain ⟨amount, q9, _, w9⟩ := DataW.trod_int Tryz.underlying2 t9
  obtain ⟨memo, q10, z10, _⟩ := DataW.trod_string Tryz.underlying9 t10
  injection q0 with q0 _
  injection q1 with q1 _
  injection q2 with q2 _
  injection q3 with q3 _
  injection q4 with q4 _
  injection q5 with q5 _
  injection q6 with q6 _
  injection q7 with q7 _
  injection q8 with q8 _
  injection q9 with q9 _
  injection q10 with q10 _
  subst q0 q1 q2 q3 q4 q5 q6 q7 q8 q9 q10
  rw [hD] at hk
  have h5 := bulk_agg (ys.map (·.1))
  have part : ∀ (y : DataW H × List MemPlace) (i : Nat), ys[i]? = some y → Rows.uptoBulk y.1 ≤ 1048576 := fun y i e => by
    have h1 : y.1 ∈ ys.map (·.1) := List.mem_map.2 ⟨y, List.mem_of_getElem? e, rfl⟩
    have h2 := bulk_part h1
    omega
  have txt : ∀ (s : ByteArray) (y : DataW H × List MemPlace) (i : Nat), ys[i]? = some y → y.1 = .lit (.string s.data.toList) → s.size ≤ 1048576 := fun s y i e z => by
    have h2 := part y i e
    rw [z, bulk_text] at h2
    have h6 : s.data.toList.length = s.size := rfl
    omega
  obtain ⟨ls, hL, hnil, hln, hsz, hin⟩ := trod_line t11 (part y11 11 e11)
  refine ⟨⟨kind, day, key, account, other, ref, ref2, typ, due, amount, memo, ls⟩, v11, ?_, hL, hnil, ?_, wf_i64 w9, hin⟩
  · intro i u hu
    have hu : [Value.int .i64 kind, .int .i64 day, .string key, .string account, .string other, .string ref, .string ref2, .int .i64 typ, .int .i64 due, .int .i64 amount, .string memo, v11][i]? = some u := hu
    match i, hu with
    | 0, hu => injection hu with hu; subst hu; exact c0
    | 1, hu => injection hu with hu; subst hu; exact c1
    | 2, hu => injection hu with hu; subst hu; exact c2
    | 3, hu => injection hu with hu; subst hu; exact c3
    | 4, hu => injection hu with hu; subst hu; exact c4
    | 5, hu => injection hu with hu; subst hu; exact c5
    | 6, hu => injection hu with hu; subst hu; exact c6
    | 7, hu => injection hu with hu; subst hu; exact c7
    | 8, hu => injection hu with hu; subst hu; exact c8
    | 9, hu => injection hu with hu; subst hu; exact c9
    | 10, hu => injection hu with hu; subst hu; exact c10
    | 11, hu => injection hu with hu; subst hu; exact c11
    | i + 12, hu => simp at hu
  · exact ⟨txt key y2 2 e2 (by rw [z2]), txt account y3 3 e3 (by rw [z3]), txt other y4 4 e4 (by rw [z4]), txt ref y5 5 e5 (by rw [z5]), txt ref2 y6 6 e6 (by rw [z6]), txt memo y10 10 e10 (by rw [z10]), hln, hsz⟩

/-- A slice of events that is handed in. -/
theorem events_open {H : Type} {enc : TypeId × Value → H} {W : World} {base : Nat} {v : Value} {d : DataW H} {p : List MemPlace}
    (h : DataW.Trod enc Tryz.prog W base (fun _ => true) true 22 v d p) (hone : v.cells.toList = [v]) (hk : Rows.uptoBulk d ≤ 1048576) : ∃ l, EventsAt W v l := by
  obtain ⟨fuel, hf⟩ := h
  rw [hone] at hf
  rcases open_slice_fields Tryz.underlying22 Tryz.underlying25 (by kernel_rfl) (by kernel_rfl) hf with ⟨hc, hx⟩ | ⟨a, len, cap, m, D, Pl, hc, hb, hl, hm, hmm, hx, hi⟩
  · injection hc with hc _
    subst hc
    exact ⟨[], ⟨none, 0, rfl, fun j hj => by simp at hj⟩, by simp, by simp⟩
  · injection hc with hc _
    subst hc
    injection hx with hx _
    subst hx
    have hmc : len ≤ m := by rw [hmm]; split <;> omega
    have hb1 := bulk_elems ((List.range len).map D) ((List.range (m - len)).map fun j => D (len + j))
    have hln := bulk_length ((List.range len).map D)
    rw [List.length_map, List.length_range] at hln
    obtain ⟨ls, hal, hR⟩ := list_choice (n := len) (R := fun j (x : EventV) => ∃ lv : Value, a.block < W.heap.size ∧ (∀ i u, (evCs x lv).toList[i]? = some u → W.cell? ((a.add (j * 12)).add i) = some u) ∧ LinesAt W (fun k => k < W.heap.size) lv x.lines ∧ NilOk lv ∧ SmallEv x ∧ InEv x) (fun j hj => by
      obtain ⟨ys, n, hD, hPl, hyl, hfd⟩ := hi j (by omega)
      have h3 : D j ∈ (List.range len).map D := List.mem_map.2 ⟨j, by simpa using hj, rfl⟩
      have h4 := bulk_part h3
      obtain ⟨x, lv, h1, h2⟩ := trod_event (C := fun i v => W.cell? ((a.add (j * 12)).add i) = some v) Tryz.underlying25 hD (fun i f hif => by
        obtain ⟨v, y, c, e, t⟩ := hfd i f hif
        exact ⟨v, y, by rw [Go.Deep.add_add]; exact c, e, t⟩) (by omega)
      exact ⟨x, lv, by have := World.block_lt_of_cell? W _ (h1 0 _ rfl); rwa [block_add, block_add] at this, h1, h2⟩)
    refine ⟨ls, ⟨some a, cap, by rw [hal], fun j hj => ?_⟩, by omega, fun e he => ?_⟩
    · obtain ⟨lv, h1, h2, h3, h4, _⟩ := hR j hj
      exact ⟨a, lv, rfl, h1, h2, h3, h4⟩
    · obtain ⟨j, hj, rfl⟩ := List.getElem_of_mem he
      obtain ⟨lv, _, _, _, _, h5⟩ := hR j hj
      exact h5

theorem list_ext12 {l m : List Value} (hl : l.length = m.length) (h : ∀ (i : Nat) (u : Value), m[i]? = some u → l[i]? = some u) : l = m := by
  apply List.ext_getElem hl
  intro i h1 h2
  have := h i m[i] (List.getElem?_eq_getElem h2)
  rw [List.getElem?_eq_getElem h1] at this
  exact Option.some.inj this

set_option maxRecDepth 100000 in
/-- An event that is handed in. -/
theorem event_open {H : Type} {enc : TypeId × Value → H} {W : World} {base : Nat} {v : Value} {d : DataW H} {p : List MemPlace}
    (hv : Value.okWide Tryz.prog W .any base 25 v) {b0 : Nat} (h : DataW.Trod enc Tryz.prog W b0 (fun _ => true) true 25 v d p) (hk : Rows.uptoBulk d ≤ 1048576) : ∃ x lv, v = evV x lv ∧ EventAt1 W lv x := by
  obtain ⟨cs, rfl, hcs⟩ := okWide_struct Tryz.underlying25 hv
  obtain ⟨fuel, hf⟩ := h
  have he := Tryz.underlying25
  obtain ⟨ys, n', hn', hy, hlen, hyl, hfd⟩ := DataW.trod_struct he hf
  have hone : oneCellFields Tryz.prog _ = true := (by kernel_rfl : oneCellFields Tryz.prog (match Tryz.prog.underlying 25 with | some (.struct fs) => fs | _ => #[]) = true)
  rw [he] at hone
  have hsz : cs.size = 12 := by rw [hcs]; kernel_rfl
  have hl12 : (Value.agg cs).cells.toList.length = 12 := by show cs.toList.length = 12; simpa using hsz
  injection hy with hy1 hy2
  obtain ⟨x, lv, h1, h2, h3, h4, h5⟩ := trod_event (W := W) (C := fun i u => cs.toList[i]? = some u) he hy1 (fun j f hj => by
    obtain ⟨ho, hk1⟩ := hone_of hone j f hj
    have hjl := (Array.getElem?_eq_some_iff.1 hj).1
    have hj12 : j < cs.toList.length := by
      have : cs.toList.length = 12 := hl12
      rw [this]
      exact Nat.lt_of_lt_of_le hjl (by decide)
    have h1 := hfd j f hj
    rw [ho, hk1] at h1
    have hone' : ((Value.agg cs).cells.toList.drop j).take 1 = [cs.toList[j]'hj12] := by
      show (cs.toList.drop j).take 1 = _
      rw [List.drop_eq_getElem_cons hj12]
      rfl
    rw [hone'] at h1
    have hys : ys[j]? = some (ys[j]'(by rw [hyl]; exact hjl)) := List.getElem?_eq_getElem _
    exact ⟨_, _, List.getElem?_eq_getElem hj12, hys, h1.trans hys⟩) hk
  refine ⟨x, lv, ?_, ⟨h2, h3, h4, h5⟩⟩
  unfold evV
  congr 1
  have : cs.toList = (evCs x lv).toList := list_ext12 (by rw [show cs.toList.length = 12 from hl12]; rfl) h1
  exact Array.toList_inj.1 this
end Go.Proofs.YtgocoofcelggcaaGreatDoor
namespace Go.Proofs.YtgocoofcelggcaaGreatDoor
set_option linter.unusedVariables false
set_option linter.unusedSimpArgs false

def sumAmt (l : List PostV) : Int := (l.map (·.amount)).sum
theorem sumAmt_append (l m : List PostV) : sumAmt (l ++ m) = sumAmt l + sumAmt m := by
  unfold sumAmt
  rw [List.map_append, List.sum_append]
theorem sumAmt_take {l : List PostV} {k : Nat} (hk : k < l.length) : sumAmt (l.take (k + 1)) = sumAmt (l.take k) + l[k].amount := by
  rw [List.take_succ_eq_append_getElem hk, sumAmt_append]
  simp [sumAmt]
theorem sumAmt_le (l : List PostV) : -sumAbs l ≤ sumAmt l ∧ sumAmt l ≤ sumAbs l := by
  induction l with
  | nil => simp [sumAmt, sumAbs]
  | cons r l ih =>
    have e : sumAmt (r :: l) = r.amount + sumAmt l := by simp [sumAmt]
    rw [e, sumAbs_cons]
    have : -absI r.amount ≤ r.amount ∧ r.amount ≤ absI r.amount := by unfold absI; split <;> omega
    omega
theorem sumAmt_lines (S : BookS) (e : EventV) (s : Int) : ∀ (l : List LineV) (i : Nat), sumAmt (linesFrom S e s i l) = s * sumL l
  | [], _ => by simp [linesFrom, sumAmt, sumL]
  | x :: l, i => by
    have ih := sumAmt_lines S e s l (i + 1)
    have e1 : sumAmt (linesFrom S e s i (x :: l)) = s * x.amount + sumAmt (linesFrom S e s (i + 1) l) := by simp [linesFrom, sumAmt, rowV]
    have e2 : sumL (x :: l) = x.amount + sumL l := by simp [sumL]
    rw [e1, ih, e2, Int.mul_add]

/-- What all of an event's rows have. -/
def RowF (S : BookS) (e : EventV) (k : Nat) (r : PostV) : Prop := r.seq = S.events + 1 ∧ r.line = (k : Int) + 1 ∧ r.day = e.day ∧ r.kind = e.kind ∧ r.key = e.key ∧ r.memo = e.memo
theorem linesFrom_f (S : BookS) (e : EventV) (s : Int) : ∀ (l : List LineV) (i k : Nat) (hk : k < (linesFrom S e s i l).length), RowF S e (i + k) (linesFrom S e s i l)[k]
  | [], _, k, hk => by simp [linesFrom] at hk
  | x :: l, i, 0, hk => ⟨rfl, by simp [linesFrom, rowV], rfl, rfl, rfl, rfl⟩
  | x :: l, i, k + 1, hk => by
    have h := linesFrom_f S e s l (i + 1) k (by simpa [linesFrom] using hk)
    have e1 : (linesFrom S e s i (x :: l))[k + 1] = (linesFrom S e s (i + 1) l)[k]'(by simpa [linesFrom] using hk) := by simp [linesFrom]
    rw [e1]
    have e2 : i + (k + 1) = i + 1 + k := by omega
    rw [e2]
    exact h
theorem rows_f (S : BookS) (e : EventV) (k : Nat) (hk : k < (rowsOf S e).length) : RowF S e k (rowsOf S e)[k] := by
  have key : ∀ (L : List PostV), (∀ j (hj : j < L.length), RowF S e j L[j]) → ∀ (h : rowsOf S e = L), RowF S e k (rowsOf S e)[k] := fun L hL h => by
    have hk' : k < L.length := h ▸ hk
    have : (rowsOf S e)[k] = L[k] := by simp only [h]
    rw [this]
    exact hL k hk'
  have lin : ∀ s l j (hj : j < (linesRows S e s l).length), RowF S e j (linesRows S e s l)[j] := fun s l j hj => by
    have := linesFrom_f S e s l 0 j hj
    rwa [Nat.zero_add] at this
  have two : ∀ (a b : PostV), RowF S e 0 a → RowF S e 1 b → ∀ j (hj : j < [a, b].length), RowF S e j [a, b][j] := fun a b ha hb j hj => by
    match j, hj with
    | 0, _ => exact ha
    | 1, _ => exact hb
    | j + 2, hj => simp at hj; omega
  by_cases k3 : e.kind = 3
  · exact key _ (lin 1 e.lines) (by unfold rowsOf; rw [if_pos k3])
  by_cases k4 : e.kind = 4
  · cases hx : entryOf S e.ref with
    | none => exact key [] (fun j hj => by simp at hj) (by unfold rowsOf; rw [if_neg k3, if_pos k4, hx])
    | some x => exact key _ (lin (-1) x.lines) (by unfold rowsOf; rw [if_neg k3, if_pos k4, hx])
  by_cases k5 : e.kind = 5
  · exact key _ (two _ _ ⟨rfl, rfl, rfl, rfl, rfl, rfl⟩ ⟨rfl, rfl, rfl, rfl, rfl, rfl⟩) (by unfold rowsOf; rw [if_neg k3, if_neg k4, if_pos k5])
  by_cases k6 : e.kind = 6
  · exact key _ (two _ _ ⟨rfl, rfl, rfl, rfl, rfl, rfl⟩ ⟨rfl, rfl, rfl, rfl, rfl, rfl⟩) (by unfold rowsOf; rw [if_neg k3, if_neg k4, if_neg k5, if_pos k6])
  · exact key [] (fun j hj => by simp at hj) (by unfold rowsOf; rw [if_neg k3, if_neg k4, if_neg k5, if_neg k6])

/-- What holds of sums behind events. -/
structure BalOk (S : BookS) : Prop where
  ent : ∀ x ∈ S.entries, sumL x.lines = 0
  rows : sumAmt S.rows = 0
theorem bal_new : BalOk newS := ⟨fun x hx => by simp [newS] at hx, rfl⟩
theorem rows_zero {S : BookS} {e : EventV} (h : BalOk S) (hc : checkE S e = 0) : sumAmt (rowsOf S e) = 0 := by
  have ht := taken_of hc
  have hr := ht.refuse
  unfold rowsOf
  by_cases k3 : e.kind = 3
  · have href : refuseE S e = mayPostE S e := by unfold refuseE; simp [k3]
    rw [href] at hr
    unfold mayPostE at hr
    rw [if_pos k3]
    unfold linesRows
    rw [sumAmt_lines]
    split at hr
    · split at hr
      · rename_i h0; rw [h0]; rfl
      · omega
    · rename_i h1; exact absurd hr h1
  rw [if_neg k3]
  by_cases k4 : e.kind = 4
  · rw [if_pos k4]
    cases hx : entryOf S e.ref with
    | none => rfl
    | some x =>
      have hm : x ∈ S.entries := List.mem_of_find?_eq_some hx
      show sumAmt (linesRows S e (-1) x.lines) = 0
      unfold linesRows
      rw [sumAmt_lines, h.ent x hm]
      rfl
  rw [if_neg k4]
  by_cases k5 : e.kind = 5
  · rw [if_pos k5]; simp [sumAmt, rowV]; omega
  rw [if_neg k5]
  by_cases k6 : e.kind = 6
  · rw [if_pos k6]; simp [sumAmt, rowV]; omega
  rw [if_neg k6]
  rfl
theorem BalOk.apply {S : BookS} {e : EventV} (h : BalOk S) : BalOk (applyS S e) := by
  by_cases hc : checkE S e = 0
  · have hz := rows_zero h hc
    have ht := taken_of hc
    rw [applyS_yes hc]
    refine ⟨fun x hx => ?_, ?_⟩
    · unfold keepS at hx
      rcases ht.kinds with k | k | k | k | k | k | k | k
      · simp [k, tookS] at hx; exact h.ent x hx
      · simp [k, tookS] at hx; exact h.ent x hx
      · simp [k, tookS] at hx
        rcases hx with hx | hx
        · exact h.ent x hx
        · subst hx
          have hr := ht.refuse
          have href : refuseE S e = mayPostE S e := by unfold refuseE; simp [k]
          rw [href] at hr
          unfold mayPostE at hr
          show sumL e.lines = 0
          split at hr
          · split at hr
            · assumption
            · omega
          · rename_i h1; exact absurd hr h1
      · simp [k, tookS] at hx
        obtain ⟨y, hy, _, h2⟩ := voidL_mem _ _ _ _ hx
        rw [h2]
        exact h.ent y hy
      · simp [k, tookS] at hx; exact h.ent x hx
      · simp [k, tookS] at hx; exact h.ent x hx
      · simp [k, tookS] at hx; exact h.ent x hx
      · simp [k, tookS] at hx; exact h.ent x hx
    · rw [keepS_rows]
      show sumAmt (S.rows ++ rowsOf S e) = 0
      rw [sumAmt_append, h.rows, hz]
      rfl
  · have : applyS S e = S := by unfold applyS; rw [if_neg hc]
    rw [this]
    exact h
theorem bal_tells {l : List EventV} : ∀ {t : ToldS}, BalOk t.S → BalOk (tellsF t l).S := by
  induction l with
  | nil => intro t h; exact h
  | cons e l ih =>
    intro t h
    refine ih ?_
    unfold tellF
    split
    · exact h.apply
    · exact h
theorem apply_nums {S : BookS} {e : EventV} (hc : checkE S e = 0) : (applyS S e).turnover = S.turnover + sumAbs (rowsOf S e) ∧ (applyS S e).events = S.events + 1 := by
  rw [applyS_yes hc, keepS_turn, keepS_events]
  exact ⟨rfl, rfl⟩
end Go.Proofs.YtgocoofcelggcaaGreatDoor
