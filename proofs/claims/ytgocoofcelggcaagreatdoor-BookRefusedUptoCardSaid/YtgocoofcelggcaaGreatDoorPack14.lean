/- copied, num, tell. Printed by gen_tell.py; Events handed in, a list told, what must come whatever the events are. Printed by gen_tells.py; daybookref07: lists alike. Printed by gen_sameb.py; A base that can be read: what it says; Rows of entries and of claims that are built one by one, in blocks of their own. -/
import Derived.Test.YtgocoofcelggcaaGreatDoorPack13
import Derived.Deep.RegionHeld3
import Derived.KernelRfl
import Derived.Test.YtgocoofcelggcaaGreatDoorPack4
import Derived.Deep.QuietTactic
import Derived.Test.YtgocoofcelggcaaGreatDoorPack12
import Derived.Test.YtgocoofcelggcaaGreatDoorPack9
namespace Go.Proofs.YtgocoofcelggcaaGreatDoor
theorem qa14 {T : Type} (l : List T) (i : Nat) (a : T) : l.toArray.setIfInBounds i a = (l.set i a).toArray := List.setIfInBounds_toArray l i a
theorem qb14 {T : Type} {x : T} {xs : List T} {a : T} : (x :: xs).set 0 a = a :: xs := List.set_cons_zero
theorem qc14 {T : Type} {x : T} {xs : List T} {i : Nat} {a : T} : (x :: xs).set (i + 1) a = x :: xs.set i a := List.set_cons_succ
theorem qd14 {T : Type} {xs : List T} {i : Nat} (h : i < xs.toArray.size) : xs.toArray[i] = xs[i]'(by simpa using h) := List.getElem_toArray h
theorem qe14 {T : Type} (a : T) (ys : List T) (i : Nat) (h : i + 1 < (a :: ys).length) : (a :: ys)[i + 1] = ys[i]'(by simpa using h) := List.getElem_cons_succ a ys i h
theorem qf14 {T : Type} (a : T) (ys : List T) (h : 0 < (a :: ys).length) : (a :: ys)[0] = a := List.getElem_cons_zero a ys h
open Go.RowKit
set_option linter.unusedVariables false
set_option linter.unusedSimpArgs false


theorem row_posts' {W : World} {n m : Nat} {v : Value} {rs : List PostV} (hm : m = rs.length) (h : W.ownsRow n 39 9 v m (rs.map encPost).flatten) : RowAt W (fun k => v.ownBlock = some k) 9 v (rs.map encPost) := by
  subst hm
  exact row_posts h
theorem apply_rows (S : BookS) (e : EventV) : (applyS S e).rows = S.rows ++ applyR S e := by
  unfold applyS applyR
  split
  · rw [keepS_rows]; rfl
  · simp

structure TellPost (H G : Nat → Prop) (bt : Nat) (t : ToldS) (e : EventV) (w : World) (en : Ending) (w' : World) : Prop where
  ex : ∃ rv H' G', en = .returned (.tuple #[rv, .bool (decide (checkE t.S e = 0))]) ∧ ToldAt w' H' G' bt (tellF t e) ∧ w'.ownsRow w.heap.size 39 9 rv (applyR t.S e).length ((applyR t.S e).map encPost).flatten ∧ Ch H w w' ∧
    (∀ k, H' k → H k ∨ (w.heap.size ≤ k ∧ k < w'.heap.size)) ∧ (∀ k, rv.ownBlock = some k → ¬ H' k) ∧ ∀ k, G k → G' k

set_option maxRecDepth 100000 in
set_option maxHeartbeats 8000000 in
theorem tell_any {w : World} {H G R : Nat → Prop} {bt : Nat} {t : ToldS} {e : EventV} {lv : Value} (h : ToldAt w H G bt t) (hk : ToldOk t) (hz : SmallEv e) (hin : InEv e) (hL : LinesAt w R lv e.lines) (hn : NilOk lv) (hR : ∀ k, R k → ¬ H k ∨ G k) :
    Calls Tryz.prog 13 #[ptrV bt, evV e lv] w (TellPost H G bt t e w) := by
  obtain ⟨ie, hie, hez0, hez1, hez2⟩ := info_parts info_event
  obtain ⟨ip, hip, hpz0, hpz1, hpz2⟩ := info_parts info_post
  obtain ⟨F, bb, tv, rv0, tl, hp, hH⟩ := h
  obtain ⟨tA, tc, htv⟩ := own_form hp.taken
  obtain ⟨rA, rc, hrv0⟩ := own_form hp.rows
  subst htv hrv0
  have hT : t.T.length ≤ 1000 := by have := hk.len; have := hk.ok.ok.ev1; omega
  have hM : t.S.rows.length ≤ 12000 := by have := hk.ok.ok.rowsLe; have := hk.ok.ok.ev1; omega
  have hA12 := fun (hc : checkE t.S e = 0) => (rows_facts hk.ok hin (taken_of hc).fields).1
  have hb0 := bel1 w (.cells (evCs e lv) 25)
  have hn0 := World.alloc_heap_new w (.cells (evCs e lv) 25)
  have hbl := heap_lt hp.head
  obtain ⟨W0, hW0⟩ : ∃ W0, w.alloc (.cells (evCs e lv) 25) = W0 := ⟨_, rfl⟩
  have hsz0 : W0.heap.size = w.heap.size + 1 := by rw [← hW0]; simp
  rw [hW0] at hb0 hn0
  have hRF : ∀ k, R k → ¬ F k := fun k hr hf => by
    rcases hR k hr with h1 | h1
    · exact h1 ((hH k).2 (.inl hf))
    · exact hp.GF k h1 hf
  have hp0 := hp.below hb0
  have hL0 := hL.below hb0
  have hkeep : ∀ W : World, W.heap[w.heap.size]? = W0.heap[w.heap.size]? → W.cell? ⟨w.heap.size, 0, none⟩ = some (.int .i64 e.kind) ∧ W.cell? ⟨w.heap.size, 1, none⟩ = some (.int .i64 e.day) ∧ W.cell? ⟨w.heap.size, 2, none⟩ = some (.string e.key) ∧ W.cell? ⟨w.heap.size, 3, none⟩ = some (.string e.account) ∧ W.cell? ⟨w.heap.size, 4, none⟩ = some (.string e.other) ∧ W.cell? ⟨w.heap.size, 5, none⟩ = some (.string e.ref) ∧ W.cell? ⟨w.heap.size, 6, none⟩ = some (.string e.ref2) ∧ W.cell? ⟨w.heap.size, 7, none⟩ = some (.int .i64 e.typ) ∧ W.cell? ⟨w.heap.size, 8, none⟩ = some (.int .i64 e.due) ∧ W.cell? ⟨w.heap.size, 9, none⟩ = some (.int .i64 e.amount) ∧ W.cell? ⟨w.heap.size, 10, none⟩ = some (.string e.memo) ∧ W.cell? ⟨w.heap.size, 11, none⟩ = some (lv) := fun W hW => by
    have hE : EvAt W w.heap.size e lv := ⟨hW.trans hn0⟩
    exact ev_cells hE
  have hhd : ∀ W : World, W.heap[bt]? = w.heap[bt]? → W.cell? ⟨bt, 0, none⟩ = some (.pointer (some ⟨bb, 0, none⟩)) := fun W hW => by rw [cell_of_blk (hW.trans hp.head)]; rfl
  have hcop := copied_any (w := W0.drew) (hL0.below (Below.refl _ W0).drew) hn hz.count
  have hFl := hp.book.lt
  have HP := Lib.hid hp
  have HHH := Lib.hid hH
  have HP0 := Lib.hid hp0
  have HL0 := Lib.hid hL0
  have HK := Lib.hid hkeep
  have HHD := Lib.hid hhd
  have HW0 := Lib.hid hW0
  have HB0 := Lib.hid hb0
  have HN0 := Lib.hid hn0
  have HKO := Lib.hid hk
  have HZ := Lib.hid hz
  have HIN := Lib.hid hin
  have HNIL := Lib.hid hn
  have HRF := Lib.hid hRF
  have HFL := Lib.hid hFl
  have HA12 := Lib.hid hA12
  have hHeld : W0.drew.cell? ⟨bt, 0, none⟩ = some (.pointer (some ⟨bb, 0, none⟩)) ∧ W0.drew.cell? ⟨w.heap.size, 0, none⟩ = some (.int .i64 e.kind) ∧ W0.drew.cell? ⟨w.heap.size, 1, none⟩ = some (.int .i64 e.day) ∧ W0.drew.cell? ⟨w.heap.size, 2, none⟩ = some (.string e.key) ∧ W0.drew.cell? ⟨w.heap.size, 3, none⟩ = some (.string e.account) ∧ W0.drew.cell? ⟨w.heap.size, 4, none⟩ = some (.string e.other) ∧ W0.drew.cell? ⟨w.heap.size, 5, none⟩ = some (.string e.ref) ∧ W0.drew.cell? ⟨w.heap.size, 6, none⟩ = some (.string e.ref2) ∧ W0.drew.cell? ⟨w.heap.size, 7, none⟩ = some (.int .i64 e.typ) ∧ W0.drew.cell? ⟨w.heap.size, 8, none⟩ = some (.int .i64 e.due) ∧ W0.drew.cell? ⟨w.heap.size, 9, none⟩ = some (.int .i64 e.amount) ∧ W0.drew.cell? ⟨w.heap.size, 10, none⟩ = some (.string e.memo) ∧ W0.drew.cell? ⟨w.heap.size, 11, none⟩ = some (lv) := ⟨hhd _ (hb0.block bt hbl), hkeep _ rfl⟩
  obtain ⟨r, hr⟩ : ∃ r, r = checkE t.S e := ⟨_, rfl⟩
  have HRR := Lib.hid hr
  have hBl : w.heap.size < W0.heap.size := by omega
  have hbl0 : bt < W0.heap.size := by omega
  unfold evCs at HW0
  unfold evV at hcop
  unfold ptrV evV
  clear hp hH hp0 hL0 hkeep hhd hW0 hb0 hn0 hk hz hin hn hRF hFl hL hR hr hA12
  go_enter Tryz.func13, Tryz.ntmps13
  go_wp2
  rw [HW0.out]
  refine wp_region_n (n := 12) (S := fun w' => w'.cell? ⟨bt, 0, none⟩ = some (.pointer (some ⟨bb, 0, none⟩)) ∧ w'.cell? ⟨w.heap.size, 0, none⟩ = some (.int .i64 e.kind) ∧ w'.cell? ⟨w.heap.size, 1, none⟩ = some (.int .i64 e.day) ∧ w'.cell? ⟨w.heap.size, 2, none⟩ = some (.string e.key) ∧ w'.cell? ⟨w.heap.size, 3, none⟩ = some (.string e.account) ∧ w'.cell? ⟨w.heap.size, 4, none⟩ = some (.string e.other) ∧ w'.cell? ⟨w.heap.size, 5, none⟩ = some (.string e.ref) ∧ w'.cell? ⟨w.heap.size, 6, none⟩ = some (.string e.ref2) ∧ w'.cell? ⟨w.heap.size, 7, none⟩ = some (.int .i64 e.typ) ∧ w'.cell? ⟨w.heap.size, 8, none⟩ = some (.int .i64 e.due) ∧ w'.cell? ⟨w.heap.size, 9, none⟩ = some (.int .i64 e.amount) ∧ w'.cell? ⟨w.heap.size, 10, none⟩ = some (.string e.memo) ∧ w'.cell? ⟨w.heap.size, 11, none⟩ = some (lv)) (by kernel_rfl) ?_
  refine wpAnyN_take (i := 0) (v := ?_) rfl (by kernel_rfl) (by kernel_rfl) (by kernel_rfl) (by kernel_rfl) (fun _ _ _ h => h) (Or.inl ⟨by kernel_rfl, ?y1⟩) hHeld ?_
  case y1 =>
    intro w0 hSw
    (try dsimp only at hSw)
    go_simp
    try with_reducible rfl
  try simp only [Act.put, qa14, qb14, qc14, qd14, qe14, qf14]
  refine wpAnyN_take (i := 1) (v := ?_) rfl (by kernel_rfl) (by kernel_rfl) (by kernel_rfl) (by kernel_rfl) (fun _ _ _ h => h) (Or.inl ⟨by kernel_rfl, ?y2⟩) hHeld ?_
  case y2 =>
    intro w0 hSw
    (try dsimp only at hSw)
    go_simp
    try with_reducible rfl
  try simp only [Act.put, qa14, qb14, qc14, qd14, qe14, qf14]
  refine wpAnyN_take (i := 2) (v := ?_) rfl (by kernel_rfl) (by kernel_rfl) (by kernel_rfl) (by kernel_rfl) (fun _ _ _ h => h) (Or.inl ⟨by kernel_rfl, ?y3⟩) hHeld ?_
  case y3 =>
    intro w0 hSw
    (try dsimp only at hSw)
    go_simp
    try with_reducible rfl
  try simp only [Act.put, qa14, qb14, qc14, qd14, qe14, qf14]
  refine wpAnyN_take (i := 3) (v := ?_) rfl (by kernel_rfl) (by kernel_rfl) (by kernel_rfl) (by kernel_rfl) (fun _ _ _ h => h) (Or.inl ⟨by kernel_rfl, ?y4⟩) hHeld ?_
  case y4 =>
    intro w0 hSw
    (try dsimp only at hSw)
    go_simp
    try with_reducible rfl
  try simp only [Act.put, qa14, qb14, qc14, qd14, qe14, qf14]
  refine wpAnyN_take (i := 4) (v := ?_) rfl (by kernel_rfl) (by kernel_rfl) (by kernel_rfl) (by kernel_rfl) (fun _ _ _ h => h) (Or.inl ⟨by kernel_rfl, ?y5⟩) hHeld ?_
  case y5 =>
    intro w0 hSw
    (try dsimp only at hSw)
    go_simp
    try with_reducible rfl
  try simp only [Act.put, qa14, qb14, qc14, qd14, qe14, qf14]
  refine wpAnyN_step (i := 5) (by kernel_rfl) rfl (fun K hK => ?_)
  go_simp
  go_at_call 12
  refine hcop.mono ?_
  rintro en wc ⟨cv, rfl, hcv, hbc⟩
  have hbc := below_undrew hbc
  have hcv : wc.ownsRow W0.heap.size 90 3 cv e.lines.length (e.lines.map encLine).flatten := hcv
  obtain ⟨cA, cc, hcf⟩ := own_form hcv
  subst hcf
  have hkc : wc.heap[bt]? = W0.heap[bt]? := hbc.block bt hbl0
  have hkc0 := hkc.trans (HB0.out.block bt hbl)
  have hkB : wc.heap[w.heap.size]? = W0.heap[w.heap.size]? := hbc.block _ hBl
  have happ := apply_any (w := wc) (R := fun k => (Value.slice cA e.lines.length cc).ownBlock = some k) (HP0.out.book.below hbc) HKO.out.ok HZ.out HIN.out cA cc (RowAt.of_own (B := W0.heap.size) (e := 90) (by rw [List.length_map]; exact hcv) (lines_len _) fun _ e' => e') (fun k e' hf => by have h1 := (hcv.lt k e').1; have h2 := HFL.out k hf; omega)
  rw [← HRR.out] at happ
  unfold evV ptrV at happ
  have HBC := Lib.hid hbc
  have hHeld1 : wc.cell? ⟨bt, 0, none⟩ = some (.pointer (some ⟨bb, 0, none⟩)) ∧ wc.cell? ⟨w.heap.size, 0, none⟩ = some (.int .i64 e.kind) ∧ wc.cell? ⟨w.heap.size, 1, none⟩ = some (.int .i64 e.day) ∧ wc.cell? ⟨w.heap.size, 2, none⟩ = some (.string e.key) ∧ wc.cell? ⟨w.heap.size, 3, none⟩ = some (.string e.account) ∧ wc.cell? ⟨w.heap.size, 4, none⟩ = some (.string e.other) ∧ wc.cell? ⟨w.heap.size, 5, none⟩ = some (.string e.ref) ∧ wc.cell? ⟨w.heap.size, 6, none⟩ = some (.string e.ref2) ∧ wc.cell? ⟨w.heap.size, 7, none⟩ = some (.int .i64 e.typ) ∧ wc.cell? ⟨w.heap.size, 8, none⟩ = some (.int .i64 e.due) ∧ wc.cell? ⟨w.heap.size, 9, none⟩ = some (.int .i64 e.amount) ∧ wc.cell? ⟨w.heap.size, 10, none⟩ = some (.string e.memo) ∧ wc.cell? ⟨w.heap.size, 11, none⟩ = some (lv) := ⟨HHD.out _ hkc0, HK.out _ hkB⟩
  clear hcop hcv hbc
  go_wp2_with fail
  refine hK.out _ _ (fun _ => hHeld1) ?_
  clear hK K
  try simp only [Act.put, qa14, qb14, qc14, qd14, qe14, qf14]
  refine wpAnyN_step (i := 6) (by kernel_rfl) rfl (fun K hK => ?_)
  go_simp
  go_at_call 22
  refine happ.mono ?_
  rintro en wa ⟨rv1, F1, rfl, hrv1, hbk1, hch1, hnew1, hdis1⟩
  obtain ⟨m, hm⟩ : ∃ m, m = (applyR t.S e).length := ⟨_, rfl⟩
  rw [← hm] at hrv1
  obtain ⟨vA, vc, hvf⟩ := own_form hrv1
  subst hvf
  have hka : wa.heap[bt]? = w.heap[bt]? := (hch1.block bt (Nat.lt_of_lt_of_le hbl0 HBC.out.size) HP.out.bF).trans hkc0
  have hkBa : wa.heap[w.heap.size]? = W0.heap[w.heap.size]? := (hch1.block _ (Nat.lt_of_lt_of_le hBl HBC.out.size) (fun hf => by have := HFL.out _ hf; omega)).trans hkB
  have HAP := Lib.hid (And.intro hrv1 (And.intro hbk1 (And.intro hch1 (And.intro hnew1 hdis1))))
  have HMM := Lib.hid hm
  have HBA := Lib.hid hkBa
  have hHeld2 : wa.cell? ⟨bt, 0, none⟩ = some (.pointer (some ⟨bb, 0, none⟩)) ∧ wa.cell? ⟨w.heap.size, 0, none⟩ = some (.int .i64 e.kind) ∧ wa.cell? ⟨w.heap.size, 1, none⟩ = some (.int .i64 e.day) ∧ wa.cell? ⟨w.heap.size, 2, none⟩ = some (.string e.key) ∧ wa.cell? ⟨w.heap.size, 3, none⟩ = some (.string e.account) ∧ wa.cell? ⟨w.heap.size, 4, none⟩ = some (.string e.other) ∧ wa.cell? ⟨w.heap.size, 5, none⟩ = some (.string e.ref) ∧ wa.cell? ⟨w.heap.size, 6, none⟩ = some (.string e.ref2) ∧ wa.cell? ⟨w.heap.size, 7, none⟩ = some (.int .i64 e.typ) ∧ wa.cell? ⟨w.heap.size, 8, none⟩ = some (.int .i64 e.due) ∧ wa.cell? ⟨w.heap.size, 9, none⟩ = some (.int .i64 e.amount) ∧ wa.cell? ⟨w.heap.size, 10, none⟩ = some (.string e.memo) ∧ wa.cell? ⟨w.heap.size, 11, none⟩ = some (lv) := ⟨HHD.out _ hka, HK.out _ hkBa⟩
  clear happ hrv1 hbk1 hch1 hnew1 hdis1 hm
  go_wp2_with fail
  refine hK.out _ _ (fun _ => hHeld2) ?_
  clear hK K
  try simp only [Act.put, qa14, qb14, qc14, qd14, qe14, qf14]
  refine wpAnyN_take (i := 7) (v := ?_) rfl (by kernel_rfl) (by kernel_rfl) (by kernel_rfl) (by kernel_rfl) (fun _ _ _ h => h) (Or.inl ⟨by kernel_rfl, ?y6⟩) hHeld2 ?_
  case y6 =>
    intro w0 hSw
    (try dsimp only at hSw)
    go_simp
    try with_reducible rfl
  try simp only [Act.put, qa14, qb14, qc14, qd14, qe14, qf14]
  refine wpAnyN_take (i := 8) (v := ?_) rfl (by kernel_rfl) (by kernel_rfl) (by kernel_rfl) (by kernel_rfl) (fun _ _ _ h => h) (Or.inl ⟨by kernel_rfl, ?y7⟩) hHeld2 ?_
  case y7 =>
    intro w0 hSw
    (try dsimp only at hSw)
    go_simp
    try with_reducible rfl
  try simp only [Act.put, qa14, qb14, qc14, qd14, qe14, qf14]
  refine wpAnyN_take (i := 9) (v := ?_) rfl (by kernel_rfl) (by kernel_rfl) (by kernel_rfl) (by kernel_rfl) (fun _ _ _ h => h) (Or.inl ⟨by kernel_rfl, ?y8⟩) hHeld2 ?_
  case y8 =>
    intro w0 hSw
    (try dsimp only at hSw)
    go_simp
    try with_reducible rfl
  try simp only [Act.put, qa14, qb14, qc14, qd14, qe14, qf14]
  refine wpAnyN_take (i := 10) (v := ?_) rfl (by kernel_rfl) (by kernel_rfl) (by kernel_rfl) (by kernel_rfl) (fun _ _ _ h => h) (Or.inl ⟨by kernel_rfl, ?y9⟩) hHeld2 ?_
  case y9 =>
    intro w0 hSw
    (try dsimp only at hSw)
    go_simp
    try with_reducible rfl
  try simp only [Act.put, qa14, qb14, qc14, qd14, qe14, qf14]
  refine wpAnyN_take (i := 11) (v := ?_) rfl (by kernel_rfl) (by kernel_rfl) (by kernel_rfl) (by kernel_rfl) (fun _ _ _ h => h) (Or.inl ⟨by kernel_rfl, ?y10⟩) hHeld2 ?_
  case y10 =>
    intro w0 hSw
    (try dsimp only at hSw)
    go_simp
    try with_reducible rfl
  try simp only [Act.put, qa14, qb14, qc14, qd14, qe14, qf14]
  refine wpAnyN_done (by kernel_rfl) ?_ _
  have hpc := HP0.out.below HBC.out
  have hpa := hpc.book_step HAP.out.2.1 HAP.out.2.2.1 HAP.out.2.2.2.1
  have hsa := HAP.out.2.2.1.size
  have hsc := HBC.out.size
  have hown1 := HAP.out.1
  have hrvT : ∀ k, (Value.slice vA m vc).ownBlock = some k → ¬ toldH F1 G bt (.slice tA t.T.length tc) (.slice rA t.S.rows.length rc) k ∧ wc.heap.size ≤ k ∧ k < wa.heap.size := fun k e' => by
    have hl := hown1.lt k e'
    refine ⟨fun hh => ?_, hl⟩
    have h9 := HP0.out.lt
    rcases hh with h1 | h1 | h1 | h1 | h1
    · exact HAP.out.2.2.2.2 k e' h1
    · have := h9 k (.inr (.inl h1)); omega
    · omega
    · have := h9 k (.inr (.inr (.inr (.inl h1)))); omega
    · have := h9 k (.inr (.inr (.inr (.inr h1)))); omega
  have hChH : Ch H w wa := ((Ch.of_below HB0.out).below HBC.out).trans HAP.out.2.2.1 fun k hf => .inl ((HHH.out k).2 (.inl hf))
  have hnewH : ∀ k, toldH F1 G bt (.slice tA t.T.length tc) (.slice rA t.S.rows.length rc) k → H k ∨ (w.heap.size ≤ k ∧ k < wa.heap.size) := fun k hh => by
    rcases hh with h1 | h1
    · rcases HAP.out.2.2.2.1 k h1 with h2 | h2
      · exact .inl ((HHH.out k).2 (.inl h2))
      · exact .inr ⟨by omega, h2.2⟩
    · exact .inl ((HHH.out k).2 (.inr h1))
  have HPA := Lib.hid hpa
  have HRVT := Lib.hid hrvT
  have HCHH := Lib.hid hChH
  have HNH := Lib.hid hnewH
  have hbla : bt < wa.heap.size := by omega
  have hBla : w.heap.size < wa.heap.size := by omega
  clear hpc hpa hown1 hrvT hChH hnewH hHeld hHeld2
  by_cases hr0 : r = 0
  · subst hr0
    have hc := HRR.out.symm
    have hwin := HA12.out hc
    have hap0 : applyR t.S e = rowsOf t.S e := by unfold applyR; rw [if_pos hc]
    have htell : tellF t e = ⟨applyS t.S e, t.T ++ [e]⟩ := tellF_yes hc
    have hml : m ≤ 12 := by rw [HMM.out, hap0]; exact hwin
    have HC := Lib.hid hc
    have HTL := Lib.hid htell
    have HAP0 := Lib.hid hap0
    clear hc htell hap0 hwin
    go_wp2_with (go_at_call 20; refine (num_any _ _).mono ?_; rintro en w' ⟨rfl, hw'⟩; obtain rfl := hw'.symm)
    have hhda : ∀ W : World, W.heap[bt]? = wa.heap[bt]? → W.cell? ⟨bt, 1, none⟩ = some (.slice tA t.T.length tc) ∧ W.cell? ⟨bt, 2, none⟩ = some (.slice rA t.S.rows.length rc) ∧ W.frozen? ⟨bt, 1, none⟩ = false ∧ W.frozen? ⟨bt, 2, none⟩ = false := fun W hW =>
      ⟨by rw [cell_of_blk (hW.trans HPA.out.head)]; rfl, by rw [cell_of_blk (hW.trans HPA.out.head)]; rfl, frozen_blk (hW.trans HPA.out.head) 1, frozen_blk (hW.trans HPA.out.head) 2⟩
    have HHDA := Lib.hid hhda
    have hLa : LinesAt wa R lv e.lines := (HL0.out.below HBC.out).ch HAP.out.2.2.1 HRF.out
    have hcop2 := copied_any (w := wa.drew) (hLa.below (Below.refl _ wa).drew) HNIL.out HZ.out.count
    have hHeld4 : wa.drew.cell? ⟨bt, 1, none⟩ = some (.slice tA t.T.length tc) ∧ wa.drew.cell? ⟨w.heap.size, 0, none⟩ = some (.int .i64 e.kind) ∧ wa.drew.cell? ⟨w.heap.size, 1, none⟩ = some (.int .i64 e.day) ∧ wa.drew.cell? ⟨w.heap.size, 2, none⟩ = some (.string e.key) ∧ wa.drew.cell? ⟨w.heap.size, 3, none⟩ = some (.string e.account) ∧ wa.drew.cell? ⟨w.heap.size, 4, none⟩ = some (.string e.other) ∧ wa.drew.cell? ⟨w.heap.size, 5, none⟩ = some (.string e.ref) ∧ wa.drew.cell? ⟨w.heap.size, 6, none⟩ = some (.string e.ref2) ∧ wa.drew.cell? ⟨w.heap.size, 7, none⟩ = some (.int .i64 e.typ) ∧ wa.drew.cell? ⟨w.heap.size, 8, none⟩ = some (.int .i64 e.due) ∧ wa.drew.cell? ⟨w.heap.size, 9, none⟩ = some (.int .i64 e.amount) ∧ wa.drew.cell? ⟨w.heap.size, 10, none⟩ = some (.string e.memo) ∧ wa.drew.cell? ⟨w.heap.size, 11, none⟩ = some (lv) := ⟨(hhda wa.drew rfl).1, HK.out wa.drew HBA.out⟩
    have HOT := Lib.hid HPA.out.taken
    unfold evV at hcop2
    clear hhda hLa
    refine wp_region_n (n := 11) (S := fun w' => w'.cell? ⟨bt, 1, none⟩ = some (.slice tA t.T.length tc) ∧ w'.cell? ⟨w.heap.size, 0, none⟩ = some (.int .i64 e.kind) ∧ w'.cell? ⟨w.heap.size, 1, none⟩ = some (.int .i64 e.day) ∧ w'.cell? ⟨w.heap.size, 2, none⟩ = some (.string e.key) ∧ w'.cell? ⟨w.heap.size, 3, none⟩ = some (.string e.account) ∧ w'.cell? ⟨w.heap.size, 4, none⟩ = some (.string e.other) ∧ w'.cell? ⟨w.heap.size, 5, none⟩ = some (.string e.ref) ∧ w'.cell? ⟨w.heap.size, 6, none⟩ = some (.string e.ref2) ∧ w'.cell? ⟨w.heap.size, 7, none⟩ = some (.int .i64 e.typ) ∧ w'.cell? ⟨w.heap.size, 8, none⟩ = some (.int .i64 e.due) ∧ w'.cell? ⟨w.heap.size, 9, none⟩ = some (.int .i64 e.amount) ∧ w'.cell? ⟨w.heap.size, 10, none⟩ = some (.string e.memo) ∧ w'.cell? ⟨w.heap.size, 11, none⟩ = some (lv)) (by kernel_rfl) ?_
    refine wpAnyN_take (i := 0) (v := ?_) rfl (by kernel_rfl) (by kernel_rfl) (by kernel_rfl) (by kernel_rfl) (fun _ _ _ h => h) (Or.inl ⟨by kernel_rfl, ?y11⟩) hHeld4 ?_
    case y11 =>
      intro w0 hSw
      (try dsimp only at hSw)
      go_simp
      try with_reducible rfl
    try simp only [Act.put, qa14, qb14, qc14, qd14, qe14, qf14]
    refine wpAnyN_take (i := 1) (v := ?_) rfl (by kernel_rfl) (by kernel_rfl) (by kernel_rfl) (by kernel_rfl) (fun _ _ _ h => h) (Or.inl ⟨by kernel_rfl, ?y12⟩) hHeld4 ?_
    case y12 =>
      intro w0 hSw
      (try dsimp only at hSw)
      go_simp
      try with_reducible rfl
    try simp only [Act.put, qa14, qb14, qc14, qd14, qe14, qf14]
    refine wpAnyN_take (i := 2) (v := ?_) rfl (by kernel_rfl) (by kernel_rfl) (by kernel_rfl) (by kernel_rfl) (fun _ _ _ h => h) (Or.inl ⟨by kernel_rfl, ?y13⟩) hHeld4 ?_
    case y13 =>
      intro w0 hSw
      (try dsimp only at hSw)
      go_simp
      try with_reducible rfl
    try simp only [Act.put, qa14, qb14, qc14, qd14, qe14, qf14]
    refine wpAnyN_take (i := 3) (v := ?_) rfl (by kernel_rfl) (by kernel_rfl) (by kernel_rfl) (by kernel_rfl) (fun _ _ _ h => h) (Or.inl ⟨by kernel_rfl, ?y14⟩) hHeld4 ?_
    case y14 =>
      intro w0 hSw
      (try dsimp only at hSw)
      go_simp
      try with_reducible rfl
    try simp only [Act.put, qa14, qb14, qc14, qd14, qe14, qf14]
    refine wpAnyN_take (i := 4) (v := ?_) rfl (by kernel_rfl) (by kernel_rfl) (by kernel_rfl) (by kernel_rfl) (fun _ _ _ h => h) (Or.inl ⟨by kernel_rfl, ?y15⟩) hHeld4 ?_
    case y15 =>
      intro w0 hSw
      (try dsimp only at hSw)
      go_simp
      try with_reducible rfl
    try simp only [Act.put, qa14, qb14, qc14, qd14, qe14, qf14]
    refine wpAnyN_take (i := 5) (v := ?_) rfl (by kernel_rfl) (by kernel_rfl) (by kernel_rfl) (by kernel_rfl) (fun _ _ _ h => h) (Or.inl ⟨by kernel_rfl, ?y16⟩) hHeld4 ?_
    case y16 =>
      intro w0 hSw
      (try dsimp only at hSw)
      go_simp
      try with_reducible rfl
    try simp only [Act.put, qa14, qb14, qc14, qd14, qe14, qf14]
    refine wpAnyN_step (i := 6) (by kernel_rfl) rfl (fun K hK => ?_)
    go_simp
    go_at_call 12
    refine hcop2.mono ?_
    rintro en wc2 ⟨cv2, rfl, hcv2, hbc2⟩
    have hbc2 := below_undrew hbc2
    have hcv2 : wc2.ownsRow wa.heap.size 90 3 cv2 e.lines.length (e.lines.map encLine).flatten := hcv2
    obtain ⟨dA, dc, hdf⟩ := own_form hcv2
    subst hdf
    have hkc2 : wc2.heap[bt]? = wa.heap[bt]? := hbc2.block bt hbla
    have hkB2 : wc2.heap[w.heap.size]? = W0.heap[w.heap.size]? := (hbc2.block _ hBla).trans HBA.out
    have HBC2 := Lib.hid hbc2
    have HCV2 := Lib.hid hcv2
    have hHeld5 : wc2.cell? ⟨bt, 1, none⟩ = some (.slice tA t.T.length tc) ∧ wc2.cell? ⟨w.heap.size, 0, none⟩ = some (.int .i64 e.kind) ∧ wc2.cell? ⟨w.heap.size, 1, none⟩ = some (.int .i64 e.day) ∧ wc2.cell? ⟨w.heap.size, 2, none⟩ = some (.string e.key) ∧ wc2.cell? ⟨w.heap.size, 3, none⟩ = some (.string e.account) ∧ wc2.cell? ⟨w.heap.size, 4, none⟩ = some (.string e.other) ∧ wc2.cell? ⟨w.heap.size, 5, none⟩ = some (.string e.ref) ∧ wc2.cell? ⟨w.heap.size, 6, none⟩ = some (.string e.ref2) ∧ wc2.cell? ⟨w.heap.size, 7, none⟩ = some (.int .i64 e.typ) ∧ wc2.cell? ⟨w.heap.size, 8, none⟩ = some (.int .i64 e.due) ∧ wc2.cell? ⟨w.heap.size, 9, none⟩ = some (.int .i64 e.amount) ∧ wc2.cell? ⟨w.heap.size, 10, none⟩ = some (.string e.memo) ∧ wc2.cell? ⟨w.heap.size, 11, none⟩ = some (lv) := ⟨(HHDA.out _ hkc2).1, HK.out _ hkB2⟩
    have HOW := Lib.hid (World.ownsRow.alloc (w := wc2) (own_below HOT.out hbc2) (.cells #[.int .i64 e.kind, .int .i64 e.day, .string e.key, .string e.account, .string e.other, .string e.ref, .string e.ref2, .int .i64 e.typ, .int .i64 e.due, .int .i64 e.amount, .string e.memo, .slice dA e.lines.length dc] 25))
    have hHeld6 : ∀ o, (wc2.alloc o).cell? ⟨bt, 1, none⟩ = some (.slice tA t.T.length tc) ∧ (wc2.alloc o).cell? ⟨w.heap.size, 0, none⟩ = some (.int .i64 e.kind) ∧ (wc2.alloc o).cell? ⟨w.heap.size, 1, none⟩ = some (.int .i64 e.day) ∧ (wc2.alloc o).cell? ⟨w.heap.size, 2, none⟩ = some (.string e.key) ∧ (wc2.alloc o).cell? ⟨w.heap.size, 3, none⟩ = some (.string e.account) ∧ (wc2.alloc o).cell? ⟨w.heap.size, 4, none⟩ = some (.string e.other) ∧ (wc2.alloc o).cell? ⟨w.heap.size, 5, none⟩ = some (.string e.ref) ∧ (wc2.alloc o).cell? ⟨w.heap.size, 6, none⟩ = some (.string e.ref2) ∧ (wc2.alloc o).cell? ⟨w.heap.size, 7, none⟩ = some (.int .i64 e.typ) ∧ (wc2.alloc o).cell? ⟨w.heap.size, 8, none⟩ = some (.int .i64 e.due) ∧ (wc2.alloc o).cell? ⟨w.heap.size, 9, none⟩ = some (.int .i64 e.amount) ∧ (wc2.alloc o).cell? ⟨w.heap.size, 10, none⟩ = some (.string e.memo) ∧ (wc2.alloc o).cell? ⟨w.heap.size, 11, none⟩ = some (lv) := fun o => ⟨(HHDA.out _ ((Below.heap_alloc wc2 o bt (Nat.lt_of_lt_of_le hbla hbc2.size)).trans hkc2)).1, HK.out _ ((Below.heap_alloc wc2 o _ (Nat.lt_of_lt_of_le hBla hbc2.size)).trans hkB2)⟩
    clear hcop2 hcv2 hbc2
    go_wp2_with fail
    refine hK.out _ _ (fun _ => hHeld5) ?_
    clear hK K
    try simp only [Act.put, qa14, qb14, qc14, qd14, qe14, qf14]
    refine wpAnyN_step (i := 7) (by kernel_rfl) rfl (fun K hK => ?_)
    go_simp
    refine hK.out _ _ (fun _ => hHeld6 _) ?_
    clear hK K
    try simp only [Act.put, qa14, qb14, qc14, qd14, qe14, qf14]
    refine wpAnyN_step (i := 8) (by kernel_rfl) rfl (fun K hK => ?_)
    refine step_append_lies _ rfl _ _ 22 rfl 0 25 ie (.agg #[.int .i64 0, .int .i64 0, .string ByteArray.empty, .string ByteArray.empty, .string ByteArray.empty, .string ByteArray.empty, .string ByteArray.empty, .int .i64 0, .int .i64 0, .int .i64 0, .string ByteArray.empty, .slice none 0 0]) 12 160 Tryz.underlying22 hie hez0 hez1 hez2 rfl (by decide) (.slice tA t.T.length tc) t.T.length _ (by simp [Act.eval, Act.put]) HOW.out ⟨wc2.heap.size, 0, none⟩ 1 1 (evCs e (.slice dA e.lines.length dc)).toList (by simp [Act.eval, Act.put]) rfl (World.news_of_block (World.alloc_heap_new wc2 _)) (ev_one _ _ _ _) (by decide) (by unfold maxLen; omega) (by omega) (Nat.zero_le _) _ rfl ?_
    intro g cap w4 hown4 hgrow4 hat4 hlt4
    have hk4 : ∀ k, k < wc2.heap.size → (Value.slice tA t.T.length tc).ownBlock ≠ some k → w4.heap[k]? = wc2.heap[k]? := fun k hk hn => (hgrow4.block k (by simp; omega) fun e' => hn e'.symm).trans (Below.heap_alloc wc2 _ k hk)
    have hbt4 : w4.heap[bt]? = wa.heap[bt]? := (hk4 bt (Nat.lt_of_lt_of_le hbla HBC2.out.size) fun e' => (HPA.out.TF bt e').2.2 rfl).trans hkc2
    have hB4 : w4.heap[w.heap.size]? = W0.heap[w.heap.size]? := (hk4 _ (Nat.lt_of_lt_of_le hBla HBC2.out.size) fun e' => by have := HP.out.lt w.heap.size (.inr (.inr (.inr (.inl e')))); omega).trans hkB2
    obtain ⟨q1, _, f1, _⟩ := HHDA.out w4 hbt4
    have hHeld7 : w4.cell? ⟨bt, 1, none⟩ = some (.slice tA t.T.length tc) ∧ w4.cell? ⟨w.heap.size, 0, none⟩ = some (.int .i64 e.kind) ∧ w4.cell? ⟨w.heap.size, 1, none⟩ = some (.int .i64 e.day) ∧ w4.cell? ⟨w.heap.size, 2, none⟩ = some (.string e.key) ∧ w4.cell? ⟨w.heap.size, 3, none⟩ = some (.string e.account) ∧ w4.cell? ⟨w.heap.size, 4, none⟩ = some (.string e.other) ∧ w4.cell? ⟨w.heap.size, 5, none⟩ = some (.string e.ref) ∧ w4.cell? ⟨w.heap.size, 6, none⟩ = some (.string e.ref2) ∧ w4.cell? ⟨w.heap.size, 7, none⟩ = some (.int .i64 e.typ) ∧ w4.cell? ⟨w.heap.size, 8, none⟩ = some (.int .i64 e.due) ∧ w4.cell? ⟨w.heap.size, 9, none⟩ = some (.int .i64 e.amount) ∧ w4.cell? ⟨w.heap.size, 10, none⟩ = some (.string e.memo) ∧ w4.cell? ⟨w.heap.size, 11, none⟩ = some (lv) := ⟨q1, HK.out _ hB4⟩
    have H4 := Lib.hid (And.intro hown4 (And.intro hgrow4 (And.intro hat4 (And.intro hlt4 hk4))))
    clear hown4 hgrow4 hat4 hlt4 hk4 hHeld6
    refine hK.out _ _ (fun _ => hHeld7) ?_
    clear hK K
    try simp only [Act.put, qa14, qb14, qc14, qd14, qe14, qf14]
    refine wpAnyN_step (i := 9) (by kernel_rfl) rfl (fun K hK => ?_)
    go_simp
    refine hK.out _ _ (fun _ => hHeld7) ?_
    clear hK K
    try simp only [Act.put, qa14, qb14, qc14, qd14, qe14, qf14]
    refine wpAnyN_step (i := 10) (by kernel_rfl) rfl (fun K hK => ?_)
    go_simp
    refine hK.out _ _ (fun _ => hHeld7) ?_
    clear hK K
    try simp only [Act.put, qa14, qb14, qc14, qd14, qe14, qf14]
    refine wpAnyN_step (i := 11) (by kernel_rfl) rfl (fun K hK => ?_)
    go_simp
    refine hK.out _ _ (fun h => absurd h (by decide)) ?_
    clear hK K
    try simp only [Act.put, qa14, qb14, qc14, qd14, qe14, qf14]
    refine wpAnyN_done (by kernel_rfl) ?_ _
    obtain ⟨hown4, hgrow4, hat4, hlt4, hk4⟩ := H4.out
    have hHV := heap_setCell_same (i := 1) (hbt4.trans HPA.out.head) (.slice (some ⟨g, 0, none⟩) (t.T.length + 1) cap)
    have hkV : ∀ k, k ≠ bt → (w4.setCell ⟨bt, 1, none⟩ (.slice (some ⟨g, 0, none⟩) (t.T.length + 1) cap)).heap[k]? = w4.heap[k]? := fun k hk => Below.heap_setCell _ _ _ _ hk
    have hsV : (w4.setCell ⟨bt, 1, none⟩ (.slice (some ⟨g, 0, none⟩) (t.T.length + 1) cap)).heap.size = w4.heap.size := by simp [World.setCell]
    have hcV := ((((Ch.refl (fun k => k = bt ∨ (Value.slice tA t.T.length tc).ownBlock = some k ∨ (Value.slice rA t.S.rows.length rc).ownBlock = some k) wa).below HBC2.out).alloc (.cells #[.int .i64 e.kind, .int .i64 e.day, .string e.key, .string e.account, .string e.other, .string e.ref, .string e.ref2, .int .i64 e.typ, .int .i64 e.due, .int .i64 e.amount, .string e.memo, .slice dA e.lines.length dc] 25)).grown hgrow4 fun k hk => .inl (.inr (.inl hk))).setCell (p := ⟨bt, 1, none⟩) (.inl (.inl rfl)) (.slice (some ⟨g, 0, none⟩) (t.T.length + 1) cap)
    generalize w4.setCell ⟨bt, 1, none⟩ (.slice (some ⟨g, 0, none⟩) (t.T.length + 1) cap) = V at hHV hkV hsV hcV ⊢
    have hs2 := HBC2.out.size
    have hs4 := hgrow4.size
    rw [World.size_alloc] at hs4
    have htvlt : ∀ k, (Value.slice tA t.T.length tc).ownBlock = some k → k < w.heap.size ∧ k ≠ bt := fun k e' => ⟨HP.out.lt k (.inr (.inr (.inr (.inl e')))), (HP.out.TF k e').2.2⟩
    have hrvlt : ∀ k, (Value.slice rA t.S.rows.length rc).ownBlock = some k → k < w.heap.size ∧ k ≠ bt := fun k e' => ⟨HP.out.lt k (.inr (.inr (.inr (.inr e')))), (HP.out.RF k e').2.2.1⟩
    have hgw : (Value.slice tA t.T.length tc).ownBlock = some g ∨ wc2.heap.size ≤ g := by
      rcases hat4 with h | h
      · exact .inl h
      · right; subst h; simp
    have hgb : g ≠ bt := fun e' => by
      rcases hgw with h | h
      · exact (htvlt g h).2 e'
      · omega
    have hkk : ∀ k, k < wa.heap.size → k ≠ bt → (Value.slice tA t.T.length tc).ownBlock ≠ some k → V.heap[k]? = wa.heap[k]? := fun k hk hn ho => (hkV k hn).trans ((hk4 k (by omega) ho).trans (HBC2.out.block k hk))
    have hcvl : ∀ k, (Value.slice dA e.lines.length dc).ownBlock = some k → wa.heap.size ≤ k ∧ k < wc2.heap.size := fun k e' => HCV2.out.lt k e'
    have hpV := HPA.out.take_step (W := V) e ⟨HZ.out, HIN.out⟩ (cv := .slice dA e.lines.length dc) (g := g) (cap := cap) (by omega) hkk hHV
      (ownsRow_keep hown4 fun k e' => hkV k (by obtain rfl : k = g := (Option.some.inj e').symm; exact hgb))
      (hgw.imp id (by intro h; omega))
      (ownsRow_keep HCV2.out fun k e' => (hkV k (by have := hcvl k e'; omega)).trans (hk4 k (hcvl k e').2 fun e'' => by have := htvlt k e''; have := hcvl k e'; omega))
      (fun e' => by have h1 := hcvl g e'; rcases hgw with h | h; have := htvlt g h; omega; omega)
    have hrv1V := ownsRow_keep (w' := V) HAP.out.1 fun k e' => by
      have h1 := HRVT.out k e'
      exact hkk k h1.2.2 (fun e'' => h1.1 (.inr (.inr (.inl e'')))) fun e'' => h1.1 (.inr (.inr (.inr (.inl e''))))
    have hV2 : ∀ W : World, W.heap[bt]? = V.heap[bt]? → W.cell? ⟨bt, 2, none⟩ = some (.slice rA t.S.rows.length rc) ∧ W.frozen? ⟨bt, 2, none⟩ = false := fun W hW =>
      ⟨by rw [cell_of_blk (hW.trans hpV.head)]; rfl, frozen_blk (hW.trans hpV.head) 2⟩
    have hbV : bt < V.heap.size := by omega
    have HV2 := Lib.hid hV2
    have HPV := Lib.hid hpV
    have HRV1 := Lib.hid hrv1V
    have HHV := Lib.hid hHV
    have HCV := Lib.hid hcV
    have HGW := Lib.hid hgw
    have HGB := Lib.hid hgb
    have HCVL := Lib.hid hcvl
    have HTL2 := Lib.hid htvlt
    have HRL2 := Lib.hid hrvlt
    have hwaV : wc2.heap.size ≤ V.heap.size := by omega
    have hgl : g < V.heap.size := by omega
    have hHeldV : V.drew.cell? ⟨bt, 2, none⟩ = some (.slice rA t.S.rows.length rc) := (hV2 V.drew rfl).1
    clear hown4 hgrow4 hat4 hlt4 hk4 H4 hHV hkV hsV hcV htvlt hrvlt hgw hgb hkk hcvl hpV hrv1V hV2 hHeld4 hHeld5 hHeld7 hbt4 hB4 q1 f1 HOW HOT hs4 hkc2 hkB2
    go_wp2
    refine wp_region_n (n := 10) (S := fun w' => w'.cell? ⟨bt, 2, none⟩ = some (.slice rA t.S.rows.length rc)) (by kernel_rfl) ?_
    refine wpAnyN_take (i := 0) (v := ?_) rfl (by kernel_rfl) (by kernel_rfl) (by kernel_rfl) (by kernel_rfl) (fun _ _ _ h => h) (Or.inl ⟨by kernel_rfl, ?y17⟩) hHeldV ?_
    case y17 =>
      intro w0 hSw
      (try dsimp only at hSw)
      go_simp
      try with_reducible rfl
    try simp only [Act.put, qa14, qb14, qc14, qd14, qe14, qf14]
    refine wpAnyN_take (i := 1) (v := ?_) rfl (by kernel_rfl) (by kernel_rfl) (by kernel_rfl) (by kernel_rfl) (fun _ _ _ h => h) (Or.inl ⟨by kernel_rfl, ?y18⟩) hHeldV ?_
    case y18 =>
      intro w0 hSw
      (try dsimp only at hSw)
      go_simp
      try with_reducible rfl
    try simp only [Act.put, qa14, qb14, qc14, qd14, qe14, qf14]
    refine wpAnyN_take (i := 2) (v := ?_) rfl (by kernel_rfl) (by kernel_rfl) (by kernel_rfl) (by kernel_rfl) (fun _ _ _ h => h) (Or.inl ⟨by kernel_rfl, ?y19⟩) hHeldV ?_
    case y19 =>
      intro w0 hSw
      (try dsimp only at hSw)
      go_simp
      try with_reducible rfl
    try simp only [Act.put, qa14, qb14, qc14, qd14, qe14, qf14]
    refine wpAnyN_take (i := 3) (v := ?_) rfl (by kernel_rfl) (by kernel_rfl) (by kernel_rfl) (by kernel_rfl) (fun _ _ _ h => h) (Or.inl ⟨by kernel_rfl, ?y20⟩) hHeldV ?_
    case y20 =>
      intro w0 hSw
      (try dsimp only at hSw)
      go_simp
      try with_reducible rfl
    try simp only [Act.put, qa14, qb14, qc14, qd14, qe14, qf14]
    refine wpAnyN_take (i := 4) (v := ?_) rfl (by kernel_rfl) (by kernel_rfl) (by kernel_rfl) (by kernel_rfl) (fun _ _ _ h => h) (Or.inl ⟨by kernel_rfl, ?y21⟩) hHeldV ?_
    case y21 =>
      intro w0 hSw
      (try dsimp only at hSw)
      go_simp
      try with_reducible rfl
    try simp only [Act.put, qa14, qb14, qc14, qd14, qe14, qf14]
    refine wpAnyN_take (i := 5) (v := ?_) rfl (by kernel_rfl) (by kernel_rfl) (by kernel_rfl) (by kernel_rfl) (fun _ _ _ h => h) (Or.inl ⟨by kernel_rfl, ?y22⟩) hHeldV ?_
    case y22 =>
      intro w0 hSw
      (try dsimp only at hSw)
      go_simp
      try with_reducible rfl
    try simp only [Act.put, qa14, qb14, qc14, qd14, qe14, qf14]
    refine wpAnyN_step (i := 6) (by kernel_rfl) rfl (fun K hK => ?_)
    refine step_append_row rfl _ _ 29 rfl wa.heap.size 39 ip (.agg #[.int .i64 0, .int .i64 0, .int .i64 0, .int .i64 0, .string ByteArray.empty, .string ByteArray.empty, .int .i64 0, .string ByteArray.empty, .string ByteArray.empty]) 9 104 Tryz.underlying29 hip hpz0 hpz1 hpz2 rfl (by decide) (.slice none 0 0) 0 [] (by simp [Act.eval]) (World.ownsRow_nil _ _ _ _) (.slice vA m vc) ((applyR t.S e).map encPost) (by simp [Act.eval, Act.put]) (row_posts' HMM.out HRV1.out) (NilOk.own HRV1.out) (posts_len _) (posts_one _) (by rw [List.length_map, ← HMM.out]; unfold maxLen; omega) (by rw [List.length_map, ← HMM.out]; omega) (by show wa.heap.size ≤ V.heap.size; omega) ?_
    intro v6 w6 hown6 hgrow6 hat6
    have hown6 : w6.ownsRow wa.heap.size 39 9 v6 (applyR t.S e).length ((applyR t.S e).map encPost).flatten := by simpa using hown6
    obtain ⟨sA, sc, hs6f⟩ := own_form hown6
    subst hs6f
    have hbt6 : w6.heap[bt]? = V.heap[bt]? := hgrow6.block bt hbV (by simp [Value.ownBlock])
    have hHeld8 : w6.cell? ⟨bt, 2, none⟩ = some (.slice rA t.S.rows.length rc) := (HV2.out _ hbt6).1
    have HOW6 := Lib.hid (ownsRow_keep (w' := w6) HPV.out.rows fun k e' => hgrow6.block k (by have := (HPV.out.rows.lt k e').2; exact this) (by simp [Value.ownBlock]))
    have HG6 := Lib.hid hgrow6
    have HO6 := Lib.hid hown6
    clear hown6 hgrow6 hat6
    refine hK.out _ _ (fun _ => hHeld8) ?_
    clear hK K
    try simp only [Act.put, qa14, qb14, qc14, qd14, qe14, qf14]
    refine wpAnyN_step (i := 7) (by kernel_rfl) rfl (fun K hK => ?_)
    refine step_append_row rfl _ _ 29 rfl 0 39 ip (.agg #[.int .i64 0, .int .i64 0, .int .i64 0, .int .i64 0, .string ByteArray.empty, .string ByteArray.empty, .int .i64 0, .string ByteArray.empty, .string ByteArray.empty]) 9 104 Tryz.underlying29 hip hpz0 hpz1 hpz2 rfl (by decide) (.slice rA t.S.rows.length rc) t.S.rows.length _ (by simp [Act.eval, Act.put]) HOW6.out (.slice sA (applyR t.S e).length sc) ((applyR t.S e).map encPost) (by simp [Act.eval, Act.put]) (row_posts HO6.out) (NilOk.own HO6.out) (posts_len _) (posts_one _) (by rw [List.length_map, ← HMM.out]; unfold maxLen; omega) (by rw [List.length_map, ← HMM.out]; omega) (Nat.zero_le _) ?_
    intro v7 w7 hown7 hgrow7 hat7
    have hown7 : w7.ownsRow 0 39 9 v7 (t.S.rows.length + (applyR t.S e).length) ((t.S.rows.map encPost).flatten ++ ((applyR t.S e).map encPost).flatten) := by simpa using hown7
    obtain ⟨uA, uc, hu7⟩ := own_form hown7
    subst hu7
    have hbt7 : w7.heap[bt]? = V.heap[bt]? := (hgrow7.block bt (Nat.lt_of_lt_of_le hbV HG6.out.size) (fun e' => (HRL2.out bt e'.symm).2 rfl)).trans hbt6
    have hHeld9 : w7.cell? ⟨bt, 2, none⟩ = some (.slice rA t.S.rows.length rc) := (HV2.out _ hbt7).1
    have f27 := (HV2.out _ hbt7).2
    have H7 := Lib.hid (And.intro hown7 (And.intro hgrow7 hat7))
    clear hown7 hgrow7 hat7
    refine hK.out _ _ (fun _ => hHeld9) ?_
    clear hK K
    try simp only [Act.put, qa14, qb14, qc14, qd14, qe14, qf14]
    refine wpAnyN_step (i := 8) (by kernel_rfl) rfl (fun K hK => ?_)
    go_simp
    refine hK.out _ _ (fun _ => hHeld9) ?_
    clear hK K
    try simp only [Act.put, qa14, qb14, qc14, qd14, qe14, qf14]
    refine wpAnyN_step (i := 9) (by kernel_rfl) rfl (fun K hK => ?_)
    go_simp
    refine hK.out _ _ (fun _ => hHeld9) ?_
    clear hK K
    try simp only [Act.put, qa14, qb14, qc14, qd14, qe14, qf14]
    refine wpAnyN_step (i := 10) (by kernel_rfl) rfl (fun K hK => ?_)
    go_simp
    refine hK.out _ _ (fun h => absurd h (by decide)) ?_
    clear hK K
    try simp only [Act.put, qa14, qb14, qc14, qd14, qe14, qf14]
    refine wpAnyN_done (by kernel_rfl) ?_ _
    obtain ⟨hown7, hgrow7, hat7⟩ := H7.out
    have hH9 := heap_setCell_same (i := 2) (hbt7.trans HPV.out.head) (.slice uA (t.S.rows.length + (applyR t.S e).length) uc)
    have hk9 : ∀ k, k ≠ bt → (w7.setCell ⟨bt, 2, none⟩ (.slice uA (t.S.rows.length + (applyR t.S e).length) uc)).heap[k]? = w7.heap[k]? := fun k hk => Below.heap_setCell _ _ _ _ hk
    have hs9 : (w7.setCell ⟨bt, 2, none⟩ (.slice uA (t.S.rows.length + (applyR t.S e).length) uc)).heap.size = w7.heap.size := by simp [World.setCell]
    have hc6 := HCV.out.drew.grown HG6.out fun k hk => by cases hk
    have hc7 := hc6.grown hgrow7 fun k hk => Or.inl (Or.inr (Or.inr hk))
    have hc9 := hc7.setCell (p := ⟨bt, 2, none⟩) (Or.inl (Or.inl rfl)) (.slice uA (t.S.rows.length + (applyR t.S e).length) uc)
    generalize w7.setCell ⟨bt, 2, none⟩ (.slice uA (t.S.rows.length + (applyR t.S e).length) uc) = V9 at hH9 hk9 hs9 hc9 ⊢
    go_wp2
    go_ret2
    have hs6 := HG6.out.size
    have hs7 := hgrow7.size
    have hs6' : V.heap.size ≤ w6.heap.size := hs6
    have hk6 : ∀ k, k < V.heap.size → w6.heap[k]? = V.heap[k]? := fun k hk => HG6.out.block k hk (by simp [Value.ownBlock])
    have hk79 : ∀ k, k < V.heap.size → k ≠ bt → (Value.slice rA t.S.rows.length rc).ownBlock ≠ some k → V9.heap[k]? = V.heap[k]? := fun k hk hn ho => ((hk9 k hn).trans (hgrow7.block k (by omega) fun e' => ho e'.symm)).trans (hk6 k hk)
    have hg7 : ∀ k, (Value.slice uA (t.S.rows.length + (applyR t.S e).length) uc).ownBlock = some k → (Value.slice rA t.S.rows.length rc).ownBlock = some k ∨ V.heap.size ≤ k := fun k e' => by
      rcases hat7 with h | h
      · exact .inl (h ▸ e')
      · right
        rw [h] at e'
        have := Option.some.inj e'
        omega
    have hp9 := HPV.out.rows_step (W := V9) (applyR t.S e) (by omega) hk79 hH9
      (ownsRow_keep hown7 fun k e' => hk9 k fun e'' => by subst e''; rcases hg7 _ e' with h | h; exact (HRL2.out _ h).2 rfl; omega) hg7
    have hfin := hown7.lt
    have hrow : t.S.rows ++ applyR t.S e = (applyS t.S e).rows := (apply_rows t.S e).symm
    rw [hrow] at hp9
    refine ⟨_, toldH F1 (fun k => G k ∨ (Value.slice dA e.lines.length dc).ownBlock = some k) bt (.slice (some ⟨g, 0, none⟩) (t.T.length + 1) cap) (.slice uA (t.S.rows.length + (applyR t.S e).length) uc), fun k => G k ∨ (Value.slice dA e.lines.length dc).ownBlock = some k, by rw [decide_eq_true HC.out]; rfl, by rw [HTL.out]; exact ⟨F1, bb, _, _, _, hp9, fun k => Iff.rfl⟩, ?_, ?_, ?_, ?_, fun k hk => .inl hk⟩
    · rw [← HMM.out]
      have hsc := HBC.out.size
      refine (ownsRow_keep HRV1.out fun k e' => ?_).mono (by omega)
      have h1 := HRVT.out k e'
      exact hk79 k (by omega) (fun e'' => h1.1 (.inr (.inr (.inl e'')))) fun e'' => h1.1 (.inr (.inr (.inr (.inr e''))))
    · refine HCHH.out.trans hc9 fun k hk => ?_
      rcases hk with rfl | hk | hk
      · exact .inl ((HHH.out _).2 (.inr (.inr (.inl rfl))))
      · exact .inl ((HHH.out k).2 (.inr (.inr (.inr (.inl hk)))))
      · exact .inl ((HHH.out k).2 (.inr (.inr (.inr (.inr hk)))))
    · intro k hk
      have hsc := HBC.out.size
      rcases hk with h1 | h1 | h1 | h1 | h1
      · rcases HNH.out k (.inl h1) with h2 | h2
        · exact .inl h2
        · exact .inr ⟨h2.1, by omega⟩
      · rcases h1 with h1 | h1
        · exact .inl ((HHH.out k).2 (.inr (.inl h1)))
        · have := HCVL.out k h1; exact .inr ⟨by omega, by omega⟩
      · exact .inl ((HHH.out k).2 (.inr (.inr (.inl h1))))
      · obtain rfl : k = g := (Option.some.inj h1).symm
        rcases HGW.out with h2 | h2
        · exact .inl ((HHH.out k).2 (.inr (.inr (.inr (.inl h2)))))
        · exact .inr ⟨by omega, by omega⟩
      · rcases hg7 k h1 with h2 | h2
        · exact .inl ((HHH.out k).2 (.inr (.inr (.inr (.inr h2)))))
        · have := (hfin k h1).2
          exact .inr ⟨by omega, by omega⟩
    · intro k e' hk
      have h1 := HRVT.out k e'
      rcases hk with h2 | h2 | h2 | h2 | h2
      · exact h1.1 (.inl h2)
      · rcases h2 with h2 | h2
        · exact h1.1 (.inr (.inl h2))
        · have := HCVL.out k h2; omega
      · exact h1.1 (.inr (.inr (.inl h2)))
      · obtain rfl : k = g := (Option.some.inj h2).symm
        rcases HGW.out with h3 | h3
        · exact h1.1 (.inr (.inr (.inr (.inl h3))))
        · omega
      · rcases hg7 k h2 with h3 | h3
        · exact h1.1 (.inr (.inr (.inr (.inr h3))))
        · omega
  · have he : (r != 0) = true := by rw [bne_iff_ne]; exact hr0
    have hc : checkE t.S e ≠ 0 := fun h => hr0 (HRR.out.trans h)
    have HC := Lib.hid hc
    clear hc hr0
    go_wp2_with (go_at_call 20; refine (num_any _ _).mono ?_; rintro en w' ⟨rfl, hw'⟩; obtain rfl := hw'.symm)
    go_ret2
    have hc := HC.out
    have hS : applyS t.S e = t.S := by unfold applyS; rw [if_neg hc]
    have hpa := HPA.out
    rw [hS] at hpa
    refine ⟨_, _, G, by rw [decide_eq_false hc]; rfl, ?_, by rw [← HMM.out]; exact (HAP.out.1).mono (by omega), HCHH.out, HNH.out, fun k e' => (HRVT.out k e').1, fun k hg => hg⟩
    rw [tellF_no hc]
    exact ⟨F1, bb, _, _, tl, hpa, fun k => Iff.rfl⟩
end Go.Proofs.YtgocoofcelggcaaGreatDoor
namespace Go.Proofs.YtgocoofcelggcaaGreatDoor
open Go.RowKit
set_option linter.unusedVariables false
set_option linter.unusedSimpArgs false

/-- A slice of events that is handed in. -/
structure EventsAt (w : World) (v : Value) (l : List EventV) : Prop where
  ex : ∃ A c, v = .slice A l.length c ∧ ∀ j (hj : j < l.length), ∃ ad lv, A = some ad ∧ ad.block < w.heap.size ∧ (∀ i u, (evCs l[j] lv).toList[i]? = some u → w.cell? ((ad.add (j * 12)).add i) = some u) ∧ LinesAt w (fun k => k < w.heap.size) lv l[j].lines ∧ NilOk lv
  len : l.length ≤ 1048576
  small : ∀ e ∈ l, SmallEv e ∧ InEv e

/-- An event handed in by itself. -/
structure EventAt1 (w : World) (lv : Value) (x : EventV) : Prop where
  lines : LinesAt w (fun k => k < w.heap.size) lv x.lines
  nil : NilOk lv
  small : SmallEv x
  num : InEv x
theorem EventsAt.below {w W : World} {v : Value} {l : List EventV} (h : EventsAt w v l) (hb : Below w.heap.size w W) : EventsAt W v l := by
  obtain ⟨⟨A, c, hv, hx⟩, h2, h3⟩ := h
  have hs := hb.size
  refine ⟨⟨A, c, hv, fun j hj => ?_⟩, h2, h3⟩
  obtain ⟨ad, lv, e1, hl, hc, hL, hn⟩ := hx j hj
  exact ⟨ad, lv, e1, by omega, fun i u hu => (hb.cell (p := (ad.add (j * 12)).add i) (by rw [block_add, block_add]; exact hl)).trans (hc i u hu), (hL.below hb).mono fun k hk => by omega, hn⟩

/-- One of them, in any later world. -/
theorem ev_at {w : World} {a : Addr} {x : EventV} {lv : Value} (hlt : a.block < w.heap.size) (h : ∀ i u, (evCs x lv).toList[i]? = some u → w.cell? (a.add i) = some u) : ∀ W, Below w.heap.size w W → W.cell? (a) = some (.int .i64 x.kind) ∧ W.cell? ⟨(a).block, (a).off + 1, none⟩ = some (.int .i64 x.day) ∧ W.cell? ⟨(a).block, (a).off + 2, none⟩ = some (.string x.key) ∧ W.cell? ⟨(a).block, (a).off + 3, none⟩ = some (.string x.account) ∧ W.cell? ⟨(a).block, (a).off + 4, none⟩ = some (.string x.other) ∧ W.cell? ⟨(a).block, (a).off + 5, none⟩ = some (.string x.ref) ∧ W.cell? ⟨(a).block, (a).off + 6, none⟩ = some (.string x.ref2) ∧ W.cell? ⟨(a).block, (a).off + 7, none⟩ = some (.int .i64 x.typ) ∧ W.cell? ⟨(a).block, (a).off + 8, none⟩ = some (.int .i64 x.due) ∧ W.cell? ⟨(a).block, (a).off + 9, none⟩ = some (.int .i64 x.amount) ∧ W.cell? ⟨(a).block, (a).off + 10, none⟩ = some (.string x.memo) ∧ W.cell? ⟨(a).block, (a).off + 11, none⟩ = some (lv) := fun W hb => by
  have hc := fun i u hu => (hb.cell (p := a.add i) (by rw [block_add]; exact hlt)).trans (h i u hu)
  exact ⟨hc 0 _ rfl, hc 1 _ rfl, hc 2 _ rfl, hc 3 _ rfl, hc 4 _ rfl, hc 5 _ rfl, hc 6 _ rfl, hc 7 _ rfl, hc 8 _ rfl, hc 9 _ rfl, hc 10 _ rfl, hc 11 _ rfl⟩

/-- Books behind the first k of the events. -/
structure TellInv (w : World) (l : List EventV) (bt : Nat) (wr : World) (k : Nat) : Prop where
  told : ∃ H G, ToldAt wr H G bt (tellsF toldNew (l.take k)) ∧ ∀ x, H x → w.heap.size ≤ x
  bel : Below w.heap.size w wr

theorem told_ok {l : List EventV} (hs : ∀ e ∈ l, SmallEv e ∧ InEv e) (k : Nat) : ToldOk (tellsF toldNew (l.take k)) := toldOk_new.tells fun e he => (hs e (List.mem_of_mem_take he)).2
theorem tells_take {l : List EventV} {k : Nat} (hk : k < l.length) : tellsF toldNew (l.take (k + 1)) = tellF (tellsF toldNew (l.take k)) l[k] := by
  rw [List.take_succ_eq_append_getElem hk, tellsF_snoc]

theorem told_new {w w1 : World} {F : Nat → Prop} {bb : Nat} (h : BookAt w1 F bb newS) (hF : ∀ k, F k → w.heap.size ≤ k) (hb : Below w.heap.size w w1) :
    TellInv w [] w1.heap.size (w1.alloc (.cells #[ptrV bb, .slice none 0 0, .slice none 0 0] 31)) 0 := by
  have hlt := h.lt
  have hs := hb.size
  refine ⟨⟨toldH F (fun _ => False) w1.heap.size (.slice none 0 0) (.slice none 0 0), fun _ => False, ⟨F, bb, .slice none 0 0, .slice none 0 0, fun _ => .slice none 0 0, ?_, fun k => Iff.rfl⟩, ?_⟩, hb.alloc hs _⟩
  · exact {
      book := h.below (bel1 w1 _)
      head := World.alloc_heap_new w1 _
      taken := World.ownsRow_nil _ _ _ _
      lines := fun i hi => by simp [tellsF, toldNew] at hi
      nil := fun i hi => by simp [tellsF, toldNew] at hi
      small := fun x hx => by simp [tellsF, toldNew] at hx
      rows := World.ownsRow_nil _ _ _ _
      bF := fun hf => by have := hlt _ hf; omega
      Gb := fun h => h
      GF := fun k h => h.elim
      Glt := fun k h => h.elim
      TF := fun k e => by cases e
      RF := fun k e => by cases e }
  · rintro x (h1 | h1 | rfl | h1 | h1)
    · exact hF x h1
    · exact h1.elim
    · exact hs
    · cases h1
    · cases h1
theorem TellInv.zero {w : World} {l : List EventV} {bt : Nat} {wr : World} (h : TellInv w [] bt wr 0) : TellInv w l bt wr 0 := ⟨by simpa using h.told, h.bel⟩
theorem TellInv.below {w wr W : World} {l : List EventV} {bt k : Nat} (h : TellInv w l bt wr k) (hb : Below wr.heap.size wr W) : TellInv w l bt W k := by
  obtain ⟨H, G, h1, h2⟩ := h.told
  exact ⟨⟨H, G, h1.below hb, h2⟩, h.bel.trans (hb.mono h.bel.size)⟩

/-- What one event that is told leaves, beside the invariant. -/
structure TellOut (w : World) (l : List EventV) (bt : Nat) (k : Nat) (t : ToldS) (x : EventV) (n : Nat) (en : Ending) (w' : World) : Prop where
  inv : TellInv w l bt w' (k + 1)
  ret : ∃ A c, en = .returned (.tuple #[.slice A (applyR t.S x).length c, .bool (decide (checkE t.S x = 0))]) ∧ w'.ownsRow n 39 9 (.slice A (applyR t.S x).length c) (applyR t.S x).length ((applyR t.S x).map encPost).flatten ∧
    ∃ H G, ToldAt w' H G bt (tellF t x) ∧ (∀ q, H q → w.heap.size ≤ q) ∧ ∀ q, (Value.slice A (applyR t.S x).length c).ownBlock = some q → ¬ H q

theorem TellInv.tell {w wr : World} {l : List EventV} {bt k : Nat} (h : TellInv w l bt wr k) (hs : ∀ e ∈ l, SmallEv e ∧ InEv e) (hk : k < l.length) {lv : Value} (hL : LinesAt w (fun q => q < w.heap.size) lv l[k].lines) (hn : NilOk lv) :
    Calls Tryz.prog 13 #[ptrV bt, evV l[k] lv] wr (TellOut w l bt k (tellsF toldNew (l.take k)) l[k] wr.heap.size) := by
  obtain ⟨H, G, h1, h2⟩ := h.told
  have hx := hs _ (List.getElem_mem hk)
  have hw := h.bel.size
  refine (tell_any h1 (told_ok hs k) hx.1 hx.2 (hL.below h.bel) hn fun q hq => .inl fun hh => by have := h2 q hh; omega).mono ?_
  rintro en w' ⟨rv, H', G', rfl, ht, hown, hch, hnew, hdis, _⟩
  obtain ⟨A, c, rfl⟩ := own_form hown
  have hH' : ∀ q, H' q → w.heap.size ≤ q := fun q hq => by
    rcases hnew q hq with h3 | h3
    · exact h2 q h3
    · omega
  exact ⟨⟨⟨H', G', by rw [tells_take hk]; exact ht, hH'⟩, h.bel.trans (hch.toBelow hw h2)⟩, A, c, rfl, hown, H', G', ht, hH', hdis⟩

/-! ### What must come -/
def evA : EventV := ⟨1, 10, ⟨#[]⟩, ⟨#[65]⟩, ⟨#[]⟩, ⟨#[]⟩, ⟨#[]⟩, 1, 0, 0, ⟨#[]⟩, []⟩
theorem evA_taken : checkE newS evA = 0 := by kernel_rfl
theorem evA_again : checkE (applyS newS evA) evA = 62 := by kernel_rfl
theorem evA_len : (applyS newS evA).events = 1 := by kernel_rfl
theorem evA_small : SmallEv evA := by
  constructor
  all_goals first | (show (_ : Nat) ≤ _; decide) | (intro x hx; cases hx)
theorem evA_in : InEv evA := by constructor <;> simp [evA, maxA]

theorem BLen_any {w : World} {F : Nat → Prop} {bb : Nat} {S : BookS} (h : BookAt w F bb S) : Calls Tryz.prog 23 #[ptrV bb] w fun en w' => en = .returned (.int .i64 S.events) ∧ w' = w := by
  obtain ⟨ρ, p, hp, _⟩ := h
  have c0 := hp.c0
  unfold ptrV
  go_enter Tryz.func23, Tryz.ntmps23
  go_wp2
  go_ret
  exact ⟨rfl, rfl⟩
theorem BLock_any {w : World} {F : Nat → Prop} {bb : Nat} {S : BookS} (h : BookAt w F bb S) : Calls Tryz.prog 16 #[ptrV bb] w fun en w' => en = .returned (.int .i64 S.lock) ∧ w' = w := by
  obtain ⟨ρ, p, hp, _⟩ := h
  have c12 := hp.c12
  unfold ptrV
  go_enter Tryz.func16, Tryz.ntmps16
  go_wp2
  go_ret
  exact ⟨rfl, rfl⟩

set_option maxRecDepth 100000 in
set_option maxHeartbeats 4000000 in
theorem first_any (w : World) : Calls Tryz.prog 14 #[] w fun en w' => en = .returned (.bool true) ∧ Below w.heap.size w w' := by
  have q28 : ∀ (w : World) (p : Option Addr), (binOp .eql 28 (.pointer p) (.pointer none)).run Tryz.prog w = .ok (.bool p.isNone) w := fun w p => run_eql_pointer_nil w _ p (by kernel_rfl)
  have hnew := New_book w
  have hag := evA_again
  have hle := evA_len
  have hok := ok_apply okT_new evA_in
  obtain ⟨S1, hS1⟩ : ∃ S1, applyS newS evA = S1 := ⟨_, rfl⟩
  rw [hS1] at hag hle hok
  have HS1 := Lib.hid hS1
  have HAG := Lib.hid hag
  have HLE := Lib.hid hle
  have HOK := Lib.hid hok
  clear hag hle hok hS1
  go_enter Tryz.func14, Tryz.ntmps14
  go_wp2_with (first
    | (go_at_call 15; refine hnew.mono ?_; rintro en w1 ⟨rfl, hb1, hz1, hbel1⟩; have hap := apply_any (R := fun _ => False) hb1 okT_new evA_small evA_in none 0 (RowAt.nil _ _ _) (fun k h => h.elim); rw [evA_taken, HS1.out] at hap; unfold evV ptrV evA at hap; unfold ptrV; have HB := Lib.hid hbel1; have HZ := Lib.hid hz1; clear hnew hb1 hbel1 hz1)
    | (go_at_call 22; refine hap.mono ?_; rintro en w2 ⟨rv, F2, rfl, hown, hb2, hch, hnw, hdis⟩; obtain ⟨rA, rc, hrf⟩ := own_form hown; subst hrf; have hln := BLen_any hb2; have hchk := check_any (R := fun _ => False) hb2 HOK.out evA_small evA_in none 0 (RowAt.nil _ _ _); rw [HAG.out] at hchk; rw [HLE.out] at hln; unfold evV ptrV evA at hchk; unfold ptrV at hln; have HC := Lib.hid hch; clear hap hown hb2 hch hnw hdis)
    | (go_at_call 20; refine (num_any _ _).mono ?_; rintro en w' ⟨rfl, rfl⟩)
    | (go_at_call 23; refine hln.mono ?_; rintro en w' ⟨rfl, rfl⟩; clear hln)
    | (go_at_call 21; refine hchk.mono ?_; rintro en w3 ⟨rfl, hb3⟩; have HB3 := Lib.hid hb3; clear hchk hb3))
  go_simp
  go_wp2
  go_ret
  have h2 := HC.out.toBelow (B := w.heap.size) (by have := HZ.out; omega) (fun k hk => hk.1)
  exact ⟨rfl, (HB.out.trans h2).trans (HB3.out.mono (by have := HZ.out; have := HC.out.size; omega))⟩

/-! ### A list told -/
set_option maxRecDepth 100000 in
set_option maxHeartbeats 4000000 in
theorem tellAll_any (w : World) (v : Value) (l : List EventV) (hl : EventsAt w v l) :
    Calls Tryz.prog 11 #[v] w fun en w' => ∃ bt, en = .returned (ptrV bt) ∧ w.heap.size ≤ bt ∧ TellInv w l bt w' (min l.length 400) := by
  obtain ⟨⟨A, c, rfl, hcl⟩, hlen, hsm⟩ := hl
  have HCL := Lib.hid hcl
  have HSM := Lib.hid hsm
  have hnew := New_book w
  clear hcl hsm
  go_enter Tryz.func11, Tryz.ntmps11
  go_wp2_with (go_at_call 15; refine hnew.mono ?_; rintro en w1 ⟨rfl, hb1, hz1, hbel1⟩; unfold ptrV; have HT := Lib.hid (told_new hb1 (fun k hk => hk.1) hbel1); have hz1' : w.heap.size ≤ w1.heap.size := (by omega); clear hnew hb1 hbel1 hz1)
  go_loopw [4] (fun i wr => ∃ k : Nat, i = .int .i64 (k : Int) ∧ k ≤ l.length ∧ k ≤ 400 ∧ TellInv w l w1.heap.size wr k) (fun i _ => l.length - (intOf i).toNat)
  case atStart => exact ⟨0, rfl, Nat.zero_le _, Nat.zero_le _, HT.out.zero⟩
  case round =>
    obtain ⟨k, rfl, hk, hk4, hinv⟩ := hrel
    clear HT
    by_cases hlt : k < l.length
    · by_cases h4 : k < 400
      · obtain ⟨ad, lv, rfl, hab, hcs, hL, hn⟩ := HCL.out k hlt
        have htl := hinv.tell HSM.out hlt hL hn
        obtain ⟨x, hx⟩ : ∃ x, x = l[k] := ⟨_, rfl⟩
        rw [← hx] at hcs htl
        obtain ⟨g0, g1, g2, g3, g4, g5, g6, g7, g8, g9, g10, g11⟩ := ev_at (by rw [block_add]; exact hab) hcs wr hinv.bel
        have h4' : decide ((k : Int) < 400) = true := decide_eq_true (by omega)
        unfold evV ptrV at htl
        clear hcs hL hn hinv hx
        go_wp2_with (go_at_call 13; refine htl.mono ?_; rintro en w2 ⟨hinv, rA, rc, rfl, _⟩; have HI := Lib.hid hinv; clear hinv htl)
        go_roundw
        case rel => exact ⟨k + 1, by go_num, by omega, by omega, HI.out⟩
        case measure => simp [intOf]; omega
      · have hm : min l.length 400 = k := by omega
        have h4' : decide ((k : Int) < 400) = false := decide_eq_false (by omega)
        have HI := Lib.hid hinv
        clear hinv
        go_wp2
        go_ret
        exact ⟨_, rfl, hz1', by rw [hm]; exact HI.out⟩
    · have hm : min l.length 400 = k := by omega
      have HI := Lib.hid hinv
      clear hinv
      go_wp2
      go_ret
      exact ⟨_, rfl, hz1', by rw [hm]; exact HI.out⟩
end Go.Proofs.YtgocoofcelggcaaGreatDoor
namespace Go.Proofs.YtgocoofcelggcaaGreatDoor
open Go.RowKit
set_option linter.unusedVariables false
set_option linter.unusedSimpArgs false

/-- A claim as a base tells it. -/
def encClaim (c : ClaimV) : List Value := [.string c.key, .string c.account, .int .i64 c.day, .int .i64 c.due, .int .i64 c.amount]
theorem meas_up (n q : Nat) (h : q < n) : n - ((q : Int) + 1).toNat < n - q := by omega
/-- A row that is read: its form, and each thing's cells. -/
theorem RowAt.form {w : World} {R : Nat → Prop} {s : Nat} {v : Value} {xs : List (List Value)} (h : RowAt w R s v xs) : ∃ A c, v = .slice A xs.length c ∧ ∀ j (hj : j < xs.length), ∃ ad, A = some ad ∧ ad.block < w.heap.size ∧ R ad.block ∧ ∀ i u, xs[j][i]? = some u → w.cell? ((ad.add (j * s)).add i) = some u := h.ex

set_option maxRecDepth 100000 in
set_option maxHeartbeats 4000000 in
theorem sameLines_at {w : World} {R R' : Nat → Prop} {v v' : Value} (l : List LineV) (h : RowAt w R 3 v (l.map encLine)) (h' : RowAt w R' 3 v' (l.map encLine)) (hl : l.length ≤ 1048576) :
    Calls Tryz.prog 43 #[v, v'] w fun en w' => en = .returned (.bool true) ∧ ∃ m, w' = w.drewN m := by
  obtain ⟨A, c, rfl, hx⟩ := h.form
  obtain ⟨A', c', rfl, hx'⟩ := h'.form
  rw [List.length_map] at *
  have HX := Lib.hid hx
  have HX' := Lib.hid hx'
  clear hx hx' h h'
  go_enter Tryz.func43, Tryz.ntmps43
  go_wp2
  go_loopw [5] (fun i wr => ∃ k : Nat, i = .int .i64 (k : Int) ∧ k ≤ l.length ∧ ∃ m, wr = w.drewN m) (fun i _ => l.length - (intOf i).toNat)
  case atStart => exact ⟨0, rfl, Nat.zero_le _, 0, rfl⟩
  case round =>
    obtain ⟨k, rfl, hk, m, rfl⟩ := hrel
    by_cases hlt : k < l.length
    · obtain ⟨ad, rfl, _, _, hcs⟩ := HX.out k (by rw [List.length_map]; exact hlt)
      obtain ⟨ad', rfl, _, _, hcs'⟩ := HX'.out k (by rw [List.length_map]; exact hlt)
      rw [List.getElem_map] at hcs hcs'
      obtain ⟨r, hr⟩ : ∃ r, r = l[k] := ⟨_, rfl⟩
      rw [← hr] at hcs hcs'
      have c0 : w.cell? (ad.add (k * 3)) = some (.string r.account) := hcs 0 _ rfl
      have c1 : w.cell? ⟨(ad.add (k * 3)).block, (ad.add (k * 3)).off + 1, none⟩ = some (.int .i64 r.amount) := hcs 1 _ rfl
      have c2 : w.cell? ⟨(ad.add (k * 3)).block, (ad.add (k * 3)).off + 2, none⟩ = some (.string r.tag) := hcs 2 _ rfl
      have d0 : w.cell? (ad'.add (k * 3)) = some (.string r.account) := hcs' 0 _ rfl
      have d1 : w.cell? ⟨(ad'.add (k * 3)).block, (ad'.add (k * 3)).off + 1, none⟩ = some (.int .i64 r.amount) := hcs' 1 _ rfl
      have d2 : w.cell? ⟨(ad'.add (k * 3)).block, (ad'.add (k * 3)).off + 2, none⟩ = some (.string r.tag) := hcs' 2 _ rfl
      have hmu := meas_up l.length k hlt
      clear hcs hcs' hr
      go_wp2
      go_quiet (fail)
      go_wp2
      go_roundw
      case rel => exact ⟨k + 1, by go_num, by omega, m + nq, by first | rfl | rw [World.drewN_drewN]⟩
      case measure => simpa [intOf] using hmu
    · go_wp2
      go_ret
      exact ⟨rfl, m, rfl⟩

set_option maxRecDepth 100000 in
set_option maxHeartbeats 4000000 in
theorem sameRows_at {w : World} {R R' : Nat → Prop} {v v' : Value} (l : List PostV) (h : RowAt w R 9 v (l.map encPost)) (h' : RowAt w R' 9 v' (l.map encPost)) (hl : l.length ≤ 1048576) :
    Calls Tryz.prog 27 #[v, v'] w fun en w' => en = .returned (.bool true) ∧ ∃ m, w' = w.drewN m := by
  obtain ⟨A, c, rfl, hx⟩ := h.form
  obtain ⟨A', c', rfl, hx'⟩ := h'.form
  rw [List.length_map] at *
  have HX := Lib.hid hx
  have HX' := Lib.hid hx'
  clear hx hx' h h'
  go_enter Tryz.func27, Tryz.ntmps27
  go_wp2
  go_loopw [5] (fun i wr => ∃ k : Nat, i = .int .i64 (k : Int) ∧ k ≤ l.length ∧ ∃ m, wr = w.drewN m) (fun i _ => l.length - (intOf i).toNat)
  case atStart => exact ⟨0, rfl, Nat.zero_le _, 0, rfl⟩
  case round =>
    obtain ⟨k, rfl, hk, m, rfl⟩ := hrel
    by_cases hlt : k < l.length
    · obtain ⟨ad, rfl, _, _, hcs⟩ := HX.out k (by rw [List.length_map]; exact hlt)
      obtain ⟨ad', rfl, _, _, hcs'⟩ := HX'.out k (by rw [List.length_map]; exact hlt)
      rw [List.getElem_map] at hcs hcs'
      obtain ⟨r, hr⟩ : ∃ r, r = l[k] := ⟨_, rfl⟩
      rw [← hr] at hcs hcs'
      have c0 : w.cell? (ad.add (k * 9)) = some (.int .i64 r.seq) := hcs 0 _ rfl
      have c1 : w.cell? ⟨(ad.add (k * 9)).block, (ad.add (k * 9)).off + 1, none⟩ = some (.int .i64 r.line) := hcs 1 _ rfl
      have c2 : w.cell? ⟨(ad.add (k * 9)).block, (ad.add (k * 9)).off + 2, none⟩ = some (.int .i64 r.day) := hcs 2 _ rfl
      have c3 : w.cell? ⟨(ad.add (k * 9)).block, (ad.add (k * 9)).off + 3, none⟩ = some (.int .i64 r.kind) := hcs 3 _ rfl
      have c4 : w.cell? ⟨(ad.add (k * 9)).block, (ad.add (k * 9)).off + 4, none⟩ = some (.string r.key) := hcs 4 _ rfl
      have c5 : w.cell? ⟨(ad.add (k * 9)).block, (ad.add (k * 9)).off + 5, none⟩ = some (.string r.account) := hcs 5 _ rfl
      have c6 : w.cell? ⟨(ad.add (k * 9)).block, (ad.add (k * 9)).off + 6, none⟩ = some (.int .i64 r.amount) := hcs 6 _ rfl
      have c7 : w.cell? ⟨(ad.add (k * 9)).block, (ad.add (k * 9)).off + 7, none⟩ = some (.string r.tag) := hcs 7 _ rfl
      have c8 : w.cell? ⟨(ad.add (k * 9)).block, (ad.add (k * 9)).off + 8, none⟩ = some (.string r.memo) := hcs 8 _ rfl
      have d0 : w.cell? (ad'.add (k * 9)) = some (.int .i64 r.seq) := hcs' 0 _ rfl
      have d1 : w.cell? ⟨(ad'.add (k * 9)).block, (ad'.add (k * 9)).off + 1, none⟩ = some (.int .i64 r.line) := hcs' 1 _ rfl
      have d2 : w.cell? ⟨(ad'.add (k * 9)).block, (ad'.add (k * 9)).off + 2, none⟩ = some (.int .i64 r.day) := hcs' 2 _ rfl
      have d3 : w.cell? ⟨(ad'.add (k * 9)).block, (ad'.add (k * 9)).off + 3, none⟩ = some (.int .i64 r.kind) := hcs' 3 _ rfl
      have d4 : w.cell? ⟨(ad'.add (k * 9)).block, (ad'.add (k * 9)).off + 4, none⟩ = some (.string r.key) := hcs' 4 _ rfl
      have d5 : w.cell? ⟨(ad'.add (k * 9)).block, (ad'.add (k * 9)).off + 5, none⟩ = some (.string r.account) := hcs' 5 _ rfl
      have d6 : w.cell? ⟨(ad'.add (k * 9)).block, (ad'.add (k * 9)).off + 6, none⟩ = some (.int .i64 r.amount) := hcs' 6 _ rfl
      have d7 : w.cell? ⟨(ad'.add (k * 9)).block, (ad'.add (k * 9)).off + 7, none⟩ = some (.string r.tag) := hcs' 7 _ rfl
      have d8 : w.cell? ⟨(ad'.add (k * 9)).block, (ad'.add (k * 9)).off + 8, none⟩ = some (.string r.memo) := hcs' 8 _ rfl
      have hmu := meas_up l.length k hlt
      clear hcs hcs' hr
      go_wp2
      go_quiet (fail)
      go_wp2
      go_roundw
      case rel => exact ⟨k + 1, by go_num, by omega, m + nq, by first | rfl | rw [World.drewN_drewN]⟩
      case measure => simpa [intOf] using hmu
    · go_wp2
      go_ret
      exact ⟨rfl, m, rfl⟩

set_option maxRecDepth 100000 in
set_option maxHeartbeats 4000000 in
theorem sameClaims_at {w : World} {R R' : Nat → Prop} {v v' : Value} (l : List ClaimV) (h : RowAt w R 5 v (l.map encClaim)) (h' : RowAt w R' 5 v' (l.map encClaim)) (hl : l.length ≤ 1048576) :
    Calls Tryz.prog 44 #[v, v'] w fun en w' => en = .returned (.bool true) ∧ ∃ m, w' = w.drewN m := by
  obtain ⟨A, c, rfl, hx⟩ := h.form
  obtain ⟨A', c', rfl, hx'⟩ := h'.form
  rw [List.length_map] at *
  have HX := Lib.hid hx
  have HX' := Lib.hid hx'
  clear hx hx' h h'
  go_enter Tryz.func44, Tryz.ntmps44
  go_wp2
  go_loopw [5] (fun i wr => ∃ k : Nat, i = .int .i64 (k : Int) ∧ k ≤ l.length ∧ ∃ m, wr = w.drewN m) (fun i _ => l.length - (intOf i).toNat)
  case atStart => exact ⟨0, rfl, Nat.zero_le _, 0, rfl⟩
  case round =>
    obtain ⟨k, rfl, hk, m, rfl⟩ := hrel
    by_cases hlt : k < l.length
    · obtain ⟨ad, rfl, _, _, hcs⟩ := HX.out k (by rw [List.length_map]; exact hlt)
      obtain ⟨ad', rfl, _, _, hcs'⟩ := HX'.out k (by rw [List.length_map]; exact hlt)
      rw [List.getElem_map] at hcs hcs'
      obtain ⟨r, hr⟩ : ∃ r, r = l[k] := ⟨_, rfl⟩
      rw [← hr] at hcs hcs'
      have c0 : w.cell? (ad.add (k * 5)) = some (.string r.key) := hcs 0 _ rfl
      have c1 : w.cell? ⟨(ad.add (k * 5)).block, (ad.add (k * 5)).off + 1, none⟩ = some (.string r.account) := hcs 1 _ rfl
      have c2 : w.cell? ⟨(ad.add (k * 5)).block, (ad.add (k * 5)).off + 2, none⟩ = some (.int .i64 r.day) := hcs 2 _ rfl
      have c3 : w.cell? ⟨(ad.add (k * 5)).block, (ad.add (k * 5)).off + 3, none⟩ = some (.int .i64 r.due) := hcs 3 _ rfl
      have c4 : w.cell? ⟨(ad.add (k * 5)).block, (ad.add (k * 5)).off + 4, none⟩ = some (.int .i64 r.amount) := hcs 4 _ rfl
      have d0 : w.cell? (ad'.add (k * 5)) = some (.string r.key) := hcs' 0 _ rfl
      have d1 : w.cell? ⟨(ad'.add (k * 5)).block, (ad'.add (k * 5)).off + 1, none⟩ = some (.string r.account) := hcs' 1 _ rfl
      have d2 : w.cell? ⟨(ad'.add (k * 5)).block, (ad'.add (k * 5)).off + 2, none⟩ = some (.int .i64 r.day) := hcs' 2 _ rfl
      have d3 : w.cell? ⟨(ad'.add (k * 5)).block, (ad'.add (k * 5)).off + 3, none⟩ = some (.int .i64 r.due) := hcs' 3 _ rfl
      have d4 : w.cell? ⟨(ad'.add (k * 5)).block, (ad'.add (k * 5)).off + 4, none⟩ = some (.int .i64 r.amount) := hcs' 4 _ rfl
      have hmu := meas_up l.length k hlt
      clear hcs hcs' hr
      go_wp2
      go_quiet (fail)
      go_wp2
      go_roundw
      case rel => exact ⟨k + 1, by go_num, by omega, m + nq, by first | rfl | rw [World.drewN_drewN]⟩
      case measure => simpa [intOf] using hmu
    · go_wp2
      go_ret
      exact ⟨rfl, m, rfl⟩

set_option maxRecDepth 100000 in
set_option maxHeartbeats 4000000 in
theorem sameAllots_at {w : World} {R R' : Nat → Prop} {v v' : Value} (l : List AllotV) (h : RowAt w R 4 v (l.map encAllot)) (h' : RowAt w R' 4 v' (l.map encAllot)) (hl : l.length ≤ 1048576) :
    Calls Tryz.prog 45 #[v, v'] w fun en w' => en = .returned (.bool true) ∧ ∃ m, w' = w.drewN m := by
  obtain ⟨A, c, rfl, hx⟩ := h.form
  obtain ⟨A', c', rfl, hx'⟩ := h'.form
  rw [List.length_map] at *
  have HX := Lib.hid hx
  have HX' := Lib.hid hx'
  clear hx hx' h h'
  go_enter Tryz.func45, Tryz.ntmps45
  go_wp2
  go_loopw [5] (fun i wr => ∃ k : Nat, i = .int .i64 (k : Int) ∧ k ≤ l.length ∧ ∃ m, wr = w.drewN m) (fun i _ => l.length - (intOf i).toNat)
  case atStart => exact ⟨0, rfl, Nat.zero_le _, 0, rfl⟩
  case round =>
    obtain ⟨k, rfl, hk, m, rfl⟩ := hrel
    by_cases hlt : k < l.length
    · obtain ⟨ad, rfl, _, _, hcs⟩ := HX.out k (by rw [List.length_map]; exact hlt)
      obtain ⟨ad', rfl, _, _, hcs'⟩ := HX'.out k (by rw [List.length_map]; exact hlt)
      rw [List.getElem_map] at hcs hcs'
      obtain ⟨r, hr⟩ : ∃ r, r = l[k] := ⟨_, rfl⟩
      rw [← hr] at hcs hcs'
      have c0 : w.cell? (ad.add (k * 4)) = some (.string r.pay) := hcs 0 _ rfl
      have c1 : w.cell? ⟨(ad.add (k * 4)).block, (ad.add (k * 4)).off + 1, none⟩ = some (.string r.invoice) := hcs 1 _ rfl
      have c2 : w.cell? ⟨(ad.add (k * 4)).block, (ad.add (k * 4)).off + 2, none⟩ = some (.int .i64 r.day) := hcs 2 _ rfl
      have c3 : w.cell? ⟨(ad.add (k * 4)).block, (ad.add (k * 4)).off + 3, none⟩ = some (.int .i64 r.amount) := hcs 3 _ rfl
      have d0 : w.cell? (ad'.add (k * 4)) = some (.string r.pay) := hcs' 0 _ rfl
      have d1 : w.cell? ⟨(ad'.add (k * 4)).block, (ad'.add (k * 4)).off + 1, none⟩ = some (.string r.invoice) := hcs' 1 _ rfl
      have d2 : w.cell? ⟨(ad'.add (k * 4)).block, (ad'.add (k * 4)).off + 2, none⟩ = some (.int .i64 r.day) := hcs' 2 _ rfl
      have d3 : w.cell? ⟨(ad'.add (k * 4)).block, (ad'.add (k * 4)).off + 3, none⟩ = some (.int .i64 r.amount) := hcs' 3 _ rfl
      have hmu := meas_up l.length k hlt
      clear hcs hcs' hr
      go_wp2
      go_quiet (fail)
      go_wp2
      go_roundw
      case rel => exact ⟨k + 1, by go_num, by omega, m + nq, by first | rfl | rw [World.drewN_drewN]⟩
      case measure => simpa [intOf] using hmu
    · go_wp2
      go_ret
      exact ⟨rfl, m, rfl⟩

end Go.Proofs.YtgocoofcelggcaaGreatDoor
namespace Go.Proofs.YtgocoofcelggcaaGreatDoor
open Go.RowKit
set_option linter.unusedVariables false
set_option linter.unusedSimpArgs false

def invs (S : BookS) : List ClaimV := S.claims.filter fun c => !c.pay
def pays (S : BookS) : List ClaimV := S.claims.filter fun c => c.pay
def encStr (k : ByteArray) : List Value := [.string k]
/-- A base that can be read at v; its rows lie in blocks of R. -/
structure BaseP (w : World) (R : Nat → Prop) (kV aV rV eV iV pV lV : Value) (lv : Nat → Value) (S : BookS) : Prop where
  keys : RowAt w R 1 kV (S.keys.map encStr)
  accs : RowAt w R 4 aV (S.chart.map encA)
  rows : RowAt w R 9 rV (S.rows.map encPost)
  ents : RowAt w R 4 eV (entCells S.entries lv)
  lines : ∀ i (hi : i < S.entries.length), LinesAt w R (lv i) S.entries[i].lines
  lnil : ∀ i, i < S.entries.length → NilOk (lv i)
  invs : RowAt w R 5 iV ((invs S).map encClaim)
  pays : RowAt w R 5 pV ((pays S).map encClaim)
  alls : RowAt w R 4 lV (S.allots.map encAllot)
  nils : NilOk kV ∧ NilOk aV ∧ NilOk rV ∧ NilOk eV ∧ NilOk iV ∧ NilOk pV ∧ NilOk lV

theorem BaseP.keep {w w' : World} {R R' : Nat → Prop} {kV aV rV eV iV pV lV : Value} {lv : Nat → Value} {S : BookS} (h : BaseP w R kV aV rV eV iV pV lV lv S) (hk : ∀ k, R k → k < w.heap.size → w'.heap[k]? = w.heap[k]? ∧ R' k) : BaseP w' R' kV aV rV eV iV pV lV lv S where
  keys := h.keys.keep hk
  accs := h.accs.keep hk
  rows := h.rows.keep hk
  ents := h.ents.keep hk
  lines := fun i hi => (h.lines i hi).keep hk
  lnil := h.lnil
  invs := h.invs.keep hk
  pays := h.pays.keep hk
  alls := h.alls.keep hk
  nils := h.nils
theorem BaseP.below {w w' : World} {R : Nat → Prop} {kV aV rV eV iV pV lV : Value} {lv : Nat → Value} {S : BookS} (h : BaseP w R kV aV rV eV iV pV lV lv S) (hb : Below w.heap.size w w') : BaseP w' R kV aV rV eV iV pV lV lv S := h.keep fun k hR hk => ⟨hb.block k hk, hR⟩
theorem BaseP.ch {w w' : World} {R F : Nat → Prop} {kV aV rV eV iV pV lV : Value} {lv : Nat → Value} {S : BookS} (h : BaseP w R kV aV rV eV iV pV lV lv S) (hc : Ch F w w') (hd : ∀ k, R k → ¬ F k) : BaseP w' R kV aV rV eV iV pV lV lv S := h.keep fun k hR hk => ⟨hc.block k hk (hd k hR), hR⟩

/-- How many of each there are at most. -/
structure BaseLe (S : BookS) : Prop where
  keys : S.keys.length ≤ 1048576
  accs : S.chart.length ≤ 1048576
  rows : S.rows.length ≤ 1048576
  ents : S.entries.length ≤ 1048576
  lines : ∀ x ∈ S.entries, x.lines.length ≤ 1048576
  claims : S.claims.length ≤ 1048576
  alls : S.allots.length ≤ 1048576
theorem BaseLe.invs {S : BookS} (h : BaseLe S) : (Go.Proofs.YtgocoofcelggcaaGreatDoor.invs S).length ≤ 1048576 := by have := h.claims; have := List.length_filter_le (fun c : ClaimV => !c.pay) S.claims; unfold Go.Proofs.YtgocoofcelggcaaGreatDoor.invs; omega
theorem BaseLe.pays {S : BookS} (h : BaseLe S) : (Go.Proofs.YtgocoofcelggcaaGreatDoor.pays S).length ≤ 1048576 := by have := h.claims; have := List.length_filter_le (fun c : ClaimV => c.pay) S.claims; unfold Go.Proofs.YtgocoofcelggcaaGreatDoor.pays; omega
def baseV (S : BookS) (kV aV rV eV iV pV lV : Value) : Value := .agg #[.int .i64 S.events, kV, aV, rV, eV, iV, pV, lV, .int .i64 S.lock]
theorem entC_len (es : List EntryV) (lv : Nat → Value) : (entCells es lv).length = es.length := by simp [entCells]
theorem entC_get (es : List EntryV) (lv : Nat → Value) (i : Nat) (h : i < (entCells es lv).length) : (entCells es lv)[i] = encEntry (es[i]'(by rwa [entC_len] at h)) (lv i) := by simp [entCells]
end Go.Proofs.YtgocoofcelggcaaGreatDoor
namespace Go.Proofs.YtgocoofcelggcaaGreatDoor
open Go.RowKit
set_option linter.unusedVariables false
set_option linter.unusedSimpArgs false

/-- The first k entries, copied. -/
structure EntsAt (B : Nat) (es : List EntryV) (k : Nat) (v : Value) (lv : Nat → Value) (wr : World) : Prop where
  own : wr.ownsRow B 81 4 v k (entCells (es.take k) lv).flatten
  lines : ∀ i (hi : i < es.length), i < k → LinesAt wr (fun q => B ≤ q ∧ q < wr.heap.size ∧ v.ownBlock ≠ some q) (lv i) es[i].lines
  nil : ∀ i, i < k → NilOk (lv i)
theorem EntsAt.zero (B : Nat) (es : List EntryV) (lv : Nat → Value) (wr : World) : EntsAt B es 0 (.slice none 0 0) lv wr :=
  ⟨by simpa [entCells] using World.ownsRow_nil wr B 81 4, fun i _ h => by omega, fun i h => by omega⟩
theorem EntsAt.keep {B : Nat} {es : List EntryV} {k : Nat} {v : Value} {lv : Nat → Value} {wr w9 : World} (h : EntsAt B es k v lv wr) (hs : wr.heap.size ≤ w9.heap.size) (hk : ∀ q, B ≤ q → q < wr.heap.size → w9.heap[q]? = wr.heap[q]?) : EntsAt B es k v lv w9 where
  own := ownsRow_keep h.own fun q e => hk q (h.own.lt q e).1 (h.own.lt q e).2
  lines := fun i hi hik => (h.lines i hi hik).keep fun q hR hl => ⟨hk q hR.1 hl, hR.1, by omega, hR.2.2⟩
  nil := h.nil
theorem EntsAt.step {B : Nat} {es : List EntryV} {k c : Nat} {A : Option Addr} {lv : Nat → Value} {wr : World} (h : EntsAt B es k (.slice A k c) lv wr) (hk : k < es.length) {cv : Value} {g cap : Nat} {w9 : World}
    (hs : wr.heap.size ≤ w9.heap.size)
    (hfr : ∀ q, q < wr.heap.size → B ≤ q → (Value.slice A k c).ownBlock ≠ some q → w9.heap[q]? = wr.heap[q]?)
    (hown : w9.ownsRow B 81 4 (.slice (some ⟨g, 0, none⟩) (k + 1) cap) (k + 1) ((entCells (es.take k) lv).flatten ++ encEntry es[k] cv))
    (hg : (Value.slice A k c).ownBlock = some g ∨ wr.heap.size ≤ g)
    (hcv : w9.ownsRow wr.heap.size 90 3 cv es[k].lines.length (es[k].lines.map encLine).flatten) (hgc : cv.ownBlock ≠ some g) (hB : B ≤ wr.heap.size) :
    EntsAt B es (k + 1) (.slice (some ⟨g, 0, none⟩) (k + 1) cap) (lvPut lv k cv) w9 where
  own := by
    have h1 := entCells_snoc (es.take k) lv es[k] cv
    rw [List.length_take_of_le (by omega), ← List.take_succ_eq_append_getElem hk] at h1
    rw [h1, List.flatten_append]
    simpa using hown
  lines := fun i hi hik => by
    by_cases e : i = k
    · subst e
      have hl : LinesAt w9 (fun q => wr.heap.size ≤ q ∧ q < w9.heap.size ∧ cv.ownBlock = some q) cv es[i].lines :=
        RowAt.of_own (B := wr.heap.size) (e := 90) (by rw [List.length_map]; exact hcv) (fun y hy => by obtain ⟨z, _, rfl⟩ := List.mem_map.1 hy; rfl) fun q e => ⟨(hcv.lt q e).1, (hcv.lt q e).2, e⟩
      have e2 : lvPut lv i cv i = cv := by simp [lvPut]
      rw [e2]
      exact hl.mono fun q hq => ⟨by omega, hq.2.1, fun e => by obtain rfl : g = q := Option.some.inj e; exact hgc hq.2.2⟩
    · have e2 : lvPut lv k cv i = lv i := by simp [lvPut, e]
      rw [e2]
      refine (h.lines i hi (by omega)).keep fun q hR hl => ⟨hfr q hl hR.1 hR.2.2, hR.1, by omega, fun e => ?_⟩
      obtain rfl : g = q := Option.some.inj e
      rcases hg with hg | hg
      · exact hR.2.2 hg
      · omega
  nil := fun i hi => by
    unfold lvPut
    split
    · exact NilOk.own hcv
    · exact h.nil i (by omega)

/-! ### Claims -/
def fI (cl : List ClaimV) (k : Nat) : List ClaimV := (cl.take k).filter fun c => !c.pay
def fP (cl : List ClaimV) (k : Nat) : List ClaimV := (cl.take k).filter fun c => c.pay
theorem fI_yes {cl : List ClaimV} {k : Nat} (hk : k < cl.length) (h : cl[k].pay = false) : fI cl (k + 1) = fI cl k ++ [cl[k]] ∧ fP cl (k + 1) = fP cl k := by
  unfold fI fP
  rw [List.take_succ_eq_append_getElem hk, List.filter_append, List.filter_append]
  simp [h]
theorem fP_yes {cl : List ClaimV} {k : Nat} (hk : k < cl.length) (h : cl[k].pay = true) : fP cl (k + 1) = fP cl k ++ [cl[k]] ∧ fI cl (k + 1) = fI cl k := by
  unfold fI fP
  rw [List.take_succ_eq_append_getElem hk, List.filter_append, List.filter_append]
  simp [h]
theorem fI_all (S : BookS) : fI S.claims S.claims.length = invs S := by unfold fI invs; rw [List.take_length]
theorem fP_all (S : BookS) : fP S.claims S.claims.length = pays S := by unfold fP pays; rw [List.take_length]
/-- What the row of claims and their number are. -/
structure ClmEq (cl : List ClaimV) (k m n : Nat) (xs ys : List Value) : Prop where
  m : m = (fI cl k).length
  n : n = (fP cl k).length
  xs : xs = ((fI cl k).map encClaim).flatten
  ys : ys = ((fP cl k).map encClaim).flatten
theorem ClmEq.zero (cl : List ClaimV) : ClmEq cl 0 0 0 [] [] := ⟨rfl, rfl, rfl, rfl⟩
theorem ClmEq.inv {cl : List ClaimV} {k m n : Nat} {xs ys : List Value} (h : ClmEq cl k m n xs ys) (hk : k < cl.length) (hp : cl[k].pay = false) : ClmEq cl (k + 1) (m + 1) n (xs ++ encClaim cl[k]) ys := by
  obtain ⟨h1, h2⟩ := fI_yes hk hp
  refine ⟨by rw [h1, h.m]; simp, by rw [h2]; exact h.n, ?_, by rw [h2]; exact h.ys⟩
  rw [h1, h.xs, List.map_append, List.flatten_append]
  simp
theorem ClmEq.pay {cl : List ClaimV} {k m n : Nat} {xs ys : List Value} (h : ClmEq cl k m n xs ys) (hk : k < cl.length) (hp : cl[k].pay = true) : ClmEq cl (k + 1) m (n + 1) xs (ys ++ encClaim cl[k]) := by
  obtain ⟨h1, h2⟩ := fP_yes hk hp
  refine ⟨by rw [h2]; exact h.m, by rw [h1, h.n]; simp, by rw [h2]; exact h.xs, ?_⟩
  rw [h1, h.ys, List.map_append, List.flatten_append]
  simp
theorem row_own {W : World} {B e s : Nat} {v : Value} {T : Type} {enc : T → List Value} {l : List T} {R : Nat → Prop} (h : W.ownsRow B e s v l.length (l.map enc).flatten) (hs : ∀ x, (enc x).length = s) (hR : ∀ q, B ≤ q → q < W.heap.size → R q) : RowAt W R s v (l.map enc) :=
  RowAt.of_own (B := B) (e := e) (by rw [List.length_map]; exact h) (fun y hy => by obtain ⟨z, _, rfl⟩ := List.mem_map.1 hy; exact hs z) fun q e => hR q (h.lt q e).1 (h.lt q e).2
theorem row_acc {W : World} {B : Nat} {v : Value} {L : List Acct} {R : Nat → Prop} (h : AccRow B W L v) (hR : ∀ q, B ≤ q → q < W.heap.size → R q) : RowAt W R 4 v (L.map encA) := by
  cases h with
  | nil h => subst h; exact RowAt.nil _ _ _
  | row b c h1 h2 =>
    refine ⟨some ⟨b, 0, none⟩, c, by rw [List.length_map], fun j hj => ⟨⟨b, 0, none⟩, rfl, h2.lt, hR b h1 h2.lt, fun i u hu => ?_⟩⟩
    rw [List.length_map] at hj
    rw [List.getElem_map] at hu
    rw [Addr.add_lit, Addr.add_lit]
    unfold encA at hu
    match i, hu with
    | 0, hu => simp at hu; subst hu; simpa using h2.c0 j hj
    | 1, hu => simp at hu; subst hu; simpa using h2.c1 j hj
    | 2, hu => simp at hu; subst hu; simpa using h2.c2 j hj
    | 3, hu => simp at hu; subst hu; simpa using h2.c3 j hj
    | i + 4, hu => simp at hu
theorem acc_nil {B : Nat} {W : World} {v : Value} {L : List Acct} (h : AccRow B W L v) : NilOk v := by
  cases h with
  | nil h => intro n c e; cases e; exact ⟨rfl, rfl⟩
  | row b c h1 h2 => intro n c e; cases e
end Go.Proofs.YtgocoofcelggcaaGreatDoor
