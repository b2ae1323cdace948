/- BookVoids: the walk. Printed by gen_voids.py. -/
import Derived.Test.YtgocoofcelggcaaGreatDoorPack15
import Derived.Test.YtgocoofcelggcaaGreatDoorPack16
import Derived.Deep.RegionHeld3
namespace Go.Proofs.YtgocoofcelggcaaGreatDoor
open Go.RowKit
set_option linter.unusedVariables false
set_option linter.unusedSimpArgs false

theorem rows_cast {A B A' B' : List PostV} {P : PostV → PostV → Prop} (ha : A = A') (hb : B = B') (h : ∀ k (h1 : k < A'.length) (h2 : k < B'.length), P A'[k] B'[k]) : ∀ k (h1 : k < A.length) (h2 : k < B.length), P A[k] B[k] := by
  subst ha hb
  exact h
theorem rowN_read {W : World} {m c n : Nat} {A : Option Addr} {rs : List PostV} (hn : rs.length = n) (h : W.ownsRow m 39 9 (.slice A rs.length c) rs.length (rs.map encPost).flatten) (j : Nat) (hj : j < rs.length) :
    ∃ ad, A = some ad ∧ ad.block < W.heap.size ∧ ∀ i u, (encPost rs[j])[i]? = some u → W.cell? ((ad.add (j * 9)).add i) = some u := row_read h j hj
theorem neg_wrap {a : Int} : ((-maxA ≤ a ∧ a ≤ maxA) → wrap64 (-a) = -a) ∧ ((-maxA ≤ a ∧ a ≤ maxA) → IntKind.i64.wrap (-a) = -a) := ⟨fun h => by unfold maxA at h; unfold wrap64; omega, fun h => IntWalk.i64_in _ (by unfold maxA at h; omega)⟩
theorem meas_step2 (n q : Nat) (h : q < n) : n - ((q : Int) + 1).toNat < n - q := by omega

theorem run_acc_field (w : World) (e k a r en i p l lk : Value) : Sem.run Tryz.prog (Instr.field 50 (.agg #[e, k, a, r, en, i, p, l, lk]) 2) w = .ok a w := by kernel_rfl
theorem acc_read {B n c : Nat} {w : World} {L : List Acct} {A : Option Addr} (h : AccRow B w L (.slice A n c)) (q : Nat) (hq : q < L.length) : ∃ ba, A = some ⟨ba, 0, none⟩ ∧ w.cell? ⟨ba, q * 4, none⟩ = some (.string L[q].name) := by
  generalize hv : Value.slice A n c = v at h
  cases h with
  | nil h => subst h; simp at hq
  | row b c' hb hR =>
    injection hv with h1 _ _
    exact ⟨b, h1, hR.c0 q hq⟩
theorem takCells_each2 (T : List EventV) (lv : Nat → Value) : ∀ x ∈ takCells T lv, x.length = 12 := fun x hx => by
  unfold takCells at hx
  obtain ⟨i, hi, rfl⟩ := List.getElem_of_mem hx
  rw [List.getElem_mapIdx]
  rfl
/-- One of the events that were taken. -/
theorem ToldP.ev2 {w : World} {F G : Nat → Prop} {bt bb n c : Nat} {A : Option Addr} {rv : Value} {lv : Nat → Value} {S : BookS} {T : List EventV} {rs : List PostV} (hp : ToldP w F G bt bb (.slice A n c) rv lv S T rs) (k : Nat) (hk : k < T.length) :
    ∃ ad, A = some ad ∧ ad.block < w.heap.size ∧ ∀ i u, (evCs T[k] (lv k)).toList[i]? = some u → w.cell? ((ad.add (k * 12)).add i) = some u := by
  have h := RowAt.of_own (R := fun _ => True) (B := 0) (e := 25) (s := 12) (xs := takCells T lv) (by rw [takCells_len]; exact hp.taken) (takCells_each2 T lv) fun _ _ => trivial
  obtain ⟨A', c', hv, hx⟩ := h
  injection hv with h1 _ _
  subst h1
  obtain ⟨ad, e1, h1, _, h3⟩ := hx k (by rw [takCells_len]; exact hk)
  refine ⟨ad, e1, h1, fun i u hu => h3 i u ?_⟩
  unfold takCells
  rw [List.getElem_mapIdx]
  exact hu
theorem lit_beq (a : ByteArray) : (a.toList == [118, 111, 105, 100, 46, 49]) = decide (a = void1) := by
  have e : void1.toList = [118, 111, 105, 100, 46, 49] := by rw [ByteArray.toList_eq]; rfl
  rw [← e]
  by_cases h : a = void1
  · rw [h, decide_eq_true rfl]; exact self_beq _
  · rw [decide_eq_false h]; exact text_ne' h
theorem any_take (l : List EventV) (f : EventV → Bool) (k : Nat) (hk : k < l.length) : (l.take (k + 1)).any f = ((l.take k).any f || f l[k]) := by
  rw [List.take_succ_eq_append_getElem hk, List.any_append]
  simp
theorem used_told {t : ToldS} (h : ToldOk t) (hf : KeysFrom t) (k : ByteArray) (hne : k ≠ emptyB) : (t.T.any fun e => decide (e.key = k)) = usedB t.S k := by
  unfold usedB
  rw [Bool.eq_iff_iff, List.any_eq_true, List.any_eq_true]
  constructor
  · rintro ⟨e, he, hk⟩
    have hk : e.key = k := by simpa using hk
    exact ⟨k, hk ▸ h.keys e he (hk ▸ hne), by simp⟩
  · rintro ⟨x, hx, hk⟩
    have hk : x = k := by simpa using hk
    obtain ⟨e, he, hek⟩ := hf x hx
    exact ⟨e, he, by simp [hek, hk]⟩

set_option maxRecDepth 100000 in
set_option maxHeartbeats 8000000 in
theorem voids_walk (w : World) (v : Value) (l : List EventV) (hl : EventsAt w v l) (o : EventV) (lo : Value) (ho : EventAt1 w lo o) (d : Int) :
    Calls Tryz.prog 8 #[v, evV o lo, .int .i64 d] w fun en w' => en = .returned (.bool true) ∧ Below w.heap.size w w' := by
  obtain ⟨ip, hip, hpz0, hpz1, hpz2⟩ := info_parts info_post
  have hbox := bel1 w (.cells (evCs o lo) 25)
  have hn0 := World.alloc_heap_new w (.cells (evCs o lo) 25)
  have hsz0 : (w.alloc (.cells (evCs o lo) 25)).heap.size = w.heap.size + 1 := by simp
  have hall := tellAll_any _ v l (hl.below hbox)
  have hok := told_ok hl.small (min l.length 400)
  have hkf := keysFrom_tells (l := l.take (min l.length 400)) keysFrom_new
  have hT4 := tells_len (l := l.take (min l.length 400)) (t := toldNew)
  obtain ⟨t, ht⟩ : ∃ t, t = tellsF toldNew (l.take (min l.length 400)) := ⟨_, rfl⟩
  rw [← ht] at hok hkf hT4
  have hT5 : t.T.length ≤ 400 := by
    rw [List.length_take] at hT4
    have : (toldNew.T).length = 0 := rfl
    omega
  have hrl : t.S.rows.length ≤ 12000 := by have := hok.ok.ok.rowsLe; have := hok.ok.ok.ev1; omega
  have HOK := Lib.hid hok
  have HKF := Lib.hid hkf
  have HO := Lib.hid ho
  have HT := Lib.hid ht
  have HBOX := Lib.hid hbox
  have HN0 := Lib.hid hn0
  have HSZ0 := Lib.hid hsz0
  unfold evCs at hall HBOX HSZ0
  unfold evV
  clear hl hbox hok ho ht hkf hT4 hn0 hsz0
  go_enter Tryz.func8, Tryz.ntmps8
  go_wp2_with (go_at_call 11; refine hall.mono ?_)
  rintro en w1 ⟨bt, rfl, hbt, htold, hbel⟩
  unfold ptrV
  rw [← HT.out] at htold
  obtain ⟨H, Gs, hto, hH⟩ := htold
  obtain ⟨W0, hW0⟩ : ∃ W0, w.alloc (.cells #[.int .i64 o.kind, .int .i64 o.day, .string o.key, .string o.account, .string o.other, .string o.ref, .string o.ref2, .int .i64 o.typ, .int .i64 o.due, .int .i64 o.amount, .string o.memo, lo] 25) = W0 := ⟨_, rfl⟩
  have hn0 : W0.heap[w.heap.size]? = some (.cells (evCs o lo) 25 (0, 0)) := by rw [← hW0]; exact HN0.out
  rw [hW0] at HBOX HSZ0 hbt hH hbel
  have hsz0 := HSZ0.out
  have hB1 := (hbel.block w.heap.size (by omega)).trans hn0
  have hw1 := hbel.size
  have hto' := hto
  obtain ⟨F, bb, tv, rv, tl, hp, hHH⟩ := hto'
  obtain ⟨vA, vc, hvf⟩ := own_form hp.rows
  subst hvf
  have b2 : w1.cell? ⟨bt, 2, none⟩ = some (.slice vA t.S.rows.length vc) := by rw [cell_of_blk hp.head]; rfl
  have HTO := Lib.hid hto
  have HHW := Lib.hid hH
  have HW1 := Lib.hid (HBOX.out.trans (hbel.mono HBOX.out.size))
  have HPR := Lib.hid hp.rows
  have HP := Lib.hid hp
  have HLT := Lib.hid hto.lt
  have HB1 := Lib.hid hB1
  clear hp hHH hto hH hall hW0 hbel hn0 hB1 HT
  have hsz0' := hsz0
  clear hsz0
  have HSZ := Lib.hid hsz0'
  clear hsz0'
  go_wp2_with (at_builtin; refine wpList_append_row rfl _ _ 29 rfl w1.heap.size 39 ip (.agg #[.int .i64 0, .int .i64 0, .int .i64 0, .int .i64 0, .string ByteArray.empty, .string ByteArray.empty, .int .i64 0, .string ByteArray.empty, .string ByteArray.empty]) 9 104 Tryz.underlying29 hip hpz0 hpz1 hpz2 rfl (by decide) _ _ _ rfl (World.ownsRow_nil _ _ _ _) (.slice vA t.S.rows.length vc) (t.S.rows.map encPost) rfl (row_posts HPR.out) (NilOk.own HPR.out) (posts_len _) (posts_one _) ?l1 ?l2 ?l3 ?_)
  case l1 => rw [List.length_map]; unfold maxLen; omega
  case l2 => rw [List.length_map]; omega
  case l3 => exact Nat.le_refl _
  intro v8 w2 hown8 hgrow8 hat8
  have hown8 : w2.ownsRow w1.heap.size 39 9 v8 t.S.rows.length (t.S.rows.map encPost).flatten := by simpa using hown8
  obtain ⟨uA, uc, huf⟩ := own_form hown8
  subst huf
  have hb2 : Below w1.heap.size w1 w2 := (Below.refl _ w1).grown hgrow8 (Nat.le_refl _) (fun k hk => by cases hk)
  have hp2 := HP.out.below hb2
  have htn := Turnover_any hp2.book
  have b0 : w2.cell? ⟨bt, 0, none⟩ = some (.pointer (some ⟨bb, 0, none⟩)) := by rw [cell_of_blk hp2.head]; rfl
  have hB2 := (hb2.block w.heap.size (heap_lt HB1.out)).trans HB1.out
  have hE2 : EvAt w2 w.heap.size o lo := ⟨hB2⟩
  obtain ⟨q_0, q_1, q_2, q_3, q_4, q_5, q_6, q_7, q_8, q_9, q_10, q_11⟩ := ev_cells hE2
  have f0 := frozen_blk hB2 0
  obtain ⟨TS, hTS⟩ : ∃ TS, TS = t.S.turnover := ⟨_, rfl⟩
  rw [← hTS] at htn
  have HTS := Lib.hid hTS
  have hsw : (w2.setCell ⟨w.heap.size, 0, none⟩ (.int .i64 3)).heap.size = w2.heap.size := by simp [World.setCell]
  have hc3 := (Ch.refl (fun q => q = w.heap.size) w2).setCell (p := ⟨w.heap.size, 0, none⟩) (.inl rfl) (.int .i64 3)
  have hto3 := (HTO.out.below hb2).ch hc3 fun q hq hh => by have := HHW.out q hh; have := HSZ.out; omega
  have hin3 : InEv { o with kind := 3 } := ⟨HO.out.num.amount, HO.out.num.lines⟩
  have hz3 : SmallEv { o with kind := 3 } := ⟨HO.out.small.key, HO.out.small.account, HO.out.small.other, HO.out.small.ref, HO.out.small.ref2, HO.out.small.memo, HO.out.small.count, HO.out.small.lines⟩
  have hL3 : LinesAt (w2.setCell ⟨w.heap.size, 0, none⟩ (.int .i64 3)) (fun q => q < w.heap.size) lo ({ o with kind := 3 } : EventV).lines := ((HO.out.lines.below HW1.out).below (hb2)).ch hc3 fun q hq e => by have := e; omega
  have htl1 := tell_any hto3 HOK.out hz3 hin3 hL3 HO.out.nil fun q hq => .inl fun hh => by have := HHW.out q hh; have := HSZ.out; omega
  have HB3 := Lib.hid (heap_setCell_same (i := 0) hB2 (.int .i64 3))
  have HW3 := Lib.hid ((HW1.out.trans (hb2.mono HW1.out.size)).setCell (p := ⟨w.heap.size, 0, none⟩) (Nat.le_refl _) (.int .i64 3))
  have HO8 := Lib.hid (ownsRow_keep (w' := w2.setCell ⟨w.heap.size, 0, none⟩ (.int .i64 3)) hown8 fun q e => Below.heap_setCell _ _ _ _ (by have := (hown8.lt q e).1; have := HSZ.out; show q ≠ w.heap.size; omega))
  have HC8 := Lib.hid (fun q (e : (Value.slice uA t.S.rows.length uc).ownBlock = some q) => (show ¬ H q from fun hh => by have := (hown8.lt q e).1; have := HLT.out q hh; omega))
  unfold ptrV at htn
  unfold evV ptrV at htl1
  clear hown8 hgrow8 hat8 hp2 hB2 hE2 hTS hc3 hto3 hin3 hz3 hL3
  go_wp2_with (first
    | (go_at_call 25; refine htn.mono ?_; rintro en wx ⟨rfl, hwx⟩; obtain rfl := hwx; clear htn)
    | (go_at_call 13; refine htl1.mono ?_))
  rintro en w4 ⟨rvM, H4, G4, rfl, hto4, hownM, hch4, hnew4, hdis4, _⟩
  have hw3s := hsw
  obtain ⟨x, hx⟩ : ∃ x, x = ({ o with kind := 3 } : EventV) := ⟨_, rfl⟩
  have hxk : x.kind = 3 := by rw [hx]
  have hxkey : x.key = o.key := by rw [hx]
  rw [← hx] at hto4 hownM ⊢
  obtain ⟨mA, mc, hmf⟩ := own_form hownM
  subst hmf
  have hW4 := HW3.out.trans (hch4.toBelow (B := w.heap.size) (by have := HW3.out.size; exact this) fun q hq => by have := HHW.out q hq; have := HSZ.out; omega)
  have HW4 := Lib.hid hW4
  have hB4 := (hch4.block w.heap.size (by have := heap_lt HB3.out; exact this) (fun hh => by have := HHW.out _ hh; have := HSZ.out; omega)).trans HB3.out
  have HB4 := Lib.hid hB4
  have HX := Lib.hid (And.intro hx (And.intro hxk hxkey))
  have hHn4 : ∀ q, H4 q → w.heap.size < q := fun q hq => by
    rcases hnew4 q hq with h | h
    · have := HHW.out q h; have := HSZ.out; omega
    · have := heap_lt HB3.out; omega
  have HH4 := Lib.hid hHn4
  have HC84 := Lib.hid (fun q (e : (Value.slice uA t.S.rows.length uc).ownBlock = some q) => (show ¬ H4 q from fun hh => by
    rcases hnew4 q hh with h | h
    · exact HC8.out q e h
    · have := (HO8.out.lt q e).2; omega))
  have HO84 := Lib.hid (ownsRow_keep (w' := w4) HO8.out fun q e => hch4.block q (HO8.out.lt q e).2 (HC8.out q e))
  clear hch4 hnew4 hW4 hB4 hHn4 hw3s hx hxk hxkey hsw f0 q_0 q_1 q_2 q_3 q_4 q_5 q_6 q_7 q_8 q_9 q_10 q_11 HB3 HW3 htl1 b2
  by_cases hc : checkE t.S x = 0
  · have happ : applyR t.S x = rowsOf t.S x := by unfold applyR; rw [if_pos hc]
    have htell := tellF_yes hc
    have hinx : InEv x := by rw [HX.out.1]; exact ⟨HO.out.num.amount, HO.out.num.lines⟩
    have hok1 := HOK.out.tell hinx
    have hkf1 := keysFrom_tell (e := x) HKF.out
    obtain ⟨t1, ht1⟩ : ∃ t1, t1 = tellF t x := ⟨_, rfl⟩
    rw [← ht1] at hto4 hok1 htell hkf1
    have ht1S : t1.S = applyS t.S x := by rw [htell]
    have ht1T : t1.T = t.T ++ [x] := by rw [htell]
    rw [decide_eq_true hc]
    rw [happ] at hownM hdis4 ⊢
    have hrf := rows_facts HOK.out.ok hinx (taken_of hc).fields
    have hgr := (taken_of hc).grown
    have h0 := (turn_range HOK.out.ok.ok).1
    have hnn := sumAbs_nonneg (rowsOf t.S x)
    have htot := tot_any (rowsOf t.S x) hownM (by have := hrf.1; omega) hrf.2 (by omega)
    obtain ⟨SZ, hSZ⟩ : ∃ SZ, SZ = sumAbs (rowsOf t.S x) := ⟨_, rfl⟩
    rw [← hSZ] at htot hgr hnn
    rw [← HTS.out] at hgr h0
    have hks : x.key.size ≤ 1048576 := by rw [HX.out.2.2]; exact HO.out.small.key
    have hzv : SmallEv (voidE d void0 x.key) := ⟨by show void0.size ≤ _; decide, by show (0 : Nat) ≤ _; decide, by show (0 : Nat) ≤ _; decide, hks, by show (0 : Nat) ≤ _; decide, by show (0 : Nat) ≤ _; decide, Nat.zero_le _, fun y hy => by cases hy⟩
    have hiv : InEv (voidE d void0 x.key) := ⟨by show -maxA - 1 ≤ 0 ∧ 0 ≤ maxA; unfold maxA; omega, fun y hy => by cases hy⟩
    have htl2 : Calls Tryz.prog 13 #[.pointer (some ⟨bt, 0, none⟩), .agg #[.int .i64 4, .int .i64 d, .string ⟨#[118, 111, 105, 100, 46, 48]⟩, .string ⟨#[]⟩, .string ⟨#[]⟩, .string x.key, .string ⟨#[]⟩, .int .i64 0, .int .i64 0, .int .i64 0, .string ⟨#[]⟩, .slice none 0 0]] (w4.alloc (.cells #[.int .i64 4, .int .i64 d, .string ⟨#[118, 111, 105, 100, 46, 48]⟩, .string ⟨#[]⟩, .string ⟨#[]⟩, .string x.key, .string ⟨#[]⟩, .int .i64 0, .int .i64 0, .int .i64 0, .string ⟨#[]⟩, .slice none 0 0] 25)) (TellPost H4 G4 bt t1 (voidE d void0 x.key) (w4.alloc (.cells #[.int .i64 4, .int .i64 d, .string ⟨#[118, 111, 105, 100, 46, 48]⟩, .string ⟨#[]⟩, .string ⟨#[]⟩, .string x.key, .string ⟨#[]⟩, .int .i64 0, .int .i64 0, .int .i64 0, .string ⟨#[]⟩, .slice none 0 0] 25))) :=
      tell_any (R := fun _ => False) (lv := .slice none 0 0) (hto4.below (bel1 w4 _)) hok1 hzv hiv (RowAt.nil _ _ _) (fun n c e => by cases e; exact ⟨rfl, rfl⟩) fun q h => h.elim
    have o2 : w4.cell? ⟨w.heap.size, 2, none⟩ = some (.string x.key) := by rw [cell_of_blk HB4.out, HX.out.2.2]; rfl
    obtain ⟨rsM, hrsM⟩ : ∃ rsM, rsM = rowsOf t.S x := ⟨_, rfl⟩
    rw [← hrsM] at hownM hdis4 htot ⊢
    have hml : rsM.length ≤ 12 := by rw [hrsM]; exact hrf.1
    have HMA := Lib.hid (show ∀ r ∈ rsM, -maxA ≤ r.amount ∧ r.amount ≤ maxA by rw [hrsM]; exact hrf.2)
    have HM := Lib.hid hownM
    have HDM := Lib.hid hdis4
    have HC := Lib.hid hc
    have HT1 := Lib.hid (And.intro ht1S ht1T)
    have HOK1 := Lib.hid hok1
    have HKF1 := Lib.hid hkf1
    have HSZE := Lib.hid hSZ
    have HRSM := Lib.hid hrsM
    have HTO4 := Lib.hid hto4
    have HLT4 := Lib.hid hto4.lt
    have HIV := Lib.hid (And.intro hzv hiv)
    have HN15 := Lib.hid (World.alloc_heap_new w4 (.cells #[.int .i64 4, .int .i64 d, .string ⟨#[118, 111, 105, 100, 46, 48]⟩, .string ⟨#[]⟩, .string ⟨#[]⟩, .string x.key, .string ⟨#[]⟩, .int .i64 0, .int .i64 0, .int .i64 0, .string ⟨#[]⟩, .slice none 0 0] 25))
    clear hc happ htell hinx hok1 ht1 hto4 hownM hdis4 hrf hSZ hrsM hks hzv hiv ht1S ht1T hkf1
    go_wp2_with (first
      | (go_at_call 26; refine htot.mono ?_; rintro en wx ⟨rfl, hwx⟩; obtain rfl := hwx.symm; clear htot)
      | (go_at_call 13; refine htl2.mono ?_))
    rintro en w6 ⟨rvN, H6, G6, rfl, hto6, hownN, hch6, hnew6, hdis6, _⟩
    obtain ⟨nA, nc, hnf⟩ := own_form hownN
    subst hnf
    have hs5 : (w4.alloc (.cells #[.int .i64 4, .int .i64 d, .string ⟨#[118, 111, 105, 100, 46, 48]⟩, .string ⟨#[]⟩, .string ⟨#[]⟩, .string x.key, .string ⟨#[]⟩, .int .i64 0, .int .i64 0, .int .i64 0, .string ⟨#[]⟩, .slice none 0 0] 25)).heap.size = w4.heap.size + 1 := by simp
    have hW6 := (HW4.out.alloc HW4.out.size (.cells #[.int .i64 4, .int .i64 d, .string ⟨#[118, 111, 105, 100, 46, 48]⟩, .string ⟨#[]⟩, .string ⟨#[]⟩, .string x.key, .string ⟨#[]⟩, .int .i64 0, .int .i64 0, .int .i64 0, .string ⟨#[]⟩, .slice none 0 0] 25)).trans (hch6.toBelow (B := w.heap.size) (by rw [hs5]; have := HW4.out.size; omega) fun q hq => by have := HH4.out q hq; omega)
    have HW6 := Lib.hid hW6
    have k46 : ∀ q, q < w4.heap.size → ¬ H4 q → w6.heap[q]? = w4.heap[q]? := fun q hq hn => (hch6.block q (by omega) hn).trans (Below.heap_alloc w4 _ q hq)
    have HK46 := Lib.hid k46
    have hB15 := (hch6.block w4.heap.size (by omega) (fun hh => by have := HLT4.out _ hh; omega)).trans HN15.out
    have HB15 := Lib.hid hB15
    have HM6 := Lib.hid (ownsRow_keep (w' := w6) HM.out fun q e => k46 q (HM.out.lt q e).2 (HDM.out q e))
    have HO86 := Lib.hid (ownsRow_keep (w' := w6) HO84.out fun q e => k46 q (HO84.out.lt q e).2 (HC84.out q e))
    have hlt46 : w4.heap.size < w6.heap.size := by have := hch6.size; omega
    have HH6 := Lib.hid (fun q (hq : H6 q) => (show w.heap.size < q ∧ q ≠ w4.heap.size from by
      rcases hnew6 q hq with h | h
      · exact ⟨HH4.out q h, by have := HLT4.out q h; omega⟩
      · have := HW4.out.size; omega))
    clear hch6 hnew6 hdis6 hW6 k46 hB15 htl2 o2 hs5
    by_cases hv : checkE t1.S (voidE d void0 x.key) = 0
    · rw [decide_eq_true hv]
      have hVE := void_end (d := d) HOK.out.ok.ok HX.out.2.1 HC.out (by rw [← HT1.out.1]; exact hv)
      have htell2 := tellF_yes hv
      have hok2 := HOK1.out.tell HIV.out.2
      have hkf2 := keysFrom_tell (e := voidE d void0 x.key) HKF1.out
      have happ2 : applyR t1.S (voidE d void0 x.key) = rowsOf t1.S (voidE d void0 x.key) := by unfold applyR; rw [if_pos hv]
      obtain ⟨t2, ht2⟩ : ∃ t2, t2 = tellF t1 (voidE d void0 x.key) := ⟨_, rfl⟩
      rw [← ht2] at hto6 htell2 hok2 hkf2
      have ht2S : t2.S = applyS (applyS t.S x) (voidE d void0 x.key) := by rw [htell2, HT1.out.1]
      rw [happ2] at hownN ⊢
      obtain ⟨rsN, hrsN⟩ : ∃ rsN, rsN = rowsOf t1.S (voidE d void0 x.key) := ⟨_, rfl⟩
      rw [← hrsN] at hownN ⊢
      have hN1 : rsN = rowsOf (applyS t.S x) (voidE d void0 x.key) := by rw [hrsN, HT1.out.1]
      have hlen : rsN.length = rsM.length := by rw [hN1, HRSM.out]; exact hVE.len
      have HROWS := Lib.hid (rows_cast (P := fun a b => a.account = b.account ∧ a.amount = -b.amount ∧ a.tag = b.tag) hN1 HRSM.out hVE.row)
      have hT2 : t2.S.turnover = TS + 2 * SZ := by rw [ht2S, hVE.turn, ← HTS.out, ← HSZE.out]
      have hT2l := hok2.ok.ok.turnLe
      have HOWN := Lib.hid (show ∀ acc, ownF t2.S.rows acc = ownF t.S.rows acc by rw [ht2S]; exact hVE.own)
      have hagain := hVE.again
      rw [← ht2S] at hagain
      have HAG := Lib.hid hagain
      have HTO6 := Lib.hid hto6
      obtain ⟨F6, bb6, tv6, rv6, tl6, hp6, hHH6⟩ := hto6
      obtain ⟨t6A, t6c, ht6⟩ := own_form hp6.taken
      obtain ⟨r6A, r6c, hr6⟩ := own_form hp6.rows
      subst ht6 hr6
      have htn := Turnover_any hp6.book
      obtain ⟨T2, hT2v⟩ : ∃ T2, T2 = t2.S.turnover := ⟨_, rfl⟩
      rw [← hT2v] at htn hT2 hT2l
      have b06 : w6.cell? ⟨bt, 0, none⟩ = some (.pointer (some ⟨bb6, 0, none⟩)) := by rw [cell_of_blk hp6.head]; rfl
      have hsub : wrap64 (T2 - TS) = 2 * SZ := by unfold maxA at hT2l; unfold wrap64; omega
      have hsub' : IntKind.i64.wrap (T2 - TS) = 2 * SZ := by rw [show T2 - TS = 2 * SZ by omega]; exact IntWalk.i64_in _ (by unfold maxA at hT2l; omega)
      have hmul : wrap64 (2 * SZ) = 2 * SZ := by unfold maxA at hT2l; unfold wrap64; omega
      have hmul' : IntKind.i64.wrap (2 * SZ) = 2 * SZ := IntWalk.i64_in _ (by unfold maxA at hT2l; omega)
      unfold ptrV at htn
      have HP6 := Lib.hid hp6
      have HHH6 := Lib.hid hHH6
      have HN := Lib.hid hownN
      have HOK2 := Lib.hid hok2
      have HKF2 := Lib.hid hkf2
      have HT2T := Lib.hid (show t2.T = t1.T ++ [voidE d void0 x.key] by rw [htell2])
      have HLEN := Lib.hid hlen
      have HT2 := Lib.hid hT2
      clear hT2 hgr hv hVE htell2 hok2 hkf2 happ2 ht2 ht2S hrsN hN1 hagain hp6 hHH6 hownN hT2v
      rw [HLEN.out]
      go_wp2_with (go_at_call 25; refine htn.mono ?_; rintro en wx ⟨rfl, hwx⟩; obtain rfl := hwx; clear htn)
      clear hsub hsub' hmul hmul' hT2l hlen b06 h0 hnn
      go_loopw [17] (fun j wr => ∃ q : Nat, j = .int .i64 (q : Int) ∧ q ≤ rsM.length ∧ Below w6.heap.size w6 wr) (fun j _ => rsM.length - (intOf j).toNat)
      case atStart => exact ⟨0, rfl, Nat.zero_le _, Below.refl _ _⟩
      case round =>
        obtain ⟨q, rfl, hq, hb7⟩ := hrel
        by_cases hqn : q < rsM.length
        · as_aux_lemma =>
            have hqN : q < rsN.length := by rw [HLEN.out]; exact hqn
            obtain ⟨ad, had, hab, hcs⟩ := rowN_read HLEN.out (own_below HN.out hb7) q hqN
            cases had
            obtain ⟨ad', had', hab', hcs'⟩ := row_read (own_below HM6.out hb7) q hqn
            cases had'
            obtain ⟨e1, e2, e3⟩ := HROWS.out q hqN hqn
            have hax := HMA.out _ (List.getElem_mem hqn)
            have c5 : wr.cell? ⟨(ad.add (q * 9)).block, (ad.add (q * 9)).off + 5, none⟩ = some (.string rsN[q].account) := hcs 5 _ rfl
            have c6 : wr.cell? ⟨(ad.add (q * 9)).block, (ad.add (q * 9)).off + 6, none⟩ = some (.int .i64 rsN[q].amount) := hcs 6 _ rfl
            have c7 : wr.cell? ⟨(ad.add (q * 9)).block, (ad.add (q * 9)).off + 7, none⟩ = some (.string rsN[q].tag) := hcs 7 _ rfl
            have m5 : wr.cell? ⟨(ad'.add (q * 9)).block, (ad'.add (q * 9)).off + 5, none⟩ = some (.string rsM[q].account) := hcs' 5 _ rfl
            have m6 : wr.cell? ⟨(ad'.add (q * 9)).block, (ad'.add (q * 9)).off + 6, none⟩ = some (.int .i64 rsM[q].amount) := hcs' 6 _ rfl
            have m7 : wr.cell? ⟨(ad'.add (q * 9)).block, (ad'.add (q * 9)).off + 7, none⟩ = some (.string rsM[q].tag) := hcs' 7 _ rfl
            rw [e1] at c5
            rw [e2] at c6
            rw [e3] at c7
            obtain ⟨r, hr⟩ : ∃ r, r = rsM[q] := ⟨_, rfl⟩
            rw [← hr] at c5 c6 c7 m5 m6 m7 hax
            have hng : wrap64 (-r.amount) = -r.amount := neg_wrap.1 hax
            have hng' : IntKind.i64.wrap (-r.amount) = -r.amount := neg_wrap.2 hax
            clear hcs hcs' e1 e2 e3 hr hax
            go_wp2
            go_quiet (fail)
            have HB := Lib.hid (below_drewN hb7 nq)
            go_wp2
            go_roundw
            case rel => exact ⟨q + 1, by go_num, Nat.succ_le_of_lt hqn, HB.out⟩
            case measure => simpa [intOf] using meas_step2 rsM.length q hqn
        · as_aux_lemma =>
            have HB7 := Lib.hid hb7
            have hpA := HP6.out.below hb7
            have b07 : wr.cell? ⟨bt, 0, none⟩ = some (.pointer (some ⟨bb6, 0, none⟩)) := by rw [cell_of_blk hpA.head]; rfl
            have hbase := Base_any hpA.book HOK2.out.ok.ok
            unfold ptrV at hbase
            clear hb7 hpA
            obtain ⟨w8, hw8⟩ : ∃ w8, w8 = wr := ⟨_, rfl⟩
            subst hw8
            go_wp2_with (go_at_call 19; refine hbase.mono ?_)
            rintro en wb ⟨kV, aV, rV, eV, iV, pV, lV, rfl, hacc, _, hbb⟩
            obtain ⟨aA, ac, haf⟩ := acc_form hacc
            subst haf
            have hfld := fun w0 => run_acc_field w0 (.int .i64 t2.S.events) kV (.slice aA t2.S.chart.length ac) rV eV iV pV lV (.int .i64 t2.S.lock)
            have HACC := Lib.hid hacc
            have HBB := Lib.hid (HB7.out.trans (hbb.mono HB7.out.size))
            have hcl := HOK2.out.ok.ok.chart.le
            clear hbase hacc hbb b07
            go_wp2
            clear hfld
            go_loopw [19] (fun j wr => ∃ q : Nat, j = .int .i64 (q : Int) ∧ q ≤ t2.S.chart.length ∧ Below wb.heap.size wb wr) (fun j _ => t2.S.chart.length - (intOf j).toNat)
            case atStart => exact ⟨0, rfl, Nat.zero_le _, Below.refl _ _⟩
            case round =>
              obtain ⟨q, rfl, hq, hb9⟩ := hrel
              by_cases hqn : q < t2.S.chart.length
              · as_aux_lemma =>
                  have hbW := HBB.out.trans (hb9.mono HBB.out.size)
                  have hpW := HP6.out.below hbW
                  have hrow := HACC.out.below hb9
                  obtain ⟨ba, hba, hcn⟩ := acc_read hrow q hqn
                  subst hba
                  obtain ⟨nm, hnm⟩ : ∃ nm, nm = t2.S.chart[q].name := ⟨_, rfl⟩
                  have ho1 := ownF_any (w := wr.drew) t2.S.rows nm (own_below hpW.rows (Below.refl _ wr).drew) (by have := HOK2.out.ok.ok.rowsLe; have := HOK2.out.ok.ok.ev1; omega) (by rw [HOK2.out.ok.ok.turn]; exact HOK2.out.ok.ok.turnLe)
                  have ho2 := ownF_any (w := wr.drew) t.S.rows nm (own_below (own_below HO86.out hbW) (Below.refl _ wr).drew) (by omega) (by rw [HOK.out.ok.ok.turn]; exact HOK.out.ok.ok.turnLe)
                  rw [HOWN.out] at ho1
                  have hHeld : wr.drew.cell? ⟨bt, 2, none⟩ = some (.slice r6A t2.S.rows.length r6c) ∧ wr.drew.cell? ⟨ba, q * 4, none⟩ = some (.string nm) := ⟨by show wr.cell? _ = _; rw [cell_of_blk hpW.head]; rfl, by rw [hnm]; exact hcn⟩
                  have HB9 := Lib.hid hb9
                  clear hbW hpW hb9 hnm hrow hcn
                  go_wp2
                  refine wp_region_n (n := 18) (S := fun w' => w'.cell? ⟨bt, 2, none⟩ = some (.slice r6A t2.S.rows.length r6c) ∧ w'.cell? ⟨ba, q * 4, none⟩ = some (.string nm)) (by kernel_rfl) ?_
                  refine wpAnyN_take (i := 0) (v := ?_) rfl (by kernel_rfl) (by kernel_rfl) (by kernel_rfl) (by kernel_rfl) (fun _ _ _ h => h) (Or.inl ⟨by kernel_rfl, ?y1⟩) hHeld ?_
                  case y1 =>
                    intro w0 hSw
                    (try dsimp only at hSw)
                    go_simp
                    try with_reducible rfl
                  try simp only [Act.put, List.setIfInBounds_toArray, List.set_cons_zero, List.set_cons_succ, List.getElem_toArray, List.getElem_cons_succ, List.getElem_cons_zero]
                  refine wpAnyN_take (i := 1) (v := ?_) rfl (by kernel_rfl) (by kernel_rfl) (by kernel_rfl) (by kernel_rfl) (fun _ _ _ h => h) (Or.inl ⟨by kernel_rfl, ?y2⟩) hHeld ?_
                  case y2 =>
                    intro w0 hSw
                    (try dsimp only at hSw)
                    go_simp
                    try with_reducible rfl
                  try simp only [Act.put, List.setIfInBounds_toArray, List.set_cons_zero, List.set_cons_succ, List.getElem_toArray, List.getElem_cons_succ, List.getElem_cons_zero]
                  refine wpAnyN_take (i := 2) (v := ?_) rfl (by kernel_rfl) (by kernel_rfl) (by kernel_rfl) (by kernel_rfl) (fun _ _ _ h => h) (Or.inl ⟨by kernel_rfl, ?y3⟩) hHeld ?_
                  case y3 =>
                    intro w0 hSw
                    (try dsimp only at hSw)
                    go_simp
                    try with_reducible rfl
                  try simp only [Act.put, List.setIfInBounds_toArray, List.set_cons_zero, List.set_cons_succ, List.getElem_toArray, List.getElem_cons_succ, List.getElem_cons_zero]
                  refine wpAnyN_take (i := 3) (v := ?_) rfl (by kernel_rfl) (by kernel_rfl) (by kernel_rfl) (by kernel_rfl) (fun _ _ _ h => h) (Or.inl ⟨by kernel_rfl, ?y4⟩) hHeld ?_
                  case y4 =>
                    intro w0 hSw
                    (try dsimp only at hSw)
                    go_simp
                    try with_reducible rfl
                  try simp only [Act.put, List.setIfInBounds_toArray, List.set_cons_zero, List.set_cons_succ, List.getElem_toArray, List.getElem_cons_succ, List.getElem_cons_zero]
                  refine wpAnyN_take (i := 4) (v := ?_) rfl (by kernel_rfl) (by kernel_rfl) (by kernel_rfl) (by kernel_rfl) (fun _ _ _ h => h) (Or.inl ⟨by kernel_rfl, ?y5⟩) hHeld ?_
                  case y5 =>
                    intro w0 hSw
                    (try dsimp only at hSw)
                    go_simp
                    try with_reducible rfl
                  try simp only [Act.put, List.setIfInBounds_toArray, List.set_cons_zero, List.set_cons_succ, List.getElem_toArray, List.getElem_cons_succ, List.getElem_cons_zero]
                  refine wpAnyN_take (i := 5) (v := ?_) rfl (by kernel_rfl) (by kernel_rfl) (by kernel_rfl) (by kernel_rfl) (fun _ _ _ h => h) (Or.inl ⟨by kernel_rfl, ?y6⟩) hHeld ?_
                  case y6 =>
                    intro w0 hSw
                    (try dsimp only at hSw)
                    go_simp
                    try with_reducible rfl
                  try simp only [Act.put, List.setIfInBounds_toArray, List.set_cons_zero, List.set_cons_succ, List.getElem_toArray, List.getElem_cons_succ, List.getElem_cons_zero]
                  refine wpAnyN_take (i := 6) (v := ?_) rfl (by kernel_rfl) (by kernel_rfl) (by kernel_rfl) (by kernel_rfl) (fun _ _ _ h => h) (Or.inl ⟨by kernel_rfl, ?y7⟩) hHeld ?_
                  case y7 =>
                    intro w0 hSw
                    (try dsimp only at hSw)
                    go_simp
                    try with_reducible rfl
                  try simp only [Act.put, List.setIfInBounds_toArray, List.set_cons_zero, List.set_cons_succ, List.getElem_toArray, List.getElem_cons_succ, List.getElem_cons_zero]
                  refine wpAnyN_take (i := 7) (v := ?_) rfl (by kernel_rfl) (by kernel_rfl) (by kernel_rfl) (by kernel_rfl) (fun _ _ _ h => h) (Or.inl ⟨by kernel_rfl, ?y8⟩) hHeld ?_
                  case y8 =>
                    intro w0 hSw
                    (try dsimp only at hSw)
                    go_simp
                    try with_reducible rfl
                  try simp only [Act.put, List.setIfInBounds_toArray, List.set_cons_zero, List.set_cons_succ, List.getElem_toArray, List.getElem_cons_succ, List.getElem_cons_zero]
                  refine wpAnyN_take (i := 8) (v := ?_) rfl (by kernel_rfl) (by kernel_rfl) (by kernel_rfl) (by kernel_rfl) (fun _ _ _ h => h) (Or.inl ⟨by kernel_rfl, ?y9⟩) hHeld ?_
                  case y9 =>
                    intro w0 hSw
                    (try dsimp only at hSw)
                    go_simp
                    try with_reducible rfl
                  try simp only [Act.put, List.setIfInBounds_toArray, List.set_cons_zero, List.set_cons_succ, List.getElem_toArray, List.getElem_cons_succ, List.getElem_cons_zero]
                  refine wpAnyN_take (i := 10) (v := ?_) rfl (by kernel_rfl) (by kernel_rfl) (by kernel_rfl) (by kernel_rfl) (fun _ _ _ h => h) (Or.inl ⟨by kernel_rfl, ?y10⟩) hHeld ?_
                  case y10 =>
                    intro w0 hSw
                    (try dsimp only at hSw)
                    go_simp
                    try with_reducible rfl
                  try simp only [Act.put, List.setIfInBounds_toArray, List.set_cons_zero, List.set_cons_succ, List.getElem_toArray, List.getElem_cons_succ, List.getElem_cons_zero]
                  refine wpAnyN_take (i := 11) (v := ?_) rfl (by kernel_rfl) (by kernel_rfl) (by kernel_rfl) (by kernel_rfl) (fun _ _ _ h => h) (Or.inl ⟨by kernel_rfl, ?y11⟩) hHeld ?_
                  case y11 =>
                    intro w0 hSw
                    (try dsimp only at hSw)
                    go_simp
                    try with_reducible rfl
                  try simp only [Act.put, List.setIfInBounds_toArray, List.set_cons_zero, List.set_cons_succ, List.getElem_toArray, List.getElem_cons_succ, List.getElem_cons_zero]
                  refine wpAnyN_take (i := 12) (v := ?_) rfl (by kernel_rfl) (by kernel_rfl) (by kernel_rfl) (by kernel_rfl) (fun _ _ _ h => h) (Or.inl ⟨by kernel_rfl, ?y12⟩) hHeld ?_
                  case y12 =>
                    intro w0 hSw
                    (try dsimp only at hSw)
                    go_simp
                    try with_reducible rfl
                  try simp only [Act.put, List.setIfInBounds_toArray, List.set_cons_zero, List.set_cons_succ, List.getElem_toArray, List.getElem_cons_succ, List.getElem_cons_zero]
                  refine wpAnyN_take (i := 13) (v := ?_) rfl (by kernel_rfl) (by kernel_rfl) (by kernel_rfl) (by kernel_rfl) (fun _ _ _ h => h) (Or.inl ⟨by kernel_rfl, ?y13⟩) hHeld ?_
                  case y13 =>
                    intro w0 hSw
                    (try dsimp only at hSw)
                    go_simp
                    try with_reducible rfl
                  try simp only [Act.put, List.setIfInBounds_toArray, List.set_cons_zero, List.set_cons_succ, List.getElem_toArray, List.getElem_cons_succ, List.getElem_cons_zero]
                  refine wpAnyN_take (i := 14) (v := ?_) rfl (by kernel_rfl) (by kernel_rfl) (by kernel_rfl) (by kernel_rfl) (fun _ _ _ h => h) (Or.inl ⟨by kernel_rfl, ?y14⟩) hHeld ?_
                  case y14 =>
                    intro w0 hSw
                    (try dsimp only at hSw)
                    go_simp
                    try with_reducible rfl
                  try simp only [Act.put, List.setIfInBounds_toArray, List.set_cons_zero, List.set_cons_succ, List.getElem_toArray, List.getElem_cons_succ, List.getElem_cons_zero]
                  refine wpAnyN_take (i := 15) (v := ?_) rfl (by kernel_rfl) (by kernel_rfl) (by kernel_rfl) (by kernel_rfl) (fun _ _ _ h => h) (Or.inl ⟨by kernel_rfl, ?y15⟩) hHeld ?_
                  case y15 =>
                    intro w0 hSw
                    (try dsimp only at hSw)
                    go_simp
                    try with_reducible rfl
                  try simp only [Act.put, List.setIfInBounds_toArray, List.set_cons_zero, List.set_cons_succ, List.getElem_toArray, List.getElem_cons_succ, List.getElem_cons_zero]
                  refine wpAnyN_step (i := 9) (by kernel_rfl) rfl (fun K hK => ?_)
                  go_simp
                  go_at_call 28
                  refine ho1.mono ?_
                  rintro en wx ⟨rfl, hwx⟩
                  obtain rfl := hwx.symm
                  clear ho1
                  go_wp2_with fail
                  refine hK.out _ _ (fun _ => hHeld) ?_
                  clear hK K
                  try simp only [Act.put, List.setIfInBounds_toArray, List.set_cons_zero, List.set_cons_succ, List.getElem_toArray, List.getElem_cons_succ, List.getElem_cons_zero]
                  refine wpAnyN_step (i := 16) (by kernel_rfl) rfl (fun K hK => ?_)
                  go_simp
                  go_at_call 28
                  refine ho2.mono ?_
                  rintro en wx ⟨rfl, hwx⟩
                  obtain rfl := hwx.symm
                  clear ho2
                  go_wp2_with fail
                  refine hK.out _ _ (fun _ => hHeld) ?_
                  clear hK K
                  try simp only [Act.put, List.setIfInBounds_toArray, List.set_cons_zero, List.set_cons_succ, List.getElem_toArray, List.getElem_cons_succ, List.getElem_cons_zero]
                  refine wpAnyN_take (i := 17) (v := ?_) rfl (by kernel_rfl) (by kernel_rfl) (by kernel_rfl) (by kernel_rfl) (fun _ _ _ h => h) (Or.inl ⟨by kernel_rfl, ?y16⟩) hHeld ?_
                  case y16 =>
                    intro w0 hSw
                    (try dsimp only at hSw)
                    go_simp
                    try with_reducible rfl
                  try simp only [Act.put, List.setIfInBounds_toArray, List.set_cons_zero, List.set_cons_succ, List.getElem_toArray, List.getElem_cons_succ, List.getElem_cons_zero]
                  refine wpAnyN_done (by kernel_rfl) ?_ _
                  go_wp2
                  go_roundw
                  case rel => exact ⟨q + 1, by go_num, Nat.succ_le_of_lt hqn, HB9.out.drew⟩
                  case measure => simpa [intOf] using meas_step2 t2.S.chart.length q hqn
              · as_aux_lemma =>
                  have hbW := HBB.out.trans (hb9.mono HBB.out.size)
                  have HBW := Lib.hid hbW
                  clear hb9
                  obtain ⟨w9, hw9⟩ : ∃ w9, w9 = wr := ⟨_, rfl⟩
                  subst hw9
                  have h15l := heap_lt HB15.out
                  have hB9 := (HBW.out.block w4.heap.size h15l).trans HB15.out
                  have f2 := frozen_blk hB9 2
                  have c2 : w9.cell? ⟨w4.heap.size, 2, none⟩ = some (.string ⟨#[118, 111, 105, 100, 46, 48]⟩) := by rw [cell_of_blk hB9]; rfl
                  have hB10 := heap_setCell_same (i := 2) hB9 (.string ⟨#[118, 111, 105, 100, 46, 49]⟩)
                  have hc10 := (Ch.refl (fun q => q = w4.heap.size) w9).setCell (p := ⟨w4.heap.size, 2, none⟩) (.inl rfl) (.string ⟨#[118, 111, 105, 100, 46, 49]⟩)
                  have hto10 := (HTO6.out.below HBW.out).ch hc10 fun q hq hh => (HH6.out q hh).2 hq
                  have hp10 := (HP6.out.below HBW.out).ch hc10 fun q hq hh => (HH6.out q ((HHH6.out q).2 hh)).2 hq
                  have hb10 := (HW6.out.trans (HBW.out.mono HW6.out.size)).setCell (p := ⟨w4.heap.size, 2, none⟩) HW4.out.size (.string ⟨#[118, 111, 105, 100, 46, 49]⟩)
                  obtain ⟨w10, hw10⟩ : ∃ w10, w10 = w9.setCell ⟨w4.heap.size, 2, none⟩ (.string ⟨#[118, 111, 105, 100, 46, 49]⟩) := ⟨_, rfl⟩
                  have HW10 := Lib.hid hw10
                  rw [← hw10] at hB10 hto10 hp10 hb10
                  have HB10 := Lib.hid hB10
                  have HTO10 := Lib.hid hto10
                  have HP10 := Lib.hid hp10
                  have HBL10 := Lib.hid hb10
                  clear hB9 hB10 hc10 hto10 hp10 hb10 hw10 hbW
                  go_wp2
                  rw [← HW10.out]
                  clear f2 c2
                  obtain ⟨NT, hNT⟩ : ∃ NT, NT = t2.T.length := ⟨_, rfl⟩
                  have hnt : NT ≤ 402 := by rw [hNT, HT2T.out, HT1.out.2]; simp; omega
                  have HNT := Lib.hid hNT
                  have hslice : ∀ wr, Below w10.heap.size w10 wr → wr.cell? ⟨bt, 1, none⟩ = some (.slice t6A NT t6c) := fun wr hb => by
                    have hp := HP10.out.below hb
                    rw [cell_of_blk hp.head, HNT.out]
                    rfl
                  have HSL := Lib.hid hslice
                  clear hNT hslice
                  go_loopw [20, 21] (fun us j wr => ∃ q : Nat, j = .int .i64 (q : Int) ∧ us = .bool ((t2.T.take q).any fun e => decide (e.key = void1)) ∧ q ≤ NT ∧ Below w10.heap.size w10 wr) (fun _ j _ => NT - (intOf j).toNat)
                  case atStart => exact ⟨0, rfl, rfl, Nat.zero_le _, Below.refl _ _⟩
                  case round =>
                    obtain ⟨q, rfl, rfl, hq, hbc⟩ := hrel
                    have b1 := HSL.out wr hbc
                    have h15 := (hbc.block w4.heap.size (heap_lt HB10.out)).trans HB10.out
                    have k2 : wr.cell? ⟨w4.heap.size, 2, none⟩ = some (.string ⟨#[118, 111, 105, 100, 46, 49]⟩) := by rw [cell_of_blk h15]; rfl
                    by_cases hqn : q < NT
                    · as_aux_lemma =>
                        have hqT : q < t2.T.length := by rw [← HNT.out]; exact hqn
                        obtain ⟨ad, had, hab, hcs⟩ := (HP10.out.below hbc).ev2 q hqT
                        have hat := any_take t2.T (fun e => decide (e.key = void1)) q hqT
                        obtain ⟨a, ha⟩ : ∃ a, a = t2.T[q] := ⟨_, rfl⟩
                        rw [← ha] at hcs hat
                        obtain ⟨g0, g1, g2, g3, g4, g5, g6, g7, g8, g9, g10, g11⟩ := ev_at (by rw [block_add]; exact hab) hcs wr (Below.refl _ _)
                        cases had
                        obtain ⟨U, hU⟩ : ∃ U, U = (t2.T.take q).any fun e => decide (e.key = void1) := ⟨_, rfl⟩
                        rw [← hU] at hat ⊢
                        have HAT := Lib.hid hat
                        have HBC := Lib.hid hbc
                        clear hcs ha hU hat hbc h15 g0 g1 g3 g4 g5 g6 g7 g8 g9 g10 g11
                        cases U with
                        | true =>
                          go_wp2
                          go_quiet (fail)
                          have HB := Lib.hid (below_drewN HBC.out nq)
                          go_wp2
                          go_roundw
                          case rel => exact ⟨q + 1, by go_num, by rw [HAT.out]; rfl, Nat.succ_le_of_lt hqn, HB.out⟩
                          case measure => simpa [intOf] using meas_step2 NT q hqn
                        | false =>
                          go_wp2
                          go_quiet (fail)
                          have HB := Lib.hid (below_drewN HBC.out nq)
                          go_wp2
                          go_roundw
                          case rel => exact ⟨q + 1, by go_num, by rw [HAT.out, lit_beq, Bool.false_or], Nat.succ_le_of_lt hqn, HB.out⟩
                          case measure => simpa [intOf] using meas_step2 NT q hqn
                    · as_aux_lemma =>
                        obtain rfl : q = NT := by omega
                        have HBC := Lib.hid hbc
                        obtain ⟨U, hU⟩ : ∃ U, U = usedB t2.S void1 := ⟨_, rfl⟩
                        have hus : ((t2.T.take q).any fun e => decide (e.key = void1)) = U := by rw [HNT.out, List.take_length, hU]; exact used_told HOK2.out HKF2.out void1 (by decide)
                        rw [hus]
                        have hck : checkE t2.S (voidE d void1 x.key) = if U = true then 70 else 74 := by rw [hU]; exact HAG.out (by have := HOK2.out.len; rw [← HNT.out] at this; omega)
                        have hzv1 : SmallEv (voidE d void1 x.key) := ⟨by show void1.size ≤ _; decide, HIV.out.1.account, HIV.out.1.other, HIV.out.1.ref, HIV.out.1.ref2, HIV.out.1.memo, HIV.out.1.count, HIV.out.1.lines⟩
                        have hiv1 : InEv (voidE d void1 x.key) := ⟨HIV.out.2.amount, HIV.out.2.lines⟩
                        obtain ⟨w11, hw11⟩ : ∃ w11, w11 = wr := ⟨_, rfl⟩
                        subst hw11
                        have hto11 := HTO10.out.below hbc
                        have htl3 : Calls Tryz.prog 13 #[.pointer (some ⟨bt, 0, none⟩), .agg #[.int .i64 4, .int .i64 d, .string ⟨#[118, 111, 105, 100, 46, 49]⟩, .string ⟨#[]⟩, .string ⟨#[]⟩, .string x.key, .string ⟨#[]⟩, .int .i64 0, .int .i64 0, .int .i64 0, .string ⟨#[]⟩, .slice none 0 0]] w11 (TellPost H6 G6 bt t2 (voidE d void1 x.key) w11) :=
                          tell_any (R := fun _ => False) (lv := .slice none 0 0) hto11 HOK2.out hzv1 hiv1 (RowAt.nil _ _ _) (fun n c e => by cases e; exact ⟨rfl, rfl⟩) fun q h => h.elim
                        have hne : ¬ checkE t2.S (voidE d void1 x.key) = 0 := by rw [hck]; split <;> omega
                        have hno := decide_eq_false hne
                        have hs7 := tellF_no hne
                        have hev : w11.cell? ⟨w4.heap.size, 0, none⟩ = some (.int .i64 4) ∧ w11.cell? ⟨w4.heap.size, 1, none⟩ = some (.int .i64 d) ∧ w11.cell? ⟨w4.heap.size, 2, none⟩ = some (.string ⟨#[118, 111, 105, 100, 46, 49]⟩) ∧ w11.cell? ⟨w4.heap.size, 3, none⟩ = some (.string ⟨#[]⟩) ∧ w11.cell? ⟨w4.heap.size, 4, none⟩ = some (.string ⟨#[]⟩) ∧ w11.cell? ⟨w4.heap.size, 5, none⟩ = some (.string x.key) ∧ w11.cell? ⟨w4.heap.size, 6, none⟩ = some (.string ⟨#[]⟩) ∧ w11.cell? ⟨w4.heap.size, 7, none⟩ = some (.int .i64 0) ∧ w11.cell? ⟨w4.heap.size, 8, none⟩ = some (.int .i64 0) ∧ w11.cell? ⟨w4.heap.size, 9, none⟩ = some (.int .i64 0) ∧ w11.cell? ⟨w4.heap.size, 10, none⟩ = some (.string ⟨#[]⟩) ∧ w11.cell? ⟨w4.heap.size, 11, none⟩ = some (.slice none 0 0) := ev_cells (⟨h15⟩ : EvAt w11 w4.heap.size (voidE d void1 x.key) (.slice none 0 0))
                        obtain ⟨q_0, q_1, q_2, q_3, q_4, q_5, q_6, q_7, q_8, q_9, q_10, q_11⟩ := hev
                        have HNO := Lib.hid hno
                        have HS7 := Lib.hid hs7
                        have HCK := Lib.hid hck
                        have H15 := Lib.hid h15
                        have HZ1 := Lib.hid (And.intro hzv1 hiv1)
                        clear hus hck hU hto11 hne hno hs7 hbc h15 k2 hzv1 hiv1
                        go_wp2_with (go_at_call 13; refine htl3.mono ?_)
                        rintro en w12 ⟨rv7, H7, G7, rfl, hto7, hown7, hch7, _, _, _⟩
                        rw [HNO.out]
                        rw [HS7.out] at hto7
                        obtain ⟨F7, bb7, tv7, rw7, tl7, hp7, hHH7⟩ := hto7
                        have hB12 := (hch7.block w4.heap.size (heap_lt H15.out) (fun hh => (HH6.out _ hh).2 rfl)).trans H15.out
                        have HB11 := Lib.hid (HBL10.out.trans (HBC.out.mono HBL10.out.size))
                        have HB12 := Lib.hid (HB11.out.trans (hch7.toBelow (B := w.heap.size) HB11.out.size fun q hq => Nat.le_of_lt (HH6.out q hq).1))
                        obtain ⟨Y, hY⟩ : ∃ Y, Y = checkE t2.S (voidE d void1 x.key) := ⟨_, rfl⟩
                        have hchk : Calls Tryz.prog 21 #[.pointer (some ⟨bb7, 0, none⟩), .agg #[.int .i64 4, .int .i64 d, .string ⟨#[118, 111, 105, 100, 46, 49]⟩, .string ⟨#[]⟩, .string ⟨#[]⟩, .string x.key, .string ⟨#[]⟩, .int .i64 0, .int .i64 0, .int .i64 0, .string ⟨#[]⟩, .slice none 0 0]] w12.drew fun en w' => en = .returned (.int .i64 Y) ∧ Below w12.drew.heap.size w12.drew w' := by
                          rw [hY]
                          exact check_any (R := fun _ => False) (hp7.book.below (Below.refl _ w12).drew) HOK2.out.ok HZ1.out.1 HZ1.out.2 none 0 (RowAt.nil _ _ _)
                        have hYU : Y = if U = true then 70 else 74 := by rw [hY]; exact HCK.out
                        have HYU := Lib.hid hYU
                        have hs : ∀ W : World, W.heap[bt]? = w12.heap[bt]? → W.heap[w4.heap.size]? = w12.heap[w4.heap.size]? → W.cell? ⟨bt, 0, none⟩ = some (.pointer (some ⟨bb7, 0, none⟩)) ∧ W.cell? ⟨w4.heap.size, 0, none⟩ = some (.int .i64 4) ∧ W.cell? ⟨w4.heap.size, 1, none⟩ = some (.int .i64 d) ∧ W.cell? ⟨w4.heap.size, 2, none⟩ = some (.string ⟨#[118, 111, 105, 100, 46, 49]⟩) ∧ W.cell? ⟨w4.heap.size, 3, none⟩ = some (.string ⟨#[]⟩) ∧ W.cell? ⟨w4.heap.size, 4, none⟩ = some (.string ⟨#[]⟩) ∧ W.cell? ⟨w4.heap.size, 5, none⟩ = some (.string x.key) ∧ W.cell? ⟨w4.heap.size, 6, none⟩ = some (.string ⟨#[]⟩) ∧ W.cell? ⟨w4.heap.size, 7, none⟩ = some (.int .i64 0) ∧ W.cell? ⟨w4.heap.size, 8, none⟩ = some (.int .i64 0) ∧ W.cell? ⟨w4.heap.size, 9, none⟩ = some (.int .i64 0) ∧ W.cell? ⟨w4.heap.size, 10, none⟩ = some (.string ⟨#[]⟩) ∧ W.cell? ⟨w4.heap.size, 11, none⟩ = some (.slice none 0 0) := fun W hW1 hW2 => ⟨by rw [cell_of_blk (hW1.trans hp7.head)]; rfl, ev_cells (⟨hW2.trans hB12⟩ : EvAt W w4.heap.size (voidE d void1 x.key) (.slice none 0 0))⟩
                        have hbtl := heap_lt hp7.head
                        have hb15l := heap_lt hB12
                        have HS := Lib.hid hs
                        clear b1 htl3 hown7 hch7 hp7 hHH7 hB12 hY hYU hs q_0 q_1 q_2 q_3 q_4 q_5 q_6 q_7 q_8 q_9 q_10 q_11
                        go_wp2
                        have hHeld := HS.out w12.drew rfl rfl
                        refine wp_region_n (n := 8) (S := fun w' => w'.cell? ⟨bt, 0, none⟩ = some (.pointer (some ⟨bb7, 0, none⟩)) ∧ w'.cell? ⟨w4.heap.size, 0, none⟩ = some (.int .i64 4) ∧ w'.cell? ⟨w4.heap.size, 1, none⟩ = some (.int .i64 d) ∧ w'.cell? ⟨w4.heap.size, 2, none⟩ = some (.string ⟨#[118, 111, 105, 100, 46, 49]⟩) ∧ w'.cell? ⟨w4.heap.size, 3, none⟩ = some (.string ⟨#[]⟩) ∧ w'.cell? ⟨w4.heap.size, 4, none⟩ = some (.string ⟨#[]⟩) ∧ w'.cell? ⟨w4.heap.size, 5, none⟩ = some (.string x.key) ∧ w'.cell? ⟨w4.heap.size, 6, none⟩ = some (.string ⟨#[]⟩) ∧ w'.cell? ⟨w4.heap.size, 7, none⟩ = some (.int .i64 0) ∧ w'.cell? ⟨w4.heap.size, 8, none⟩ = some (.int .i64 0) ∧ w'.cell? ⟨w4.heap.size, 9, none⟩ = some (.int .i64 0) ∧ w'.cell? ⟨w4.heap.size, 10, none⟩ = some (.string ⟨#[]⟩) ∧ w'.cell? ⟨w4.heap.size, 11, none⟩ = some (.slice none 0 0)) (by kernel_rfl) ?_
                        refine wpAnyN_take (i := 0) (v := ?_) rfl (by kernel_rfl) (by kernel_rfl) (by kernel_rfl) (by kernel_rfl) (fun _ _ _ h => h) (Or.inl ⟨by kernel_rfl, ?y17⟩) hHeld ?_
                        case y17 =>
                          intro w0 hSw
                          (try dsimp only at hSw)
                          go_simp
                          try with_reducible rfl
                        try simp only [Act.put, List.setIfInBounds_toArray, List.set_cons_zero, List.set_cons_succ, List.getElem_toArray, List.getElem_cons_succ, List.getElem_cons_zero]
                        refine wpAnyN_take (i := 1) (v := ?_) rfl (by kernel_rfl) (by kernel_rfl) (by kernel_rfl) (by kernel_rfl) (fun _ _ _ h => h) (Or.inl ⟨by kernel_rfl, ?y18⟩) hHeld ?_
                        case y18 =>
                          intro w0 hSw
                          (try dsimp only at hSw)
                          go_simp
                          try with_reducible rfl
                        try simp only [Act.put, List.setIfInBounds_toArray, List.set_cons_zero, List.set_cons_succ, List.getElem_toArray, List.getElem_cons_succ, List.getElem_cons_zero]
                        refine wpAnyN_take (i := 2) (v := ?_) rfl (by kernel_rfl) (by kernel_rfl) (by kernel_rfl) (by kernel_rfl) (fun _ _ _ h => h) (Or.inl ⟨by kernel_rfl, ?y19⟩) hHeld ?_
                        case y19 =>
                          intro w0 hSw
                          (try dsimp only at hSw)
                          go_simp
                          try with_reducible rfl
                        try simp only [Act.put, List.setIfInBounds_toArray, List.set_cons_zero, List.set_cons_succ, List.getElem_toArray, List.getElem_cons_succ, List.getElem_cons_zero]
                        refine wpAnyN_take (i := 3) (v := ?_) rfl (by kernel_rfl) (by kernel_rfl) (by kernel_rfl) (by kernel_rfl) (fun _ _ _ h => h) (Or.inl ⟨by kernel_rfl, ?y20⟩) hHeld ?_
                        case y20 =>
                          intro w0 hSw
                          (try dsimp only at hSw)
                          go_simp
                          try with_reducible rfl
                        try simp only [Act.put, List.setIfInBounds_toArray, List.set_cons_zero, List.set_cons_succ, List.getElem_toArray, List.getElem_cons_succ, List.getElem_cons_zero]
                        refine wpAnyN_take (i := 4) (v := ?_) rfl (by kernel_rfl) (by kernel_rfl) (by kernel_rfl) (by kernel_rfl) (fun _ _ _ h => h) (Or.inl ⟨by kernel_rfl, ?y21⟩) hHeld ?_
                        case y21 =>
                          intro w0 hSw
                          (try dsimp only at hSw)
                          go_simp
                          try with_reducible rfl
                        try simp only [Act.put, List.setIfInBounds_toArray, List.set_cons_zero, List.set_cons_succ, List.getElem_toArray, List.getElem_cons_succ, List.getElem_cons_zero]
                        refine wpAnyN_step (i := 5) (by kernel_rfl) rfl (fun K hK => ?_)
                        go_simp
                        go_at_call 21
                        refine hchk.mono ?_
                        rintro en wk ⟨rfl, hbk⟩
                        have HBK := Lib.hid (below_undrew hbk)
                        have hHeld := HS.out wk ((below_undrew hbk).block _ hbtl) ((below_undrew hbk).block _ hb15l)
                        clear hchk hbk
                        go_wp2_with fail
                        refine hK.out _ _ (fun _ => hHeld) ?_
                        clear hK K
                        try simp only [Act.put, List.setIfInBounds_toArray, List.set_cons_zero, List.set_cons_succ, List.getElem_toArray, List.getElem_cons_succ, List.getElem_cons_zero]
                        refine wpAnyN_step (i := 6) (by kernel_rfl) rfl (fun K hK => ?_)
                        go_simp
                        go_at_call 20
                        refine (num_any _ _).mono ?_
                        rintro en wx ⟨rfl, hwx⟩
                        obtain rfl := hwx.symm
                        go_wp2_with fail
                        refine hK.out _ _ (fun _ => hHeld) ?_
                        clear hK K
                        try simp only [Act.put, List.setIfInBounds_toArray, List.set_cons_zero, List.set_cons_succ, List.getElem_toArray, List.getElem_cons_succ, List.getElem_cons_zero]
                        refine wpAnyN_take (i := 7) (v := ?_) rfl (by kernel_rfl) (by kernel_rfl) (by kernel_rfl) (by kernel_rfl) (fun _ _ _ h => h) (Or.inl ⟨by kernel_rfl, ?y22⟩) hHeld ?_
                        case y22 =>
                          intro w0 hSw
                          (try dsimp only at hSw)
                          go_simp
                          try with_reducible rfl
                        try simp only [Act.put, List.setIfInBounds_toArray, List.set_cons_zero, List.set_cons_succ, List.getElem_toArray, List.getElem_cons_succ, List.getElem_cons_zero]
                        refine wpAnyN_done (by kernel_rfl) ?_ _
                        have hF := HB12.out.trans (HBK.out.mono HB12.out.size)
                        cases U with
                        | true =>
                          obtain rfl : Y = 70 := HYU.out
                          go_wp2
                          go_ret
                          exact ⟨rfl, hF⟩
                        | false =>
                          obtain rfl : Y = 74 := HYU.out
                          go_wp2
                          go_ret
                          exact ⟨rfl, hF⟩

    · rw [decide_eq_false hv]
      clear hto6 hownN
      have HV := Lib.hid hv
      clear hv
      go_wp2_with (go_at_call 14; refine (first_any _).mono ?_; rintro en wf ⟨rfl, hbf⟩; have HBF := Lib.hid hbf; clear hbf)
      go_ret
      exact ⟨rfl, HW6.out.trans (HBF.out.mono HW6.out.size)⟩
  · rw [decide_eq_false hc]
    clear hto4 hownM hdis4
    have hcc := Lib.hid hc
    clear hc
    go_wp2_with (go_at_call 14; refine (first_any _).mono ?_; rintro en wf ⟨rfl, hbf⟩; have HBF := Lib.hid hbf; clear hbf)
    go_ret
    exact ⟨rfl, HW4.out.trans (HBF.out.mono HW4.out.size)⟩
end Go.Proofs.YtgocoofcelggcaaGreatDoor
