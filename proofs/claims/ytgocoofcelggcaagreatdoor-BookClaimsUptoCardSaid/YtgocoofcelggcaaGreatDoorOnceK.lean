/- BookOnce: the walk. Printed by gen_once.py. -/
import Derived.Test.YtgocoofcelggcaaGreatDoorPack14
namespace Go.Proofs.YtgocoofcelggcaaGreatDoor
open Go.RowKit
set_option linter.unusedVariables false
set_option linter.unusedSimpArgs false

theorem takCells_each (T : List EventV) (lv : Nat → Value) : ∀ x ∈ takCells T lv, x.length = 12 := fun x hx => by
  unfold takCells at hx
  obtain ⟨i, hi, rfl⟩ := List.getElem_of_mem hx
  rw [List.getElem_mapIdx]
  rfl
/-- One of the events that were taken. -/
theorem ToldP.ev {w : World} {F G : Nat → Prop} {bt bb n c : Nat} {A : Option Addr} {rv : Value} {lv : Nat → Value} {S : BookS} {T : List EventV} {rs : List PostV} (hp : ToldP w F G bt bb (.slice A n c) rv lv S T rs) (k : Nat) (hk : k < T.length) :
    ∃ ad, A = some ad ∧ ad.block < w.heap.size ∧ ∀ i u, (evCs T[k] (lv k)).toList[i]? = some u → w.cell? ((ad.add (k * 12)).add i) = some u := by
  have h := RowAt.of_own (R := fun _ => True) (B := 0) (e := 25) (s := 12) (xs := takCells T lv) (by rw [takCells_len]; exact hp.taken) (takCells_each T lv) fun _ _ => trivial
  obtain ⟨A', c', hv, hx⟩ := h
  injection hv with h1 _ _
  subst h1
  obtain ⟨ad, e1, h1, _, h3⟩ := hx k (by rw [takCells_len]; exact hk)
  refine ⟨ad, e1, h1, fun i u hu => h3 i u ?_⟩
  unfold takCells
  rw [List.getElem_mapIdx]
  exact hu

theorem once_lines {w w4 : World} {B : Nat} {v : Value} {l : List LineV} {H : Nat → Prop} {o : Obj} (h : w.ownsRow B 90 3 v l.length (l.map encLine).flatten) (hc : Ch H (w.alloc o) w4) (hH : ∀ q, B ≤ q → ¬ H q) : LinesAt w4 (fun q => v.ownBlock = some q) v l := by
  have h1 := ownsRow_keep (w' := w4) h fun q e => by
    have hl := h.lt q e
    exact (hc.block q (by rw [World.size_alloc]; omega) (hH q hl.1)).trans (Below.heap_alloc w o q hl.2)
  exact RowAt.of_own (B := B) (e := 90) (by rw [List.length_map]; exact h1) (lines_len _) fun _ e => e
theorem alloc_lt (w : World) (o : Obj) : w.heap.size < (w.alloc o).heap.size := by rw [World.size_alloc]; omega
theorem once_apart {w w3 w4 : World} {n m : Nat} {e : TypeId} {s : Nat} {v : Value} {xs : List Value} {H H4 G : Nat → Prop} (h : w.ownsRow n e s v m xs) (hl : ∀ q, H q → q < n) (hn : ∀ q, H4 q → H q ∨ (w3.heap.size ≤ q ∧ q < w4.heap.size)) (hs : w.heap.size ≤ w3.heap.size) :
    ∀ q, v.ownBlock = some q → ¬ H4 q ∨ G q := fun q e => .inl fun hf => by
  have h1 := h.lt q e
  rcases hn q hf with h2 | h2
  · have := hl q h2; omega
  · omega
theorem lines_form {w : World} {R : Nat → Prop} {v : Value} {l : List LineV} (h : LinesAt w R v l) : ∃ A c, v = .slice A l.length c := by
  obtain ⟨A, c, hv, _⟩ := h
  exact ⟨A, c, by rw [hv, List.length_map]⟩

structure StayInv (W0 : World) (bt : Nat) (t : ToldS) (wr : World) : Prop where
  told : ∃ H G, ToldAt wr H G bt t ∧ ∀ x, H x → W0.heap.size ≤ x
  bel : Below W0.heap.size W0 wr
structure OnceInv (W0 : World) (bt : Nat) (t : ToldS) (i : Value) (wr : World) (k : Nat) : Prop where
  le : k ≤ t.T.length
  at_ : i = .int .i64 (k : Int)
  stay : StayInv W0 bt t wr

set_option maxRecDepth 100000 in
set_option maxHeartbeats 8000000 in
theorem once_walk (w : World) (v : Value) (l : List EventV) (hl : EventsAt w v l) (o : EventV) (lo : Value) (ho : EventAt1 w lo o) :
    Calls Tryz.prog 3 #[v, evV o lo] w fun en w' => en = .returned (.bool true) ∧ Below w.heap.size w w' := by
  have hbox := bel1 w (.cells (evCs o lo) 25)
  have hall := tellAll_any _ v l (hl.below hbox)
  have hok := told_ok hl.small (min l.length 400)
  obtain ⟨t, ht⟩ : ∃ t, t = tellsF toldNew (l.take (min l.length 400)) := ⟨_, rfl⟩
  rw [← ht] at hok
  have hTL : t.T.length ≤ 1000 := by have := hok.len; have := hok.ok.ok.ev1; omega
  have HOK := Lib.hid hok
  have HO := Lib.hid ho
  have HBOX := Lib.hid hbox
  have HT := Lib.hid ht
  have HBOX0 := Lib.hid (World.alloc_heap_new w (.cells (evCs o lo) 25))
  unfold evCs at hall HBOX HBOX0
  unfold evV
  clear hl hbox hok ho ht
  go_enter Tryz.func3, Tryz.ntmps3
  go_wp2_with (go_at_call 11; refine hall.mono ?_; rintro en w1 ⟨bt, rfl, hbt, htold, hbel⟩; unfold ptrV; rw [← HT.out] at htold; have HI := Lib.hid (StayInv.mk htold hbel); clear hall htold hbel)
  obtain ⟨W0, hW0⟩ : ∃ W0, w.alloc (.cells #[.int .i64 o.kind, .int .i64 o.day, .string o.key, .string o.account, .string o.other, .string o.ref, .string o.ref2, .int .i64 o.typ, .int .i64 o.due, .int .i64 o.amount, .string o.memo, lo] 25) = W0 := ⟨_, rfl⟩
  rw [hW0] at HBOX HBOX0 HI hbt
  clear hW0
  go_loopw [6] (fun i wr => ∃ k : Nat, OnceInv W0 bt t i wr k) (fun i _ => t.T.length - (intOf i).toNat)
  case atStart => exact ⟨0, Nat.zero_le _, rfl, HI.out⟩
  case round =>
    obtain ⟨k, hk, rfl, hstay⟩ := hrel
    clear HI
    obtain ⟨⟨H, Gs, hto, hH⟩, hbel⟩ := hstay
    obtain ⟨F, bb, tv, rv, tl, hp, hHH⟩ := hto
    obtain ⟨tA, tc, htv⟩ := own_form hp.taken
    subst htv
    have b1 : wr.cell? ⟨bt, 1, none⟩ = some (.slice tA t.T.length tc) := by rw [cell_of_blk hp.head]; rfl
    by_cases hlt : k < t.T.length
    · obtain ⟨ad, rfl, hab, hcs⟩ := hp.ev k hlt
      have hLk := hp.lines k hlt
      have hNk := hp.nil k hlt
      have hmem : t.T[k] ∈ t.T := List.getElem_mem hlt
      have hsm := hp.small _ hmem
      have hkey := HOK.out.keys _ hmem
      obtain ⟨e, he⟩ : ∃ e, e = t.T[k] := ⟨_, rfl⟩
      obtain ⟨le, hle⟩ : ∃ le, le = tl k := ⟨_, rfl⟩
      rw [← he] at hLk hsm hkey
      rw [← he, ← hle] at hcs
      rw [← hle] at hLk hNk
      obtain ⟨eA, ec, hef⟩ := lines_form hLk
      rw [hef] at hcs hLk hNk
      obtain ⟨g0, g1, g2, g3, g4, g5, g6, g7, g8, g9, g10, g11⟩ := ev_at (by rw [block_add]; exact hab) hcs wr (Below.refl _ _)
      have hbw := hbel.size
      have HTO := Lib.hid (show ToldAt wr H Gs bt t from ⟨F, bb, _, rv, tl, hp, hHH⟩)
      have HHB := Lib.hid hH
      have HBEL := Lib.hid hbel
      have HL := Lib.hid hLk
      have HN := Lib.hid hNk
      have HSM := Lib.hid hsm
      have HKEY := Lib.hid hkey
      clear hp hHH hH hbel hcs hLk hNk hsm hkey hmem he hle hef
      by_cases hne : e.key = emptyB
      · have hke : e.key.toList.isEmpty = true := by rw [hne, ByteArray.toList_eq]; rfl
        clear hne
        go_wp2
        go_roundw
        case rel => exact ⟨k + 1, by omega, by go_num, ⟨H, Gs, HTO.out.below (bel1 wr _), HHB.out⟩, HBEL.out.alloc hbw _⟩
        case measure => simp [intOf]; omega
      · have hke : e.key.toList.isEmpty = false := by
          cases hx : e.key.toList.isEmpty with
          | false => rfl
          | true => exact absurd (nilB_iff.1 (by rw [ByteArray.toList_eq] at hx; exact hx)) hne
        have hcop := fun W (hb : Below w.heap.size w W) => copied_any (w := W) (HO.out.lines.below hb) HO.out.nil HO.out.small.count
        have hkk := HKEY.out hne
        have HC1 := Lib.hid (once (S := t.S) (x := e) hkk hne)
        have HC2 := Lib.hid (once (S := t.S) (x := { o with key := e.key }) hkk hne)
        have hw0 := HBOX.out.size
        have hb7 := bel1 wr (.cells #[.int .i64 e.kind, .int .i64 e.day, .string e.key, .string e.account, .string e.other, .string e.ref, .string e.ref2, .int .i64 e.typ, .int .i64 e.due, .int .i64 e.amount, .string e.memo, .slice eA e.lines.length ec] 25)
        have hn7 := World.alloc_heap_new wr (.cells #[.int .i64 e.kind, .int .i64 e.day, .string e.key, .string e.account, .string e.other, .string e.ref, .string e.ref2, .int .i64 e.typ, .int .i64 e.due, .int .i64 e.amount, .string e.memo, .slice eA e.lines.length ec] 25)
        have HB7 := Lib.hid hb7
        have HN7 := Lib.hid hn7
        have hbe := HBOX.out.trans ((HBEL.out.trans (hb7.mono hbw)).mono hw0)
        have hcp := hcop _ hbe
        have HLT := Lib.hid HTO.out.lt
        have HNH := Lib.hid (show ∀ q, wr.heap.size ≤ q → ¬ H q from fun q hq hf => by have := HTO.out.lt q hf; omega)
        have HX := Lib.hid (show SmallEv { o with key := e.key } ∧ InEv { o with key := e.key } from ⟨⟨HSM.out.1.key, HO.out.small.account, HO.out.small.other, HO.out.small.ref, HO.out.small.ref2, HO.out.small.memo, HO.out.small.count, HO.out.small.lines⟩, ⟨HO.out.num.amount, HO.out.num.lines⟩⟩)
        clear hcop hkk hne hb7 hn7 hbe
        unfold evV at hcp
        have ob : ∀ W, Below W0.heap.size W0 W → W.cell? ⟨w.heap.size, 0, none⟩ = some (.int .i64 o.kind) ∧ W.cell? ⟨w.heap.size, 1, none⟩ = some (.int .i64 o.day) ∧ W.cell? ⟨w.heap.size, 2, none⟩ = some (.string o.key) ∧ W.cell? ⟨w.heap.size, 3, none⟩ = some (.string o.account) ∧ W.cell? ⟨w.heap.size, 4, none⟩ = some (.string o.other) ∧ W.cell? ⟨w.heap.size, 5, none⟩ = some (.string o.ref) ∧ W.cell? ⟨w.heap.size, 6, none⟩ = some (.string o.ref2) ∧ W.cell? ⟨w.heap.size, 7, none⟩ = some (.int .i64 o.typ) ∧ W.cell? ⟨w.heap.size, 8, none⟩ = some (.int .i64 o.due) ∧ W.cell? ⟨w.heap.size, 9, none⟩ = some (.int .i64 o.amount) ∧ W.cell? ⟨w.heap.size, 10, none⟩ = some (.string o.memo) ∧ W.cell? ⟨w.heap.size, 11, none⟩ = some (lo) := fun W hb => by
          have hE : EvAt W w.heap.size o lo := ⟨(hb.block _ (heap_lt HBOX0.out)).trans HBOX0.out⟩
          exact ev_cells hE
        obtain ⟨q0, q1, q2, q3, q4, q5, q6, q7, q8, q9, q10, q11⟩ := ob _ (HBEL.out.trans (HB7.out.mono hbw))
        have sv : ∀ W : World, W.heap[wr.heap.size]? = (wr.alloc (.cells #[.int .i64 e.kind, .int .i64 e.day, .string e.key, .string e.account, .string e.other, .string e.ref, .string e.ref2, .int .i64 e.typ, .int .i64 e.due, .int .i64 e.amount, .string e.memo, .slice eA e.lines.length ec] 25)).heap[wr.heap.size]? → W.cell? ⟨wr.heap.size, 0, none⟩ = some (.int .i64 e.kind) ∧ W.cell? ⟨wr.heap.size, 1, none⟩ = some (.int .i64 e.day) ∧ W.cell? ⟨wr.heap.size, 2, none⟩ = some (.string e.key) ∧ W.cell? ⟨wr.heap.size, 3, none⟩ = some (.string e.account) ∧ W.cell? ⟨wr.heap.size, 4, none⟩ = some (.string e.other) ∧ W.cell? ⟨wr.heap.size, 5, none⟩ = some (.string e.ref) ∧ W.cell? ⟨wr.heap.size, 6, none⟩ = some (.string e.ref2) ∧ W.cell? ⟨wr.heap.size, 7, none⟩ = some (.int .i64 e.typ) ∧ W.cell? ⟨wr.heap.size, 8, none⟩ = some (.int .i64 e.due) ∧ W.cell? ⟨wr.heap.size, 9, none⟩ = some (.int .i64 e.amount) ∧ W.cell? ⟨wr.heap.size, 10, none⟩ = some (.string e.memo) ∧ W.cell? ⟨wr.heap.size, 11, none⟩ = some (.slice eA e.lines.length ec) := fun W hW => by
          have hE : EvAt W wr.heap.size e (.slice eA e.lines.length ec) := ⟨hW.trans HN7.out⟩
          exact ev_cells hE
        have SV := Lib.hid sv
        clear ob sv
        go_wp2_with (first
          | (go_at_call 12; refine hcp.mono ?_; rintro en wc ⟨cv, rfl, hcv, hbc⟩; obtain ⟨cA, cc, hcf⟩ := own_form hcv; subst hcf; have hcv := hcv.mono (base' := wr.heap.size) (by simp); have hcs := hbc.size; rw [World.size_alloc] at hcs; have hn78 : ¬ (wr.heap.size = wc.heap.size) := (by omega); have hn87 : ¬ (wc.heap.size = wr.heap.size) := (by omega); have h7 := hbc.block wr.heap.size (by simp); have s7 := fun o => SV.out (wc.alloc o) ((Below.heap_alloc wc o _ (by omega)).trans h7); have r0 := fun o => (s7 o).1; have r1 := fun o => (s7 o).2.1; have r2 := fun o => (s7 o).2.2.1; have r3 := fun o => (s7 o).2.2.2.1; have r4 := fun o => (s7 o).2.2.2.2.1; have r5 := fun o => (s7 o).2.2.2.2.2.1; have r6 := fun o => (s7 o).2.2.2.2.2.2.1; have r7 := fun o => (s7 o).2.2.2.2.2.2.2.1; have r8 := fun o => (s7 o).2.2.2.2.2.2.2.2.1; have r9 := fun o => (s7 o).2.2.2.2.2.2.2.2.2.1; have r10 := fun o => (s7 o).2.2.2.2.2.2.2.2.2.2.1; have r11 := fun o => (s7 o).2.2.2.2.2.2.2.2.2.2.2; have hb3 : ∀ o, Below wr.heap.size wr (wc.alloc o) := (fun o => ((HB7.out.trans (hbc.mono (by simp))).alloc (by omega) o)); have HB3 := Lib.hid hb3; have HCV := Lib.hid hcv; have HBC := Lib.hid hbc; clear hcp hcv hbc s7 h7 hb3)
          | (go_at_call 13; refine (tell_any (HTO.out.below (HB3.out _)) HOK.out HSM.out.1 HSM.out.2 (HL.out.below (HB3.out _)) HN.out (fun q hq => .inr hq)).mono ?_))
        rintro en w4 ⟨rv4, H4, G4, rfl, hto4, hown4, hch4, hnew4, hdis4, hG4⟩
        rw [decide_eq_false HC1.out]
        rw [tellF_no HC1.out] at hto4
        have h8 := (hch4.block wc.heap.size (by simp) (fun hf => by have := HLT.out _ hf; omega)).trans (World.alloc_heap_new wc _)
        have hE8 : EvAt w4 wc.heap.size { o with key := e.key } (.slice cA o.lines.length cc) := ⟨h8⟩
        obtain ⟨p0, p1, p2, p3, p4, p5, p6, p7, p8, p9, p10, p11⟩ := ev_cells hE8
        have hl4 := once_lines HCV.out hch4 HNH.out
        have hR4 := once_apart (G := G4) HCV.out HLT.out hnew4 (Nat.le_of_lt (alloc_lt wc _))
        have htl5 := tell_any (e := { o with key := e.key }) hto4 HOK.out HX.out.1 HX.out.2 hl4 (NilOk.own HCV.out) hR4
        unfold evV ptrV at htl5
        have HT4 := Lib.hid hto4
        have HCH4 := Lib.hid hch4
        have HNW4 := Lib.hid hnew4
        clear hto4 hown4 hch4 hnew4 hdis4 hG4 h8 hE8 r0 r1 r2 r3 r4 r5 r6 r7 r8 r9 r10 r11 HB3 hl4 hR4
        go_wp2_with (go_at_call 13; refine htl5.mono ?_)
        rintro en w5 ⟨rv5, H5, G5, rfl, hto5, hown5, hch5, hnew5, hdis5, hG5⟩
        rw [decide_eq_false HC2.out]
        rw [tellF_no HC2.out] at hto5
        have HT5 := Lib.hid hto5
        have HCH5 := Lib.hid hch5
        have HNW5 := Lib.hid hnew5
        clear hto5 hown5 hch5 hnew5 hdis5 hG5 htl5
        go_simp
        go_wp2
        go_roundw
        case rel =>
          have hs4 := HCH4.out.size
          rw [World.size_alloc] at hs4
          have hH4 : ∀ q, H4 q → W0.heap.size ≤ q := fun q hq => by
            rcases HNW4.out q hq with h1 | h1
            · exact HHB.out q h1
            · rw [World.size_alloc] at h1; omega
          have hH5 : ∀ q, H5 q → W0.heap.size ≤ q := fun q hq => by
            rcases HNW5.out q hq with h1 | h1
            · exact hH4 q h1
            · omega
          have hb1 : Below W0.heap.size W0 (wc.alloc (.cells #[.int .i64 o.kind, .int .i64 o.day, .string e.key, .string o.account, .string o.other, .string o.ref, .string o.ref2, .int .i64 o.typ, .int .i64 o.due, .int .i64 o.amount, .string o.memo, .slice cA o.lines.length cc] 25)) := HBEL.out.trans (((HB7.out.trans (HBC.out.mono (by simp))).alloc (by omega) _).mono hbw)
          have hb2 := hb1.trans (HCH4.out.toBelow (B := W0.heap.size) (by rw [World.size_alloc]; omega) HHB.out)
          exact ⟨k + 1, by omega, by go_num, ⟨H5, G5, HT5.out, hH5⟩, hb2.trans (HCH5.out.toBelow (B := W0.heap.size) (by omega) hH4)⟩
        case measure => simp [intOf]; omega
    · have HI := Lib.hid hbel
      clear hp hHH hH hbel
      go_wp2_with (go_at_call 14; refine (first_any _).mono ?_; rintro en w2 ⟨rfl, hb2⟩; have HB2 := Lib.hid hb2; clear hb2)
      go_ret
      exact ⟨rfl, HBOX.out.trans ((HI.out.trans (HB2.out.mono HI.out.size)).mono HBOX.out.size)⟩
end Go.Proofs.YtgocoofcelggcaaGreatDoor
