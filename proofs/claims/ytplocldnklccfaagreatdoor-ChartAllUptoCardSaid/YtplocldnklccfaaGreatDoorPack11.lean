/- daybookkeep: all lists of texts written over, appended to, looked at; daybookkeep: all lists of accounts written over, appended to, looked at. Printed by gen_katexts.py; daybookkeep: lists of which none is kept. Printed by gen_keepnil.py. -/
import Derived.Test.YtplocldnklccfaaGreatDoorPack8
import Derived.Test.YtplocldnklccfaaGreatDoorPack10
import Derived.Test.YtplocldnklccfaaGreatDoorPack5
import Derived.Test.YtplocldnklccfaaGreatDoorPack7
namespace Go.Proofs.YtplocldnklccfaaGreatDoor
open Go.RowKit
set_option linter.unusedVariables false
set_option linter.unusedSimpArgs false

def fillV (v : PageV ByteArray) : PageV ByteArray := { v with done := true }
def growV (v : PageV ByteArray) : PageV ByteArray := { v with grown := true }
theorem fill_page {w w' : World} {p : Pg ByteArray} {A : Option Addr} {c : Nat} (h : PageT w p) (hL : p.L = .slice A p.v.was.length c) (hd : p.v.done = false) (hown : w'.ownsRow 0 9 1 (.slice A p.v.was.length c) p.v.was.length (txts p.v.id p.v.was.length)) : PageT w' { p with v := fillV p.v } where
  form := ⟨A, c, hL⟩
  small := h.small
  own := fun hg => ⟨by
    show w'.ownsRow 0 9 1 p.L p.v.was.length _
    rw [hL, flatT]
    exact hown, (h.own hg).2⟩
  keep := fun hd' => by cases hd'
  gro := fun hg => by
    have := (h.keep hd).1
    exact absurd (hg.symm.trans this) (by decide)
  inR := h.inR
theorem grow_page {w w' : World} {p : Pg ByteArray} {A : Option Addr} {c g cap : Nat} (h : PageT w p) (hL : p.L = .slice A (curL textF p.v).length c) (hd : p.v.done = true)
    (hown : w'.ownsRow 0 9 1 (.slice (some ⟨g, 0, none⟩) ((curL textF p.v).length + 64) cap) ((curL textF p.v).length + 64) ((curL textF p.v).map Value.string ++ txts (p.v.id + 100000) 64)) (htx : TxtAt w' (.slice A (curL textF p.v).length c) (curL textF p.v)) :
    PageT w' { p with v := growV p.v, G := .slice (some ⟨g, 0, none⟩) ((curL textF p.v).length + 64) cap, F := fun q => p.F q ∨ q = g } where
  form := by obtain ⟨A, c, e⟩ := h.form; exact ⟨A, c, e⟩
  small := h.small
  own := fun hg => by cases hg
  keep := fun hd' => absurd (hd'.symm.trans hd) (by decide)
  gro := fun _ => ⟨hd, by
    show w'.ownsRow 0 9 1 _ (p.v.was.length + 64) (((curL textF p.v ++ marksL textF (p.v.id + 100000) 64)).map encT).flatten
    rw [flatT, List.map_append, ← curL_len textF p.v]
    exact hown, by
    show RowAt w' _ 1 p.L ((curL textF p.v).map encT)
    rw [hL]
    exact TxtAt.to_row htx fun q hq => .inl (h.inR q (.inl (by rw [hL]; exact hq)))⟩
  inR := fun q hq => by
    rcases hq with hq | hq | hq
    · exact .inl (h.inR q (.inl hq))
    · exact .inr (Option.some.inj hq).symm
    · exact .inl (h.inR q (.inr (.inr hq)))
/-- Pages turned from k on up. -/
structure Turned (w : World) (f : PageV ByteArray → PageV ByteArray) (ps qs : List (Pg ByteArray)) (k : Nat) : Prop where
  len : qs.length = ps.length
  lo : ∀ j (h : j < qs.length) (h' : j < ps.length), j < k → qs[j].v = f ps[j].v
  hi : ∀ j (h : j < qs.length) (h' : j < ps.length), k ≤ j → qs[j].v = ps[j].v
  inF : ∀ j (h : j < qs.length) (h' : j < ps.length) q, qs[j].F q → ps[j].F q ∨ w.heap.size ≤ q
theorem Turned.refl (w : World) (f : PageV ByteArray → PageV ByteArray) (ps : List (Pg ByteArray)) : Turned w f ps ps 0 := ⟨rfl, fun _ _ _ h => by omega, fun _ _ _ _ => rfl, fun _ _ _ q h => .inl h⟩
theorem Turned.stay {w : World} {f : PageV ByteArray → PageV ByteArray} {ps qs : List (Pg ByteArray)} {k : Nat} (h : Turned w f ps qs k) (hk : k < qs.length) (hf : f qs[k].v = qs[k].v) : Turned w f ps qs (k + 1) where
  len := h.len
  lo := fun j h1 h2 hlt => by
    by_cases e : j = k
    · subst e
      rw [← hf, h.hi j h1 h2 (Nat.le_refl _)]
    · exact h.lo j h1 h2 (by omega)
  hi := fun j h1 h2 hle => h.hi j h1 h2 (by omega)
  inF := h.inF
theorem Turned.set {w : World} {f : PageV ByteArray → PageV ByteArray} {ps qs : List (Pg ByteArray)} {k : Nat} (h : Turned w f ps qs k) (hk : k < qs.length) (p' : Pg ByteArray) (hf : p'.v = f qs[k].v) (hF : ∀ q, p'.F q → qs[k].F q ∨ w.heap.size ≤ q) : Turned w f ps (qs.set k p') (k + 1) where
  len := by rw [List.length_set]; exact h.len
  lo := fun j h1 h2 hlt => by
    have h1' : j < qs.length := by rw [List.length_set] at h1; exact h1
    by_cases e : j = k
    · subst e
      rw [List.getElem_set_self, hf, h.hi j h1' h2 (Nat.le_refl _)]
    · rw [List.getElem_set_ne (Ne.symm e)]
      exact h.lo j h1' h2 (by omega)
  hi := fun j h1 h2 hle => by
    have h1' : j < qs.length := by rw [List.length_set] at h1; exact h1
    rw [List.getElem_set_ne (by omega)]
    exact h.hi j h1' h2 (by omega)
  inF := fun j h1 h2 q hq => by
    have h1' : j < qs.length := by rw [List.length_set] at h1; exact h1
    by_cases e : j = k
    · subst e
      rw [List.getElem_set_self] at hq
      rcases hF q hq with h3 | h3
      · exact h.inF j h1' h2 q h3
      · exact .inr h3
    · rw [List.getElem_set_ne (Ne.symm e)] at hq
      exact h.inF j h1' h2 q hq
/-- The books while their lists are turned one by one. -/
structure KeepInv (w : World) (kb : Nat) (bc : Array Value) (Tv : Value) (f : PageV ByteArray → PageV ByteArray) (ps : List (Pg ByteArray)) (wr : World) (k : Nat) (qs : List (Pg ByteArray)) : Prop where
  le : k ≤ ps.length
  book : BookT wr kb bc Tv qs
  tur : Turned w f ps qs k
  ch : Ch (BookF Tv ps) w wr
theorem KeepInv.stay {w wr : World} {kb : Nat} {bc : Array Value} {Tv : Value} {f : PageV ByteArray → PageV ByteArray} {ps qs : List (Pg ByteArray)} {k : Nat} (h : KeepInv w kb bc Tv f ps wr k qs) (hk : k < ps.length) (hk' : k < qs.length) (hf : f qs[k].v = qs[k].v) : KeepInv w kb bc Tv f ps wr (k + 1) qs :=
  ⟨hk, h.book, h.tur.stay hk' hf, h.ch⟩
theorem KeepInv.turn {w wr w' : World} {kb : Nat} {bc : Array Value} {Tv : Value} {f : PageV ByteArray → PageV ByteArray} {ps qs : List (Pg ByteArray)} {k : Nat} {D : Nat → Prop} {tb cap : Nat} {cs : Array Value} (h : KeepInv w kb bc Tv f ps wr k qs) (hk : k < ps.length) (hk' : k < qs.length) (hT : Tv = .slice (some ⟨tb, 0, none⟩) qs.length cap)
    (hcs : wr.heap[tb]? = some (.cells cs 68 (0, 0))) (i : Nat) (hi : i < 5) (u : Value) (hcs' : w'.heap[tb]? = some (.cells (cs.setIfInBounds (k * 5 + i) u) 68 (0, 0))) (hc : Ch (fun q => q = tb ∨ D q) wr w') (hD : ∀ q, D q → qs[k].F q) (p' : Pg ByteArray)
    (hp' : p'.cells = qs[k].cells.set i u) (hpg : PageT w' p') (hF : ∀ q, p'.F q → (qs[k].F q ∨ wr.heap.size ≤ q) ∧ q < w'.heap.size) (hid : p'.v.id = qs[k].v.id) (hf : p'.v = f qs[k].v) : KeepInv w kb bc Tv f ps w' (k + 1) (qs.set k p') := by
  have hs := h.ch.size
  refine ⟨hk, h.book.turn k hk' hT hcs i hi u hcs' hc hD p' hp' hpg hF hid, h.tur.set hk' p' hf (fun q hq => ?_), h.ch.trans hc ?_⟩
  · rcases (hF q hq).1 with h1 | h1
    · exact .inl h1
    · exact .inr (by omega)
  · rintro q (rfl | hd)
    · exact .inl (.inl (by rw [hT]; rfl))
    · rcases h.tur.inF k hk' hk q (hD q hd) with h1 | h1
      · exact .inl (.inr ⟨k, hk, h1⟩)
      · exact .inr h1

theorem meas_k (n k : Nat) (h : k < n) : n - ((k : Int) + 1).toNat < n - k := by omega
theorem cells_at {w : World} {tb : Nat} {cs : Array Value} {t : TypeId} {p : Pg ByteArray} {k : Nat} (hcs : w.heap[tb]? = some (.cells cs t (0, 0))) (hx : ∀ i u, p.cells[i]? = some u → cs[k * 5 + i]? = some u) :
    w.cell? ⟨tb, k * 5, none⟩ = some p.L ∧ w.cell? ⟨tb, k * 5 + 1, none⟩ = some p.G ∧ w.cell? ⟨tb, k * 5 + 2, none⟩ = some p.W ∧ w.cell? ⟨tb, k * 5 + 3, none⟩ = some (.int .i64 p.v.id) ∧ w.cell? ⟨tb, k * 5 + 4, none⟩ = some (.bool p.v.done) :=
  ⟨(cell_of_blk hcs).trans (hx 0 _ rfl), (cell_of_blk hcs).trans (hx 1 _ rfl), (cell_of_blk hcs).trans (hx 2 _ rfl), (cell_of_blk hcs).trans (hx 3 _ rfl), (cell_of_blk hcs).trans (hx 4 _ rfl)⟩

set_option maxRecDepth 100000 in
theorem fillTexts_any {w : World} {kb : Nat} {bc : Array Value} {Tv : Value} {ps : List (Pg ByteArray)} (h : BookT w kb bc Tv ps) :
    Calls Tryz.prog 36 #[.pointer (some ⟨kb, 0, none⟩)] w fun e w' => e = .returned (.tuple #[]) ∧ ∃ qs, KeepInv w kb bc Tv fillV ps w' ps.length qs := by
  have HI := Lib.hid (show KeepInv w kb bc Tv fillV ps w 0 ps from ⟨Nat.zero_le _, h, Turned.refl _ _ _, Ch.refl _ _⟩)
  clear h
  go_enter Tryz.func36, Tryz.ntmps36
  go_wp2
  go_loopw [2] (fun i wr => ∃ k : Nat, i = .int .i64 (k : Int) ∧ ∃ qs, KeepInv w kb bc Tv fillV ps wr k qs) (fun i _ => ps.length - (intOf i).toNat)
  case atStart => exact ⟨0, rfl, ps, HI.out⟩
  case round =>
    obtain ⟨k, rfl, qs, hinv⟩ := hrel
    have HINV := Lib.hid hinv
    have hle := hinv.le
    have hlen := hinv.tur.len
    have hsm := hinv.book.len
    have hb0 := hinv.book.blk
    have b4 : wr.cell? ⟨kb, 4, none⟩ = some Tv := by rw [cell_of_blk hb0]; exact hinv.book.c4
    clear hinv
    by_cases hlt : k < ps.length
    · have hk' : k < qs.length := by omega
      obtain ⟨tb, cap, cs, hTv, hcs, hx⟩ := HINV.out.book.pages.at_ k hk'
      obtain ⟨c0, c1, c2, c3, c4⟩ := cells_at hcs hx
      have HX := Lib.hid hx
      have HT := Lib.hid hTv
      have hmu := meas_k ps.length k hlt
      have hwk := wrap_up k (by omega)
      rw [hTv, hlen] at b4
      clear hx
      cases hd : qs[k].v.done with
      | true =>
        rw [hd] at c4
        have HF := Lib.hid (show fillV qs[k].v = qs[k].v from by unfold fillV; rw [← hd])
        go_wp2
        go_roundw
        case rel => exact ⟨k + 1, by go_num, qs, HINV.out.stay hlt hk' HF.out⟩
        case measure => simpa [intOf] using hmu
      | false =>
        rw [hd] at c4
        have hpg := HINV.out.book.pages.page k hk'
        obtain ⟨A, c, hL⟩ := hpg.form
        have hg := (hpg.keep hd).1
        have hown := (hpg.own hg).1
        rw [flatT, hL] at hown
        have hcl := curL_len textF qs[k].v
        have hids := HINV.out.book.ids k hk'
        have htop := HINV.out.book.pages.top k hk'
        have hout := HINV.out.book.out k hk'
        have htout := HINV.out.book.tout tb (by rw [HT.out]; rfl)
        have hfill := fill_any (w := wr) (pb := tb) (po := k * 5) (A := A) (n := qs[k].v.was.length) (c := c) (id := qs[k].v.id) (d := false) (xs := (curL textF qs[k].v).map Value.string) hcs (by rw [← hL]; exact HX.out 0 _ rfl) (HX.out 3 _ rfl) (by rw [← hd]; exact HX.out 4 _ rfl) hown
          (fun q hq e => htop q (hpg.inR q (.inl (by rw [hL]; exact hq))) (by rw [HT.out, e]; rfl)) hpg.small hids
          (fun W hW => HINV.out.book.pow.ch hW fun q hq => (hout q (hpg.inR q (.inl (by rw [hL]; exact hq)))).2)
        have HL := Lib.hid hL
        have HCS := Lib.hid hcs
        clear hown hcl hids htop hout htout hg hL c0 c1 c2 c3 hpg hcs
        go_wp2_with (go_at_call 30; refine hfill.mono ?_; rintro en w1 ⟨rfl, h1, h2, h3⟩; have HNEW := Lib.hid (And.intro h1 (And.intro h2 h3)); clear h1 h2 h3 hfill)
        go_roundw
        case rel =>
          refine ⟨k + 1, by go_num, qs.set k { qs[k] with v := fillV qs[k].v }, ?_⟩
          have hpg := HINV.out.book.pages.page k hk'
          refine HINV.out.turn (D := fun q => (Value.slice A qs[k].v.was.length c).ownBlock = some q) hlt hk' HT.out HCS.out 4 (by decide) (.bool true) HNEW.out.1 HNEW.out.2.2 (fun q hq => hpg.inR q (.inl (by rw [HL.out]; exact hq))) _ rfl (fill_page hpg HL.out hd HNEW.out.2.1) (fun q hq => ⟨.inl hq, ?_⟩) rfl rfl
          exact Nat.lt_of_lt_of_le (HINV.out.book.pages.lt k hk' q hq) HNEW.out.2.2.size
        case measure => simpa [intOf] using hmu
    · obtain rfl : k = ps.length := by omega
      obtain ⟨A, c, hTv⟩ := own_form HINV.out.book.pages.own
      rw [hTv, hlen] at b4
      go_wp2
      go_end0
      exact ⟨rfl, qs, HINV.out⟩
set_option maxRecDepth 100000 in
theorem growTexts_any {w : World} {kb : Nat} {bc : Array Value} {Tv : Value} {ps : List (Pg ByteArray)} (h : BookT w kb bc Tv ps) (hdone : ∀ j (hj : j < ps.length), ps[j].v.done = true) :
    Calls Tryz.prog 56 #[.pointer (some ⟨kb, 0, none⟩)] w fun e w' => e = .returned (.tuple #[]) ∧ ∃ qs, KeepInv w kb bc Tv growV ps w' ps.length qs := by
  have HI := Lib.hid (show KeepInv w kb bc Tv growV ps w 0 ps from ⟨Nat.zero_le _, h, Turned.refl _ _ _, Ch.refl _ _⟩)
  have HD := Lib.hid hdone
  clear h hdone
  go_enter Tryz.func56, Tryz.ntmps56
  go_wp2
  go_loopw [2] (fun i wr => ∃ k : Nat, i = .int .i64 (k : Int) ∧ ∃ qs, KeepInv w kb bc Tv growV ps wr k qs) (fun i _ => ps.length - (intOf i).toNat)
  case atStart => exact ⟨0, rfl, ps, HI.out⟩
  case round =>
    obtain ⟨k, rfl, qs, hinv⟩ := hrel
    have HINV := Lib.hid hinv
    have hle := hinv.le
    have hlen := hinv.tur.len
    have hsm := hinv.book.len
    have hb0 := hinv.book.blk
    have b4 : wr.cell? ⟨kb, 4, none⟩ = some Tv := by rw [cell_of_blk hb0]; exact hinv.book.c4
    clear hinv
    by_cases hlt : k < ps.length
    · have hk' : k < qs.length := by omega
      have hd : qs[k].v.done = true := by rw [HINV.out.tur.hi k hk' hlt (Nat.le_refl _)]; exact HD.out k hlt
      have HDK := Lib.hid hd
      obtain ⟨tb, cap, cs, hTv, hcs, hx⟩ := HINV.out.book.pages.at_ k hk'
      obtain ⟨c0, c1, c2, c3, c4⟩ := cells_at hcs hx
      have HX := Lib.hid hx
      have HT := Lib.hid hTv
      have hmu := meas_k ps.length k hlt
      have hwk := wrap_up k (by omega)
      rw [hTv, hlen] at b4
      clear hx hd
      have hpg := HINV.out.book.pages.page k hk'
      cases hg : qs[k].v.grown with
      | true =>
        have hgo := (hpg.gro hg).2.1
        rw [flatT] at hgo
        obtain ⟨B, d, hGv⟩ := own_form hgo
        have hsml := hpg.small
        rw [hGv] at c1
        have HF := Lib.hid (show growV qs[k].v = qs[k].v from by unfold growV; rw [← hg])
        have hn0 : ¬ ((qs[k].v.was.length : Int) + 64 = 0) := by omega
        have hn1 : ((qs[k].v.was.length : Int) + 64 == 0) = false := by rw [beq_eq_false_iff_ne]; omega
        clear hgo hGv c0 c2 c3 c4 hpg hsml
        go_wp2
        go_roundw
        case rel => exact ⟨k + 1, by go_num, qs, HINV.out.stay hlt hk' HF.out⟩
        case measure => simpa [intOf] using hmu
      | false =>
        have hGn := (hpg.own hg).2
        rw [hGn] at c1
        obtain ⟨A, c, hL⟩ := hpg.form
        have hcl := curL_len textF qs[k].v
        rw [← hcl] at hL
        have hown := (hpg.own hg).1
        rw [flatT, hL, ← hcl] at hown
        have hids := HINV.out.book.ids k hk'
        have htop := HINV.out.book.pages.top k hk'
        have hout := HINV.out.book.out k hk'
        have htout := HINV.out.book.tout tb (by rw [HT.out]; rfl)
        have hsml := hpg.small
        have hgrow := grow_any (w := wr) (pb := tb) (po := k * 5) (A := A) (c := c) (id := qs[k].v.id) (l := curL textF qs[k].v) hcs (by rw [← hL]; exact HX.out 0 _ rfl) (HX.out 1 _ rfl) (HX.out 3 _ rfl) hown
          (fun q hq e => htop q (hpg.inR q (.inl (by rw [hL]; exact hq))) (by rw [HT.out, e]; rfl)) (by omega) hids
          (fun W hW => HINV.out.book.pow.ch hW fun q hq => by
            rcases hq with rfl | hq
            · exact htout.2
            · exact (hout q (hpg.inR q (.inl (by rw [hL]; exact hq)))).2)
        have HL := Lib.hid hL
        have HCS := Lib.hid hcs
        clear hown hcl hids htop hout htout hL c0 c2 c3 c4 hpg hcs hsml hGn
        go_wp2_with (go_at_call 31; refine hgrow.mono ?_; rintro en w1 ⟨rfl, g, gc, h1, h2, h3, h4, h5⟩; have HNEW := Lib.hid (And.intro h1 (And.intro h2 (And.intro h3 (And.intro h4 h5)))); clear h1 h2 h3 h4 h5 hgrow)
        go_roundw
        case rel =>
          refine ⟨k + 1, by go_num, qs.set k { qs[k] with v := growV qs[k].v, G := .slice (some ⟨g, 0, none⟩) ((curL textF qs[k].v).length + 64) gc, F := fun q => qs[k].F q ∨ q = g }, ?_⟩
          have hpg := HINV.out.book.pages.page k hk'
          have hgl := (HNEW.out.2.1.lt g rfl).2
          refine HINV.out.turn (D := fun q => (Value.slice A (curL textF qs[k].v).length c).ownBlock = some q) hlt hk' HT.out HCS.out 1 (by decide) _ HNEW.out.1 HNEW.out.2.2.2.2 (fun q hq => hpg.inR q (.inl (by rw [HL.out]; exact hq))) _ rfl (grow_page hpg HL.out HDK.out HNEW.out.2.1 HNEW.out.2.2.2.1) (fun q hq => ?_) rfl rfl
          rcases hq with hq | rfl
          · exact ⟨.inl hq, Nat.lt_of_lt_of_le (HINV.out.book.pages.lt k hk' q hq) HNEW.out.2.2.2.2.size⟩
          · refine ⟨?_, hgl⟩
            rcases HNEW.out.2.2.1 with h1 | h1
            · exact .inl (hpg.inR _ (.inl (by rw [HL.out]; exact h1)))
            · exact .inr h1
        case measure => simpa [intOf] using hmu
    · obtain rfl : k = ps.length := by omega
      obtain ⟨A, c, hTv⟩ := own_form HINV.out.book.pages.own
      rw [hTv, hlen] at b4
      go_wp2
      go_end0
      exact ⟨rfl, qs, HINV.out⟩

set_option maxRecDepth 100000 in
theorem intactTexts_any {w : World} {kb : Nat} {bc : Array Value} {Tv : Value} {ps : List (Pg ByteArray)} (h : BookT w kb bc Tv ps) :
    Calls Tryz.prog 91 #[.pointer (some ⟨kb, 0, none⟩)] w fun e w' => e = .returned (.bool true) ∧ Below w.heap.size w w' := by
  have HB := Lib.hid h
  clear h
  go_enter Tryz.func91, Tryz.ntmps91
  go_wp2
  go_loopw [3] (fun i wr => ∃ k : Nat, i = .int .i64 (k : Int) ∧ k ≤ ps.length ∧ Below w.heap.size w wr) (fun i _ => ps.length - (intOf i).toNat)
  case atStart => exact ⟨0, rfl, Nat.zero_le _, Below.refl _ _⟩
  case round =>
    obtain ⟨k, rfl, hle, hbr⟩ := hrel
    have HINV := Lib.hid (HB.out.below hbr)
    have hsm := HINV.out.len
    have hb0 := HINV.out.blk
    have b4 : wr.cell? ⟨kb, 4, none⟩ = some Tv := by rw [cell_of_blk hb0]; exact HINV.out.c4
    by_cases hlt : k < ps.length
    · obtain ⟨tb, cap, cs, hTv, hcs, hx⟩ := HINV.out.pages.at_ k hlt
      obtain ⟨c0, c1, c2, c3, c4⟩ := cells_at hcs hx
      have hmu := meas_k ps.length k hlt
      have hwk := wrap_up k (by omega)
      rw [hTv] at b4
      have hsh := shows_any (HINV.out.pages.page k hlt) (HINV.out.ids k hlt) HINV.out.pow
      clear hx hcs hTv
      go_wp2_with (go_at_call 173; refine hsh.mono ?_; rintro en w1 ⟨rfl, hb1⟩; clear hsh)
      go_roundw
      case rel => exact ⟨k + 1, by go_num, hlt, hbr.trans (hb1.mono hbr.size)⟩
      case measure => simpa [intOf] using hmu
    · obtain rfl : k = ps.length := by omega
      obtain ⟨A, c, hTv⟩ := own_form HINV.out.pages.own
      rw [hTv] at b4
      go_wp2
      go_ret
      exact ⟨rfl, hbr⟩
end Go.Proofs.YtplocldnklccfaaGreatDoor
namespace Go.Proofs.YtplocldnklccfaaGreatDoor
open Go.RowKit
set_option linter.unusedVariables false
set_option linter.unusedSimpArgs false

def fillVA (v : PageV Acct) : PageV Acct := { v with done := true }
def growVA (v : PageV Acct) : PageV Acct := { v with grown := true }
theorem fill_pageA {w w' : World} {p : Pg Acct} {A : Option Addr} {c : Nat} (h : PageA w p) (hL : p.L = .slice A p.v.was.length c) (hd : p.v.done = false) (hown : w'.ownsRow 0 159 4 (.slice A p.v.was.length c) p.v.was.length (accsM p.v.id p.v.was.length).flatten) : PageA w' { p with v := fillVA p.v } where
  form := ⟨A, c, hL⟩
  small := h.small
  own := fun hg => ⟨by
    show w'.ownsRow 0 159 4 p.L p.v.was.length _
    rw [hL]
    exact hown, (h.own hg).2⟩
  keep := fun hd' => by cases hd'
  gro := fun hg => by
    have := (h.keep hd).1
    exact absurd (hg.symm.trans this) (by decide)
  inR := h.inR
theorem grow_pageA {w w' : World} {p : Pg Acct} {A : Option Addr} {c g cap : Nat} (h : PageA w p) (hL : p.L = .slice A (curL markA p.v).length c) (hd : p.v.done = true)
    (hown : w'.ownsRow 0 159 4 (.slice (some ⟨g, 0, none⟩) ((curL markA p.v).length + 64) cap) ((curL markA p.v).length + 64) (((curL markA p.v).map encA).flatten ++ (accsM (p.v.id + 100000) 64).flatten)) (htx : RowAt w' (fun q => (Value.slice A (curL markA p.v).length c).ownBlock = some q) 4 (.slice A (curL markA p.v).length c) ((curL markA p.v).map encA)) :
    PageA w' { p with v := growVA p.v, G := .slice (some ⟨g, 0, none⟩) ((curL markA p.v).length + 64) cap, F := fun q => p.F q ∨ q = g } where
  form := by obtain ⟨A, c, e⟩ := h.form; exact ⟨A, c, e⟩
  small := h.small
  own := fun hg => by cases hg
  keep := fun hd' => absurd (hd'.symm.trans hd) (by decide)
  gro := fun _ => ⟨hd, by
    show w'.ownsRow 0 159 4 _ (p.v.was.length + 64) (((curL markA p.v ++ marksL markA (p.v.id + 100000) 64)).map encA).flatten
    rw [List.map_append, List.flatten_append, ← curL_len markA p.v]
    exact hown, by
    show RowAt w' _ 4 p.L ((curL markA p.v).map encA)
    rw [hL]
    exact htx.mono fun q hq => .inl (h.inR q (.inl (by rw [hL]; exact hq)))⟩
  inR := fun q hq => by
    rcases hq with hq | hq | hq
    · exact .inl (h.inR q (.inl hq))
    · exact .inr (Option.some.inj hq).symm
    · exact .inl (h.inR q (.inr (.inr hq)))
/-- Pages turned from k on up. -/
structure TurnedA (w : World) (f : PageV Acct → PageV Acct) (ps qs : List (Pg Acct)) (k : Nat) : Prop where
  len : qs.length = ps.length
  lo : ∀ j (h : j < qs.length) (h' : j < ps.length), j < k → qs[j].v = f ps[j].v
  hi : ∀ j (h : j < qs.length) (h' : j < ps.length), k ≤ j → qs[j].v = ps[j].v
  inF : ∀ j (h : j < qs.length) (h' : j < ps.length) q, qs[j].F q → ps[j].F q ∨ w.heap.size ≤ q
theorem TurnedA.refl (w : World) (f : PageV Acct → PageV Acct) (ps : List (Pg Acct)) : TurnedA w f ps ps 0 := ⟨rfl, fun _ _ _ h => by omega, fun _ _ _ _ => rfl, fun _ _ _ q h => .inl h⟩
theorem TurnedA.stay {w : World} {f : PageV Acct → PageV Acct} {ps qs : List (Pg Acct)} {k : Nat} (h : TurnedA w f ps qs k) (hk : k < qs.length) (hf : f qs[k].v = qs[k].v) : TurnedA w f ps qs (k + 1) where
  len := h.len
  lo := fun j h1 h2 hlt => by
    by_cases e : j = k
    · subst e
      rw [← hf, h.hi j h1 h2 (Nat.le_refl _)]
    · exact h.lo j h1 h2 (by omega)
  hi := fun j h1 h2 hle => h.hi j h1 h2 (by omega)
  inF := h.inF
theorem TurnedA.set {w : World} {f : PageV Acct → PageV Acct} {ps qs : List (Pg Acct)} {k : Nat} (h : TurnedA w f ps qs k) (hk : k < qs.length) (p' : Pg Acct) (hf : p'.v = f qs[k].v) (hF : ∀ q, p'.F q → qs[k].F q ∨ w.heap.size ≤ q) : TurnedA w f ps (qs.set k p') (k + 1) where
  len := by rw [List.length_set]; exact h.len
  lo := fun j h1 h2 hlt => by
    have h1' : j < qs.length := by rw [List.length_set] at h1; exact h1
    by_cases e : j = k
    · subst e
      rw [List.getElem_set_self, hf, h.hi j h1' h2 (Nat.le_refl _)]
    · rw [List.getElem_set_ne (Ne.symm e)]
      exact h.lo j h1' h2 (by omega)
  hi := fun j h1 h2 hle => by
    have h1' : j < qs.length := by rw [List.length_set] at h1; exact h1
    rw [List.getElem_set_ne (by omega)]
    exact h.hi j h1' h2 (by omega)
  inF := fun j h1 h2 q hq => by
    have h1' : j < qs.length := by rw [List.length_set] at h1; exact h1
    by_cases e : j = k
    · subst e
      rw [List.getElem_set_self] at hq
      rcases hF q hq with h3 | h3
      · exact h.inF j h1' h2 q h3
      · exact .inr h3
    · rw [List.getElem_set_ne (Ne.symm e)] at hq
      exact h.inF j h1' h2 q hq
/-- The books while their lists are turned one by one. -/
structure KeepInvA (w : World) (kb : Nat) (bc : Array Value) (Tv : Value) (f : PageV Acct → PageV Acct) (ps : List (Pg Acct)) (wr : World) (k : Nat) (qs : List (Pg Acct)) : Prop where
  le : k ≤ ps.length
  book : BookA wr kb bc Tv qs
  tur : TurnedA w f ps qs k
  ch : Ch (BookFA Tv ps) w wr
theorem KeepInvA.stay {w wr : World} {kb : Nat} {bc : Array Value} {Tv : Value} {f : PageV Acct → PageV Acct} {ps qs : List (Pg Acct)} {k : Nat} (h : KeepInvA w kb bc Tv f ps wr k qs) (hk : k < ps.length) (hk' : k < qs.length) (hf : f qs[k].v = qs[k].v) : KeepInvA w kb bc Tv f ps wr (k + 1) qs :=
  ⟨hk, h.book, h.tur.stay hk' hf, h.ch⟩
theorem KeepInvA.turn {w wr w' : World} {kb : Nat} {bc : Array Value} {Tv : Value} {f : PageV Acct → PageV Acct} {ps qs : List (Pg Acct)} {k : Nat} {D : Nat → Prop} {tb cap : Nat} {cs : Array Value} (h : KeepInvA w kb bc Tv f ps wr k qs) (hk : k < ps.length) (hk' : k < qs.length) (hT : Tv = .slice (some ⟨tb, 0, none⟩) qs.length cap)
    (hcs : wr.heap[tb]? = some (.cells cs 108 (0, 0))) (i : Nat) (hi : i < 5) (u : Value) (hcs' : w'.heap[tb]? = some (.cells (cs.setIfInBounds (k * 5 + i) u) 108 (0, 0))) (hc : Ch (fun q => q = tb ∨ D q) wr w') (hD : ∀ q, D q → qs[k].F q) (p' : Pg Acct)
    (hp' : p'.cells = qs[k].cells.set i u) (hpg : PageA w' p') (hF : ∀ q, p'.F q → (qs[k].F q ∨ wr.heap.size ≤ q) ∧ q < w'.heap.size) (hid : p'.v.id = qs[k].v.id) (hf : p'.v = f qs[k].v) : KeepInvA w kb bc Tv f ps w' (k + 1) (qs.set k p') := by
  have hs := h.ch.size
  refine ⟨hk, h.book.turn k hk' hT hcs i hi u hcs' hc hD p' hp' hpg hF hid, h.tur.set hk' p' hf (fun q hq => ?_), h.ch.trans hc ?_⟩
  · rcases (hF q hq).1 with h1 | h1
    · exact .inl h1
    · exact .inr (by omega)
  · rintro q (rfl | hd)
    · exact .inl (.inl (by rw [hT]; rfl))
    · rcases h.tur.inF k hk' hk q (hD q hd) with h1 | h1
      · exact .inl (.inr ⟨k, hk, h1⟩)
      · exact .inr h1

theorem cells_atA {w : World} {tb : Nat} {cs : Array Value} {t : TypeId} {p : Pg Acct} {k : Nat} (hcs : w.heap[tb]? = some (.cells cs t (0, 0))) (hx : ∀ i u, p.cells[i]? = some u → cs[k * 5 + i]? = some u) :
    w.cell? ⟨tb, k * 5, none⟩ = some p.L ∧ w.cell? ⟨tb, k * 5 + 1, none⟩ = some p.G ∧ w.cell? ⟨tb, k * 5 + 2, none⟩ = some p.W ∧ w.cell? ⟨tb, k * 5 + 3, none⟩ = some (.int .i64 p.v.id) ∧ w.cell? ⟨tb, k * 5 + 4, none⟩ = some (.bool p.v.done) :=
  ⟨(cell_of_blk hcs).trans (hx 0 _ rfl), (cell_of_blk hcs).trans (hx 1 _ rfl), (cell_of_blk hcs).trans (hx 2 _ rfl), (cell_of_blk hcs).trans (hx 3 _ rfl), (cell_of_blk hcs).trans (hx 4 _ rfl)⟩

set_option maxRecDepth 100000 in
theorem fillAccounts_any {w : World} {kb : Nat} {bc : Array Value} {Tv : Value} {ps : List (Pg Acct)} (h : BookA w kb bc Tv ps) :
    Calls Tryz.prog 40 #[.pointer (some ⟨kb, 0, none⟩)] w fun e w' => e = .returned (.tuple #[]) ∧ ∃ qs, KeepInvA w kb bc Tv fillVA ps w' ps.length qs := by
  have HI := Lib.hid (show KeepInvA w kb bc Tv fillVA ps w 0 ps from ⟨Nat.zero_le _, h, TurnedA.refl _ _ _, Ch.refl _ _⟩)
  clear h
  go_enter Tryz.func40, Tryz.ntmps40
  go_wp2
  go_loopw [2] (fun i wr => ∃ k : Nat, i = .int .i64 (k : Int) ∧ ∃ qs, KeepInvA w kb bc Tv fillVA ps wr k qs) (fun i _ => ps.length - (intOf i).toNat)
  case atStart => exact ⟨0, rfl, ps, HI.out⟩
  case round =>
    obtain ⟨k, rfl, qs, hinv⟩ := hrel
    have HINV := Lib.hid hinv
    have hle := hinv.le
    have hlen := hinv.tur.len
    have hsm := hinv.book.len
    have hb0 := hinv.book.blk
    have b8 : wr.cell? ⟨kb, 8, none⟩ = some Tv := by rw [cell_of_blk hb0]; exact hinv.book.c8
    clear hinv
    by_cases hlt : k < ps.length
    · have hk' : k < qs.length := by omega
      obtain ⟨tb, cap, cs, hTv, hcs, hx⟩ := HINV.out.book.pages.at_ k hk'
      obtain ⟨c0, c1, c2, c3, c4⟩ := cells_atA hcs hx
      have HX := Lib.hid hx
      have HT := Lib.hid hTv
      have hmu := meas_k ps.length k hlt
      have hwk := wrap_up k (by omega)
      rw [hTv, hlen] at b8
      clear hx
      cases hd : qs[k].v.done with
      | true =>
        rw [hd] at c4
        have HF := Lib.hid (show fillVA qs[k].v = qs[k].v from by unfold fillVA; rw [← hd])
        go_wp2
        go_roundw
        case rel => exact ⟨k + 1, by go_num, qs, HINV.out.stay hlt hk' HF.out⟩
        case measure => simpa [intOf] using hmu
      | false =>
        rw [hd] at c4
        have hpg := HINV.out.book.pages.page k hk'
        obtain ⟨A, c, hL⟩ := hpg.form
        have hg := (hpg.keep hd).1
        have hown := (hpg.own hg).1
        rw [hL] at hown
        have hcl := curL_len markA qs[k].v
        have hids := HINV.out.book.ids k hk'
        have htop := HINV.out.book.pages.top k hk'
        have hout := HINV.out.book.out k hk'
        have htout := HINV.out.book.tout tb (by rw [HT.out]; rfl)
        have hfill := fillA_any (w := wr) (pb := tb) (po := k * 5) (A := A) (n := qs[k].v.was.length) (c := c) (id := qs[k].v.id) (d := false) (xs := (curL markA qs[k].v).map encA) hcs (by rw [← hL]; exact HX.out 0 _ rfl) (HX.out 3 _ rfl) (by rw [← hd]; exact HX.out 4 _ rfl) (by rw [List.length_map]; exact hcl) (encs_4 _) hown
          (fun q hq e => htop q (hpg.inR q (.inl (by rw [hL]; exact hq))) (by rw [HT.out, e]; rfl)) hpg.small hids
          (fun W hW => HINV.out.book.pow.ch hW fun q hq => (hout q (hpg.inR q (.inl (by rw [hL]; exact hq)))).2)
        have HL := Lib.hid hL
        have HCS := Lib.hid hcs
        clear hown hcl hids htop hout htout hg hL c0 c1 c2 c3 hpg hcs
        go_wp2_with (go_at_call 114; refine hfill.mono ?_; rintro en w1 ⟨rfl, h1, h2, h3⟩; have HNEW := Lib.hid (And.intro h1 (And.intro h2 h3)); clear h1 h2 h3 hfill)
        go_roundw
        case rel =>
          refine ⟨k + 1, by go_num, qs.set k { qs[k] with v := fillVA qs[k].v }, ?_⟩
          have hpg := HINV.out.book.pages.page k hk'
          refine HINV.out.turn (D := fun q => (Value.slice A qs[k].v.was.length c).ownBlock = some q) hlt hk' HT.out HCS.out 4 (by decide) (.bool true) HNEW.out.1 HNEW.out.2.2 (fun q hq => hpg.inR q (.inl (by rw [HL.out]; exact hq))) _ rfl (fill_pageA hpg HL.out hd HNEW.out.2.1) (fun q hq => ⟨.inl hq, ?_⟩) rfl rfl
          exact Nat.lt_of_lt_of_le (HINV.out.book.pages.lt k hk' q hq) HNEW.out.2.2.size
        case measure => simpa [intOf] using hmu
    · obtain rfl : k = ps.length := by omega
      obtain ⟨A, c, hTv⟩ := own_form HINV.out.book.pages.own
      rw [hTv, hlen] at b8
      go_wp2
      go_end0
      exact ⟨rfl, qs, HINV.out⟩
set_option maxRecDepth 100000 in
theorem growAccounts_any {w : World} {kb : Nat} {bc : Array Value} {Tv : Value} {ps : List (Pg Acct)} (h : BookA w kb bc Tv ps) (hdone : ∀ j (hj : j < ps.length), ps[j].v.done = true) :
    Calls Tryz.prog 60 #[.pointer (some ⟨kb, 0, none⟩)] w fun e w' => e = .returned (.tuple #[]) ∧ ∃ qs, KeepInvA w kb bc Tv growVA ps w' ps.length qs := by
  have HI := Lib.hid (show KeepInvA w kb bc Tv growVA ps w 0 ps from ⟨Nat.zero_le _, h, TurnedA.refl _ _ _, Ch.refl _ _⟩)
  have HD := Lib.hid hdone
  clear h hdone
  go_enter Tryz.func60, Tryz.ntmps60
  go_wp2
  go_loopw [2] (fun i wr => ∃ k : Nat, i = .int .i64 (k : Int) ∧ ∃ qs, KeepInvA w kb bc Tv growVA ps wr k qs) (fun i _ => ps.length - (intOf i).toNat)
  case atStart => exact ⟨0, rfl, ps, HI.out⟩
  case round =>
    obtain ⟨k, rfl, qs, hinv⟩ := hrel
    have HINV := Lib.hid hinv
    have hle := hinv.le
    have hlen := hinv.tur.len
    have hsm := hinv.book.len
    have hb0 := hinv.book.blk
    have b8 : wr.cell? ⟨kb, 8, none⟩ = some Tv := by rw [cell_of_blk hb0]; exact hinv.book.c8
    clear hinv
    by_cases hlt : k < ps.length
    · have hk' : k < qs.length := by omega
      have hd : qs[k].v.done = true := by rw [HINV.out.tur.hi k hk' hlt (Nat.le_refl _)]; exact HD.out k hlt
      have HDK := Lib.hid hd
      obtain ⟨tb, cap, cs, hTv, hcs, hx⟩ := HINV.out.book.pages.at_ k hk'
      obtain ⟨c0, c1, c2, c3, c4⟩ := cells_atA hcs hx
      have HX := Lib.hid hx
      have HT := Lib.hid hTv
      have hmu := meas_k ps.length k hlt
      have hwk := wrap_up k (by omega)
      rw [hTv, hlen] at b8
      clear hx hd
      have hpg := HINV.out.book.pages.page k hk'
      cases hg : qs[k].v.grown with
      | true =>
        have hgo := (hpg.gro hg).2.1
        obtain ⟨B, d, hGv⟩ := own_form hgo
        have hsml := hpg.small
        rw [hGv] at c1
        have HF := Lib.hid (show growVA qs[k].v = qs[k].v from by unfold growVA; rw [← hg])
        have hn0 : ¬ ((qs[k].v.was.length : Int) + 64 = 0) := by omega
        have hn1 : ((qs[k].v.was.length : Int) + 64 == 0) = false := by rw [beq_eq_false_iff_ne]; omega
        clear hgo hGv c0 c2 c3 c4 hpg hsml
        go_wp2
        go_roundw
        case rel => exact ⟨k + 1, by go_num, qs, HINV.out.stay hlt hk' HF.out⟩
        case measure => simpa [intOf] using hmu
      | false =>
        have hGn := (hpg.own hg).2
        rw [hGn] at c1
        obtain ⟨A, c, hL⟩ := hpg.form
        have hcl := curL_len markA qs[k].v
        rw [← hcl] at hL
        have hown := (hpg.own hg).1
        rw [hL, ← hcl] at hown
        have hids := HINV.out.book.ids k hk'
        have htop := HINV.out.book.pages.top k hk'
        have hout := HINV.out.book.out k hk'
        have htout := HINV.out.book.tout tb (by rw [HT.out]; rfl)
        have hsml := hpg.small
        have hgrow := growA_any (w := wr) (pb := tb) (po := k * 5) (A := A) (c := c) (id := qs[k].v.id) (xs := (curL markA qs[k].v).map encA) (encs_4 _) hcs (by rw [List.length_map, ← hL]; exact HX.out 0 _ rfl) (HX.out 1 _ rfl) (HX.out 3 _ rfl) (by rw [List.length_map]; exact hown)
          (fun q hq e => htop q (hpg.inR q (.inl (by rw [hL]; rw [List.length_map] at hq; exact hq))) (by rw [HT.out, e]; rfl)) (by rw [List.length_map]; omega) hids
          (fun W hW => HINV.out.book.pow.ch hW fun q hq => by
            rcases hq with rfl | hq
            · exact htout.2
            · rw [List.length_map] at hq; exact (hout q (hpg.inR q (.inl (by rw [hL]; exact hq)))).2)
        have HL := Lib.hid hL
        have HCS := Lib.hid hcs
        clear hown hcl hids htop hout htout hL c0 c2 c3 c4 hpg hcs hsml hGn
        go_wp2_with (go_at_call 133; refine hgrow.mono ?_; rintro en w1 ⟨rfl, g, gc, h1, h2, h3, h4, h5⟩; simp only [List.length_map] at h1 h2 h3 h4 h5; have HNEW := Lib.hid (And.intro h1 (And.intro h2 (And.intro h3 (And.intro h4 h5)))); clear h1 h2 h3 h4 h5 hgrow)
        go_roundw
        case rel =>
          refine ⟨k + 1, by go_num, qs.set k { qs[k] with v := growVA qs[k].v, G := .slice (some ⟨g, 0, none⟩) ((curL markA qs[k].v).length + 64) gc, F := fun q => qs[k].F q ∨ q = g }, ?_⟩
          have hpg := HINV.out.book.pages.page k hk'
          have hgl := (HNEW.out.2.1.lt g rfl).2
          refine HINV.out.turn (D := fun q => (Value.slice A (curL markA qs[k].v).length c).ownBlock = some q) hlt hk' HT.out HCS.out 1 (by decide) _ HNEW.out.1 HNEW.out.2.2.2.2 (fun q hq => hpg.inR q (.inl (by rw [HL.out]; exact hq))) _ rfl (grow_pageA hpg HL.out HDK.out HNEW.out.2.1 HNEW.out.2.2.2.1) (fun q hq => ?_) rfl rfl
          rcases hq with hq | rfl
          · exact ⟨.inl hq, Nat.lt_of_lt_of_le (HINV.out.book.pages.lt k hk' q hq) HNEW.out.2.2.2.2.size⟩
          · refine ⟨?_, hgl⟩
            rcases HNEW.out.2.2.1 with h1 | h1
            · exact .inl (hpg.inR _ (.inl (by rw [HL.out]; exact h1)))
            · exact .inr h1
        case measure => simpa [intOf] using hmu
    · obtain rfl : k = ps.length := by omega
      obtain ⟨A, c, hTv⟩ := own_form HINV.out.book.pages.own
      rw [hTv, hlen] at b8
      go_wp2
      go_end0
      exact ⟨rfl, qs, HINV.out⟩

set_option maxRecDepth 100000 in
theorem intactAccounts_any {w : World} {kb : Nat} {bc : Array Value} {Tv : Value} {ps : List (Pg Acct)} (h : BookA w kb bc Tv ps) :
    Calls Tryz.prog 95 #[.pointer (some ⟨kb, 0, none⟩)] w fun e w' => e = .returned (.bool true) ∧ Below w.heap.size w w' := by
  have HB := Lib.hid h
  clear h
  go_enter Tryz.func95, Tryz.ntmps95
  go_wp2
  go_loopw [3] (fun i wr => ∃ k : Nat, i = .int .i64 (k : Int) ∧ k ≤ ps.length ∧ Below w.heap.size w wr) (fun i _ => ps.length - (intOf i).toNat)
  case atStart => exact ⟨0, rfl, Nat.zero_le _, Below.refl _ _⟩
  case round =>
    obtain ⟨k, rfl, hle, hbr⟩ := hrel
    have HINV := Lib.hid (HB.out.below hbr)
    have hsm := HINV.out.len
    have hb0 := HINV.out.blk
    have b8 : wr.cell? ⟨kb, 8, none⟩ = some Tv := by rw [cell_of_blk hb0]; exact HINV.out.c8
    by_cases hlt : k < ps.length
    · obtain ⟨tb, cap, cs, hTv, hcs, hx⟩ := HINV.out.pages.at_ k hlt
      obtain ⟨c0, c1, c2, c3, c4⟩ := cells_atA hcs hx
      have hmu := meas_k ps.length k hlt
      have hwk := wrap_up k (by omega)
      rw [hTv] at b8
      have hsh := showsA_any (HINV.out.pages.page k hlt) (HINV.out.ids k hlt) HINV.out.pow
      clear hx hcs hTv
      go_wp2_with (go_at_call 177; refine hsh.mono ?_; rintro en w1 ⟨rfl, hb1⟩; clear hsh)
      go_roundw
      case rel => exact ⟨k + 1, by go_num, hlt, hbr.trans (hb1.mono hbr.size)⟩
      case measure => simpa [intOf] using hmu
    · obtain rfl : k = ps.length := by omega
      obtain ⟨A, c, hTv⟩ := own_form HINV.out.pages.own
      rw [hTv] at b8
      go_wp2
      go_ret
      exact ⟨rfl, hbr⟩
end Go.Proofs.YtplocldnklccfaaGreatDoor
namespace Go.Proofs.YtplocldnklccfaaGreatDoor
open Go.RowKit
set_option linter.unusedVariables false
set_option linter.unusedSimpArgs false

theorem intactBytes_nil {w : World} {kb : Nat} (h : w.cell? ⟨kb, 1, none⟩ = some (.slice none 0 0)) : Calls Tryz.prog 88 #[.pointer (some ⟨kb, 0, none⟩)] w fun en w' => en = .returned (.bool true) ∧ w' = w := by
  go_enter Tryz.func88, Tryz.ntmps88
  go_wp2
  go_loopw [3] (fun i wr => i = .int .i64 0 ∧ wr = w) (fun _ _ => 0)
  case atStart => exact ⟨rfl, rfl⟩
  case round =>
    obtain ⟨rfl, rfl⟩ := hrel
    go_wp2
    go_ret
    exact ⟨rfl, rfl⟩
theorem fillBytes_nil {w : World} {kb : Nat} (h : w.cell? ⟨kb, 1, none⟩ = some (.slice none 0 0)) : Calls Tryz.prog 33 #[.pointer (some ⟨kb, 0, none⟩)] w fun en w' => en = .returned (.tuple #[]) ∧ w' = w := by
  go_enter Tryz.func33, Tryz.ntmps33
  go_wp2
  go_loopw [2] (fun i wr => i = .int .i64 0 ∧ wr = w) (fun _ _ => 0)
  case atStart => exact ⟨rfl, rfl⟩
  case round =>
    obtain ⟨rfl, rfl⟩ := hrel
    go_wp2
    go_end0
    exact ⟨rfl, rfl⟩
theorem growBytes_nil {w : World} {kb : Nat} (h : w.cell? ⟨kb, 1, none⟩ = some (.slice none 0 0)) : Calls Tryz.prog 53 #[.pointer (some ⟨kb, 0, none⟩)] w fun en w' => en = .returned (.tuple #[]) ∧ w' = w := by
  go_enter Tryz.func53, Tryz.ntmps53
  go_wp2
  go_loopw [2] (fun i wr => i = .int .i64 0 ∧ wr = w) (fun _ _ => 0)
  case atStart => exact ⟨rfl, rfl⟩
  case round =>
    obtain ⟨rfl, rfl⟩ := hrel
    go_wp2
    go_end0
    exact ⟨rfl, rfl⟩
theorem intactInts_nil {w : World} {kb : Nat} (h : w.cell? ⟨kb, 2, none⟩ = some (.slice none 0 0)) : Calls Tryz.prog 89 #[.pointer (some ⟨kb, 0, none⟩)] w fun en w' => en = .returned (.bool true) ∧ w' = w := by
  go_enter Tryz.func89, Tryz.ntmps89
  go_wp2
  go_loopw [3] (fun i wr => i = .int .i64 0 ∧ wr = w) (fun _ _ => 0)
  case atStart => exact ⟨rfl, rfl⟩
  case round =>
    obtain ⟨rfl, rfl⟩ := hrel
    go_wp2
    go_ret
    exact ⟨rfl, rfl⟩
theorem fillInts_nil {w : World} {kb : Nat} (h : w.cell? ⟨kb, 2, none⟩ = some (.slice none 0 0)) : Calls Tryz.prog 34 #[.pointer (some ⟨kb, 0, none⟩)] w fun en w' => en = .returned (.tuple #[]) ∧ w' = w := by
  go_enter Tryz.func34, Tryz.ntmps34
  go_wp2
  go_loopw [2] (fun i wr => i = .int .i64 0 ∧ wr = w) (fun _ _ => 0)
  case atStart => exact ⟨rfl, rfl⟩
  case round =>
    obtain ⟨rfl, rfl⟩ := hrel
    go_wp2
    go_end0
    exact ⟨rfl, rfl⟩
theorem growInts_nil {w : World} {kb : Nat} (h : w.cell? ⟨kb, 2, none⟩ = some (.slice none 0 0)) : Calls Tryz.prog 54 #[.pointer (some ⟨kb, 0, none⟩)] w fun en w' => en = .returned (.tuple #[]) ∧ w' = w := by
  go_enter Tryz.func54, Tryz.ntmps54
  go_wp2
  go_loopw [2] (fun i wr => i = .int .i64 0 ∧ wr = w) (fun _ _ => 0)
  case atStart => exact ⟨rfl, rfl⟩
  case round =>
    obtain ⟨rfl, rfl⟩ := hrel
    go_wp2
    go_end0
    exact ⟨rfl, rfl⟩
theorem intactNums_nil {w : World} {kb : Nat} (h : w.cell? ⟨kb, 3, none⟩ = some (.slice none 0 0)) : Calls Tryz.prog 90 #[.pointer (some ⟨kb, 0, none⟩)] w fun en w' => en = .returned (.bool true) ∧ w' = w := by
  go_enter Tryz.func90, Tryz.ntmps90
  go_wp2
  go_loopw [3] (fun i wr => i = .int .i64 0 ∧ wr = w) (fun _ _ => 0)
  case atStart => exact ⟨rfl, rfl⟩
  case round =>
    obtain ⟨rfl, rfl⟩ := hrel
    go_wp2
    go_ret
    exact ⟨rfl, rfl⟩
theorem fillNums_nil {w : World} {kb : Nat} (h : w.cell? ⟨kb, 3, none⟩ = some (.slice none 0 0)) : Calls Tryz.prog 35 #[.pointer (some ⟨kb, 0, none⟩)] w fun en w' => en = .returned (.tuple #[]) ∧ w' = w := by
  go_enter Tryz.func35, Tryz.ntmps35
  go_wp2
  go_loopw [2] (fun i wr => i = .int .i64 0 ∧ wr = w) (fun _ _ => 0)
  case atStart => exact ⟨rfl, rfl⟩
  case round =>
    obtain ⟨rfl, rfl⟩ := hrel
    go_wp2
    go_end0
    exact ⟨rfl, rfl⟩
theorem growNums_nil {w : World} {kb : Nat} (h : w.cell? ⟨kb, 3, none⟩ = some (.slice none 0 0)) : Calls Tryz.prog 55 #[.pointer (some ⟨kb, 0, none⟩)] w fun en w' => en = .returned (.tuple #[]) ∧ w' = w := by
  go_enter Tryz.func55, Tryz.ntmps55
  go_wp2
  go_loopw [2] (fun i wr => i = .int .i64 0 ∧ wr = w) (fun _ _ => 0)
  case atStart => exact ⟨rfl, rfl⟩
  case round =>
    obtain ⟨rfl, rfl⟩ := hrel
    go_wp2
    go_end0
    exact ⟨rfl, rfl⟩
theorem intactTexts_nil {w : World} {kb : Nat} (h : w.cell? ⟨kb, 4, none⟩ = some (.slice none 0 0)) : Calls Tryz.prog 91 #[.pointer (some ⟨kb, 0, none⟩)] w fun en w' => en = .returned (.bool true) ∧ w' = w := by
  go_enter Tryz.func91, Tryz.ntmps91
  go_wp2
  go_loopw [3] (fun i wr => i = .int .i64 0 ∧ wr = w) (fun _ _ => 0)
  case atStart => exact ⟨rfl, rfl⟩
  case round =>
    obtain ⟨rfl, rfl⟩ := hrel
    go_wp2
    go_ret
    exact ⟨rfl, rfl⟩
theorem fillTexts_nil {w : World} {kb : Nat} (h : w.cell? ⟨kb, 4, none⟩ = some (.slice none 0 0)) : Calls Tryz.prog 36 #[.pointer (some ⟨kb, 0, none⟩)] w fun en w' => en = .returned (.tuple #[]) ∧ w' = w := by
  go_enter Tryz.func36, Tryz.ntmps36
  go_wp2
  go_loopw [2] (fun i wr => i = .int .i64 0 ∧ wr = w) (fun _ _ => 0)
  case atStart => exact ⟨rfl, rfl⟩
  case round =>
    obtain ⟨rfl, rfl⟩ := hrel
    go_wp2
    go_end0
    exact ⟨rfl, rfl⟩
theorem growTexts_nil {w : World} {kb : Nat} (h : w.cell? ⟨kb, 4, none⟩ = some (.slice none 0 0)) : Calls Tryz.prog 56 #[.pointer (some ⟨kb, 0, none⟩)] w fun en w' => en = .returned (.tuple #[]) ∧ w' = w := by
  go_enter Tryz.func56, Tryz.ntmps56
  go_wp2
  go_loopw [2] (fun i wr => i = .int .i64 0 ∧ wr = w) (fun _ _ => 0)
  case atStart => exact ⟨rfl, rfl⟩
  case round =>
    obtain ⟨rfl, rfl⟩ := hrel
    go_wp2
    go_end0
    exact ⟨rfl, rfl⟩
theorem intactPostings_nil {w : World} {kb : Nat} (h : w.cell? ⟨kb, 5, none⟩ = some (.slice none 0 0)) : Calls Tryz.prog 92 #[.pointer (some ⟨kb, 0, none⟩)] w fun en w' => en = .returned (.bool true) ∧ w' = w := by
  go_enter Tryz.func92, Tryz.ntmps92
  go_wp2
  go_loopw [3] (fun i wr => i = .int .i64 0 ∧ wr = w) (fun _ _ => 0)
  case atStart => exact ⟨rfl, rfl⟩
  case round =>
    obtain ⟨rfl, rfl⟩ := hrel
    go_wp2
    go_ret
    exact ⟨rfl, rfl⟩
theorem fillPostings_nil {w : World} {kb : Nat} (h : w.cell? ⟨kb, 5, none⟩ = some (.slice none 0 0)) : Calls Tryz.prog 37 #[.pointer (some ⟨kb, 0, none⟩)] w fun en w' => en = .returned (.tuple #[]) ∧ w' = w := by
  go_enter Tryz.func37, Tryz.ntmps37
  go_wp2
  go_loopw [2] (fun i wr => i = .int .i64 0 ∧ wr = w) (fun _ _ => 0)
  case atStart => exact ⟨rfl, rfl⟩
  case round =>
    obtain ⟨rfl, rfl⟩ := hrel
    go_wp2
    go_end0
    exact ⟨rfl, rfl⟩
theorem growPostings_nil {w : World} {kb : Nat} (h : w.cell? ⟨kb, 5, none⟩ = some (.slice none 0 0)) : Calls Tryz.prog 57 #[.pointer (some ⟨kb, 0, none⟩)] w fun en w' => en = .returned (.tuple #[]) ∧ w' = w := by
  go_enter Tryz.func57, Tryz.ntmps57
  go_wp2
  go_loopw [2] (fun i wr => i = .int .i64 0 ∧ wr = w) (fun _ _ => 0)
  case atStart => exact ⟨rfl, rfl⟩
  case round =>
    obtain ⟨rfl, rfl⟩ := hrel
    go_wp2
    go_end0
    exact ⟨rfl, rfl⟩
theorem intactClaims_nil {w : World} {kb : Nat} (h : w.cell? ⟨kb, 6, none⟩ = some (.slice none 0 0)) : Calls Tryz.prog 93 #[.pointer (some ⟨kb, 0, none⟩)] w fun en w' => en = .returned (.bool true) ∧ w' = w := by
  go_enter Tryz.func93, Tryz.ntmps93
  go_wp2
  go_loopw [3] (fun i wr => i = .int .i64 0 ∧ wr = w) (fun _ _ => 0)
  case atStart => exact ⟨rfl, rfl⟩
  case round =>
    obtain ⟨rfl, rfl⟩ := hrel
    go_wp2
    go_ret
    exact ⟨rfl, rfl⟩
theorem fillClaims_nil {w : World} {kb : Nat} (h : w.cell? ⟨kb, 6, none⟩ = some (.slice none 0 0)) : Calls Tryz.prog 38 #[.pointer (some ⟨kb, 0, none⟩)] w fun en w' => en = .returned (.tuple #[]) ∧ w' = w := by
  go_enter Tryz.func38, Tryz.ntmps38
  go_wp2
  go_loopw [2] (fun i wr => i = .int .i64 0 ∧ wr = w) (fun _ _ => 0)
  case atStart => exact ⟨rfl, rfl⟩
  case round =>
    obtain ⟨rfl, rfl⟩ := hrel
    go_wp2
    go_end0
    exact ⟨rfl, rfl⟩
theorem growClaims_nil {w : World} {kb : Nat} (h : w.cell? ⟨kb, 6, none⟩ = some (.slice none 0 0)) : Calls Tryz.prog 58 #[.pointer (some ⟨kb, 0, none⟩)] w fun en w' => en = .returned (.tuple #[]) ∧ w' = w := by
  go_enter Tryz.func58, Tryz.ntmps58
  go_wp2
  go_loopw [2] (fun i wr => i = .int .i64 0 ∧ wr = w) (fun _ _ => 0)
  case atStart => exact ⟨rfl, rfl⟩
  case round =>
    obtain ⟨rfl, rfl⟩ := hrel
    go_wp2
    go_end0
    exact ⟨rfl, rfl⟩
theorem intactAllots_nil {w : World} {kb : Nat} (h : w.cell? ⟨kb, 7, none⟩ = some (.slice none 0 0)) : Calls Tryz.prog 94 #[.pointer (some ⟨kb, 0, none⟩)] w fun en w' => en = .returned (.bool true) ∧ w' = w := by
  go_enter Tryz.func94, Tryz.ntmps94
  go_wp2
  go_loopw [3] (fun i wr => i = .int .i64 0 ∧ wr = w) (fun _ _ => 0)
  case atStart => exact ⟨rfl, rfl⟩
  case round =>
    obtain ⟨rfl, rfl⟩ := hrel
    go_wp2
    go_ret
    exact ⟨rfl, rfl⟩
theorem fillAllots_nil {w : World} {kb : Nat} (h : w.cell? ⟨kb, 7, none⟩ = some (.slice none 0 0)) : Calls Tryz.prog 39 #[.pointer (some ⟨kb, 0, none⟩)] w fun en w' => en = .returned (.tuple #[]) ∧ w' = w := by
  go_enter Tryz.func39, Tryz.ntmps39
  go_wp2
  go_loopw [2] (fun i wr => i = .int .i64 0 ∧ wr = w) (fun _ _ => 0)
  case atStart => exact ⟨rfl, rfl⟩
  case round =>
    obtain ⟨rfl, rfl⟩ := hrel
    go_wp2
    go_end0
    exact ⟨rfl, rfl⟩
theorem growAllots_nil {w : World} {kb : Nat} (h : w.cell? ⟨kb, 7, none⟩ = some (.slice none 0 0)) : Calls Tryz.prog 59 #[.pointer (some ⟨kb, 0, none⟩)] w fun en w' => en = .returned (.tuple #[]) ∧ w' = w := by
  go_enter Tryz.func59, Tryz.ntmps59
  go_wp2
  go_loopw [2] (fun i wr => i = .int .i64 0 ∧ wr = w) (fun _ _ => 0)
  case atStart => exact ⟨rfl, rfl⟩
  case round =>
    obtain ⟨rfl, rfl⟩ := hrel
    go_wp2
    go_end0
    exact ⟨rfl, rfl⟩
theorem intactAccounts_nil {w : World} {kb : Nat} (h : w.cell? ⟨kb, 8, none⟩ = some (.slice none 0 0)) : Calls Tryz.prog 95 #[.pointer (some ⟨kb, 0, none⟩)] w fun en w' => en = .returned (.bool true) ∧ w' = w := by
  go_enter Tryz.func95, Tryz.ntmps95
  go_wp2
  go_loopw [3] (fun i wr => i = .int .i64 0 ∧ wr = w) (fun _ _ => 0)
  case atStart => exact ⟨rfl, rfl⟩
  case round =>
    obtain ⟨rfl, rfl⟩ := hrel
    go_wp2
    go_ret
    exact ⟨rfl, rfl⟩
theorem fillAccounts_nil {w : World} {kb : Nat} (h : w.cell? ⟨kb, 8, none⟩ = some (.slice none 0 0)) : Calls Tryz.prog 40 #[.pointer (some ⟨kb, 0, none⟩)] w fun en w' => en = .returned (.tuple #[]) ∧ w' = w := by
  go_enter Tryz.func40, Tryz.ntmps40
  go_wp2
  go_loopw [2] (fun i wr => i = .int .i64 0 ∧ wr = w) (fun _ _ => 0)
  case atStart => exact ⟨rfl, rfl⟩
  case round =>
    obtain ⟨rfl, rfl⟩ := hrel
    go_wp2
    go_end0
    exact ⟨rfl, rfl⟩
theorem growAccounts_nil {w : World} {kb : Nat} (h : w.cell? ⟨kb, 8, none⟩ = some (.slice none 0 0)) : Calls Tryz.prog 60 #[.pointer (some ⟨kb, 0, none⟩)] w fun en w' => en = .returned (.tuple #[]) ∧ w' = w := by
  go_enter Tryz.func60, Tryz.ntmps60
  go_wp2
  go_loopw [2] (fun i wr => i = .int .i64 0 ∧ wr = w) (fun _ _ => 0)
  case atStart => exact ⟨rfl, rfl⟩
  case round =>
    obtain ⟨rfl, rfl⟩ := hrel
    go_wp2
    go_end0
    exact ⟨rfl, rfl⟩
theorem intactBalances_nil {w : World} {kb : Nat} (h : w.cell? ⟨kb, 9, none⟩ = some (.slice none 0 0)) : Calls Tryz.prog 96 #[.pointer (some ⟨kb, 0, none⟩)] w fun en w' => en = .returned (.bool true) ∧ w' = w := by
  go_enter Tryz.func96, Tryz.ntmps96
  go_wp2
  go_loopw [3] (fun i wr => i = .int .i64 0 ∧ wr = w) (fun _ _ => 0)
  case atStart => exact ⟨rfl, rfl⟩
  case round =>
    obtain ⟨rfl, rfl⟩ := hrel
    go_wp2
    go_ret
    exact ⟨rfl, rfl⟩
theorem fillBalances_nil {w : World} {kb : Nat} (h : w.cell? ⟨kb, 9, none⟩ = some (.slice none 0 0)) : Calls Tryz.prog 41 #[.pointer (some ⟨kb, 0, none⟩)] w fun en w' => en = .returned (.tuple #[]) ∧ w' = w := by
  go_enter Tryz.func41, Tryz.ntmps41
  go_wp2
  go_loopw [2] (fun i wr => i = .int .i64 0 ∧ wr = w) (fun _ _ => 0)
  case atStart => exact ⟨rfl, rfl⟩
  case round =>
    obtain ⟨rfl, rfl⟩ := hrel
    go_wp2
    go_end0
    exact ⟨rfl, rfl⟩
theorem growBalances_nil {w : World} {kb : Nat} (h : w.cell? ⟨kb, 9, none⟩ = some (.slice none 0 0)) : Calls Tryz.prog 61 #[.pointer (some ⟨kb, 0, none⟩)] w fun en w' => en = .returned (.tuple #[]) ∧ w' = w := by
  go_enter Tryz.func61, Tryz.ntmps61
  go_wp2
  go_loopw [2] (fun i wr => i = .int .i64 0 ∧ wr = w) (fun _ _ => 0)
  case atStart => exact ⟨rfl, rfl⟩
  case round =>
    obtain ⟨rfl, rfl⟩ := hrel
    go_wp2
    go_end0
    exact ⟨rfl, rfl⟩
theorem intactColumns_nil {w : World} {kb : Nat} (h : w.cell? ⟨kb, 10, none⟩ = some (.slice none 0 0)) : Calls Tryz.prog 97 #[.pointer (some ⟨kb, 0, none⟩)] w fun en w' => en = .returned (.bool true) ∧ w' = w := by
  go_enter Tryz.func97, Tryz.ntmps97
  go_wp2
  go_loopw [3] (fun i wr => i = .int .i64 0 ∧ wr = w) (fun _ _ => 0)
  case atStart => exact ⟨rfl, rfl⟩
  case round =>
    obtain ⟨rfl, rfl⟩ := hrel
    go_wp2
    go_ret
    exact ⟨rfl, rfl⟩
theorem fillColumns_nil {w : World} {kb : Nat} (h : w.cell? ⟨kb, 10, none⟩ = some (.slice none 0 0)) : Calls Tryz.prog 42 #[.pointer (some ⟨kb, 0, none⟩)] w fun en w' => en = .returned (.tuple #[]) ∧ w' = w := by
  go_enter Tryz.func42, Tryz.ntmps42
  go_wp2
  go_loopw [2] (fun i wr => i = .int .i64 0 ∧ wr = w) (fun _ _ => 0)
  case atStart => exact ⟨rfl, rfl⟩
  case round =>
    obtain ⟨rfl, rfl⟩ := hrel
    go_wp2
    go_end0
    exact ⟨rfl, rfl⟩
theorem growColumns_nil {w : World} {kb : Nat} (h : w.cell? ⟨kb, 10, none⟩ = some (.slice none 0 0)) : Calls Tryz.prog 62 #[.pointer (some ⟨kb, 0, none⟩)] w fun en w' => en = .returned (.tuple #[]) ∧ w' = w := by
  go_enter Tryz.func62, Tryz.ntmps62
  go_wp2
  go_loopw [2] (fun i wr => i = .int .i64 0 ∧ wr = w) (fun _ _ => 0)
  case atStart => exact ⟨rfl, rfl⟩
  case round =>
    obtain ⟨rfl, rfl⟩ := hrel
    go_wp2
    go_end0
    exact ⟨rfl, rfl⟩
theorem intactDays_nil {w : World} {kb : Nat} (h : w.cell? ⟨kb, 11, none⟩ = some (.slice none 0 0)) : Calls Tryz.prog 98 #[.pointer (some ⟨kb, 0, none⟩)] w fun en w' => en = .returned (.bool true) ∧ w' = w := by
  go_enter Tryz.func98, Tryz.ntmps98
  go_wp2
  go_loopw [3] (fun i wr => i = .int .i64 0 ∧ wr = w) (fun _ _ => 0)
  case atStart => exact ⟨rfl, rfl⟩
  case round =>
    obtain ⟨rfl, rfl⟩ := hrel
    go_wp2
    go_ret
    exact ⟨rfl, rfl⟩
theorem fillDays_nil {w : World} {kb : Nat} (h : w.cell? ⟨kb, 11, none⟩ = some (.slice none 0 0)) : Calls Tryz.prog 43 #[.pointer (some ⟨kb, 0, none⟩)] w fun en w' => en = .returned (.tuple #[]) ∧ w' = w := by
  go_enter Tryz.func43, Tryz.ntmps43
  go_wp2
  go_loopw [2] (fun i wr => i = .int .i64 0 ∧ wr = w) (fun _ _ => 0)
  case atStart => exact ⟨rfl, rfl⟩
  case round =>
    obtain ⟨rfl, rfl⟩ := hrel
    go_wp2
    go_end0
    exact ⟨rfl, rfl⟩
theorem growDays_nil {w : World} {kb : Nat} (h : w.cell? ⟨kb, 11, none⟩ = some (.slice none 0 0)) : Calls Tryz.prog 63 #[.pointer (some ⟨kb, 0, none⟩)] w fun en w' => en = .returned (.tuple #[]) ∧ w' = w := by
  go_enter Tryz.func63, Tryz.ntmps63
  go_wp2
  go_loopw [2] (fun i wr => i = .int .i64 0 ∧ wr = w) (fun _ _ => 0)
  case atStart => exact ⟨rfl, rfl⟩
  case round =>
    obtain ⟨rfl, rfl⟩ := hrel
    go_wp2
    go_end0
    exact ⟨rfl, rfl⟩
theorem intactLines_nil {w : World} {kb : Nat} (h : w.cell? ⟨kb, 12, none⟩ = some (.slice none 0 0)) : Calls Tryz.prog 99 #[.pointer (some ⟨kb, 0, none⟩)] w fun en w' => en = .returned (.bool true) ∧ w' = w := by
  go_enter Tryz.func99, Tryz.ntmps99
  go_wp2
  go_loopw [3] (fun i wr => i = .int .i64 0 ∧ wr = w) (fun _ _ => 0)
  case atStart => exact ⟨rfl, rfl⟩
  case round =>
    obtain ⟨rfl, rfl⟩ := hrel
    go_wp2
    go_ret
    exact ⟨rfl, rfl⟩
theorem fillLines_nil {w : World} {kb : Nat} (h : w.cell? ⟨kb, 12, none⟩ = some (.slice none 0 0)) : Calls Tryz.prog 44 #[.pointer (some ⟨kb, 0, none⟩)] w fun en w' => en = .returned (.tuple #[]) ∧ w' = w := by
  go_enter Tryz.func44, Tryz.ntmps44
  go_wp2
  go_loopw [2] (fun i wr => i = .int .i64 0 ∧ wr = w) (fun _ _ => 0)
  case atStart => exact ⟨rfl, rfl⟩
  case round =>
    obtain ⟨rfl, rfl⟩ := hrel
    go_wp2
    go_end0
    exact ⟨rfl, rfl⟩
theorem growLines_nil {w : World} {kb : Nat} (h : w.cell? ⟨kb, 12, none⟩ = some (.slice none 0 0)) : Calls Tryz.prog 64 #[.pointer (some ⟨kb, 0, none⟩)] w fun en w' => en = .returned (.tuple #[]) ∧ w' = w := by
  go_enter Tryz.func64, Tryz.ntmps64
  go_wp2
  go_loopw [2] (fun i wr => i = .int .i64 0 ∧ wr = w) (fun _ _ => 0)
  case atStart => exact ⟨rfl, rfl⟩
  case round =>
    obtain ⟨rfl, rfl⟩ := hrel
    go_wp2
    go_end0
    exact ⟨rfl, rfl⟩
theorem intactCells_nil {w : World} {kb : Nat} (h : w.cell? ⟨kb, 13, none⟩ = some (.slice none 0 0)) : Calls Tryz.prog 100 #[.pointer (some ⟨kb, 0, none⟩)] w fun en w' => en = .returned (.bool true) ∧ w' = w := by
  go_enter Tryz.func100, Tryz.ntmps100
  go_wp2
  go_loopw [3] (fun i wr => i = .int .i64 0 ∧ wr = w) (fun _ _ => 0)
  case atStart => exact ⟨rfl, rfl⟩
  case round =>
    obtain ⟨rfl, rfl⟩ := hrel
    go_wp2
    go_ret
    exact ⟨rfl, rfl⟩
theorem fillCells_nil {w : World} {kb : Nat} (h : w.cell? ⟨kb, 13, none⟩ = some (.slice none 0 0)) : Calls Tryz.prog 45 #[.pointer (some ⟨kb, 0, none⟩)] w fun en w' => en = .returned (.tuple #[]) ∧ w' = w := by
  go_enter Tryz.func45, Tryz.ntmps45
  go_wp2
  go_loopw [2] (fun i wr => i = .int .i64 0 ∧ wr = w) (fun _ _ => 0)
  case atStart => exact ⟨rfl, rfl⟩
  case round =>
    obtain ⟨rfl, rfl⟩ := hrel
    go_wp2
    go_end0
    exact ⟨rfl, rfl⟩
theorem growCells_nil {w : World} {kb : Nat} (h : w.cell? ⟨kb, 13, none⟩ = some (.slice none 0 0)) : Calls Tryz.prog 65 #[.pointer (some ⟨kb, 0, none⟩)] w fun en w' => en = .returned (.tuple #[]) ∧ w' = w := by
  go_enter Tryz.func65, Tryz.ntmps65
  go_wp2
  go_loopw [2] (fun i wr => i = .int .i64 0 ∧ wr = w) (fun _ _ => 0)
  case atStart => exact ⟨rfl, rfl⟩
  case round =>
    obtain ⟨rfl, rfl⟩ := hrel
    go_wp2
    go_end0
    exact ⟨rfl, rfl⟩
theorem intactSegments_nil {w : World} {kb : Nat} (h : w.cell? ⟨kb, 14, none⟩ = some (.slice none 0 0)) : Calls Tryz.prog 101 #[.pointer (some ⟨kb, 0, none⟩)] w fun en w' => en = .returned (.bool true) ∧ w' = w := by
  go_enter Tryz.func101, Tryz.ntmps101
  go_wp2
  go_loopw [3] (fun i wr => i = .int .i64 0 ∧ wr = w) (fun _ _ => 0)
  case atStart => exact ⟨rfl, rfl⟩
  case round =>
    obtain ⟨rfl, rfl⟩ := hrel
    go_wp2
    go_ret
    exact ⟨rfl, rfl⟩
theorem fillSegments_nil {w : World} {kb : Nat} (h : w.cell? ⟨kb, 14, none⟩ = some (.slice none 0 0)) : Calls Tryz.prog 46 #[.pointer (some ⟨kb, 0, none⟩)] w fun en w' => en = .returned (.tuple #[]) ∧ w' = w := by
  go_enter Tryz.func46, Tryz.ntmps46
  go_wp2
  go_loopw [2] (fun i wr => i = .int .i64 0 ∧ wr = w) (fun _ _ => 0)
  case atStart => exact ⟨rfl, rfl⟩
  case round =>
    obtain ⟨rfl, rfl⟩ := hrel
    go_wp2
    go_end0
    exact ⟨rfl, rfl⟩
theorem growSegments_nil {w : World} {kb : Nat} (h : w.cell? ⟨kb, 14, none⟩ = some (.slice none 0 0)) : Calls Tryz.prog 66 #[.pointer (some ⟨kb, 0, none⟩)] w fun en w' => en = .returned (.tuple #[]) ∧ w' = w := by
  go_enter Tryz.func66, Tryz.ntmps66
  go_wp2
  go_loopw [2] (fun i wr => i = .int .i64 0 ∧ wr = w) (fun _ _ => 0)
  case atStart => exact ⟨rfl, rfl⟩
  case round =>
    obtain ⟨rfl, rfl⟩ := hrel
    go_wp2
    go_end0
    exact ⟨rfl, rfl⟩
theorem intactNodes_nil {w : World} {kb : Nat} (h : w.cell? ⟨kb, 15, none⟩ = some (.slice none 0 0)) : Calls Tryz.prog 102 #[.pointer (some ⟨kb, 0, none⟩)] w fun en w' => en = .returned (.bool true) ∧ w' = w := by
  go_enter Tryz.func102, Tryz.ntmps102
  go_wp2
  go_loopw [3] (fun i wr => i = .int .i64 0 ∧ wr = w) (fun _ _ => 0)
  case atStart => exact ⟨rfl, rfl⟩
  case round =>
    obtain ⟨rfl, rfl⟩ := hrel
    go_wp2
    go_ret
    exact ⟨rfl, rfl⟩
theorem fillNodes_nil {w : World} {kb : Nat} (h : w.cell? ⟨kb, 15, none⟩ = some (.slice none 0 0)) : Calls Tryz.prog 47 #[.pointer (some ⟨kb, 0, none⟩)] w fun en w' => en = .returned (.tuple #[]) ∧ w' = w := by
  go_enter Tryz.func47, Tryz.ntmps47
  go_wp2
  go_loopw [2] (fun i wr => i = .int .i64 0 ∧ wr = w) (fun _ _ => 0)
  case atStart => exact ⟨rfl, rfl⟩
  case round =>
    obtain ⟨rfl, rfl⟩ := hrel
    go_wp2
    go_end0
    exact ⟨rfl, rfl⟩
theorem growNodes_nil {w : World} {kb : Nat} (h : w.cell? ⟨kb, 15, none⟩ = some (.slice none 0 0)) : Calls Tryz.prog 67 #[.pointer (some ⟨kb, 0, none⟩)] w fun en w' => en = .returned (.tuple #[]) ∧ w' = w := by
  go_enter Tryz.func67, Tryz.ntmps67
  go_wp2
  go_loopw [2] (fun i wr => i = .int .i64 0 ∧ wr = w) (fun _ _ => 0)
  case atStart => exact ⟨rfl, rfl⟩
  case round =>
    obtain ⟨rfl, rfl⟩ := hrel
    go_wp2
    go_end0
    exact ⟨rfl, rfl⟩
theorem intactEvents_nil {w : World} {kb : Nat} (h : w.cell? ⟨kb, 16, none⟩ = some (.slice none 0 0)) : Calls Tryz.prog 103 #[.pointer (some ⟨kb, 0, none⟩)] w fun en w' => en = .returned (.bool true) ∧ w' = w := by
  go_enter Tryz.func103, Tryz.ntmps103
  go_wp2
  go_loopw [3] (fun i wr => i = .int .i64 0 ∧ wr = w) (fun _ _ => 0)
  case atStart => exact ⟨rfl, rfl⟩
  case round =>
    obtain ⟨rfl, rfl⟩ := hrel
    go_wp2
    go_ret
    exact ⟨rfl, rfl⟩
theorem fillEvents_nil {w : World} {kb : Nat} (h : w.cell? ⟨kb, 16, none⟩ = some (.slice none 0 0)) : Calls Tryz.prog 48 #[.pointer (some ⟨kb, 0, none⟩)] w fun en w' => en = .returned (.tuple #[]) ∧ w' = w := by
  go_enter Tryz.func48, Tryz.ntmps48
  go_wp2
  go_loopw [2] (fun i wr => i = .int .i64 0 ∧ wr = w) (fun _ _ => 0)
  case atStart => exact ⟨rfl, rfl⟩
  case round =>
    obtain ⟨rfl, rfl⟩ := hrel
    go_wp2
    go_end0
    exact ⟨rfl, rfl⟩
theorem growEvents_nil {w : World} {kb : Nat} (h : w.cell? ⟨kb, 16, none⟩ = some (.slice none 0 0)) : Calls Tryz.prog 68 #[.pointer (some ⟨kb, 0, none⟩)] w fun en w' => en = .returned (.tuple #[]) ∧ w' = w := by
  go_enter Tryz.func68, Tryz.ntmps68
  go_wp2
  go_loopw [2] (fun i wr => i = .int .i64 0 ∧ wr = w) (fun _ _ => 0)
  case atStart => exact ⟨rfl, rfl⟩
  case round =>
    obtain ⟨rfl, rfl⟩ := hrel
    go_wp2
    go_end0
    exact ⟨rfl, rfl⟩
theorem intactEntries_nil {w : World} {kb : Nat} (h : w.cell? ⟨kb, 17, none⟩ = some (.slice none 0 0)) : Calls Tryz.prog 104 #[.pointer (some ⟨kb, 0, none⟩)] w fun en w' => en = .returned (.bool true) ∧ w' = w := by
  go_enter Tryz.func104, Tryz.ntmps104
  go_wp2
  go_loopw [3] (fun i wr => i = .int .i64 0 ∧ wr = w) (fun _ _ => 0)
  case atStart => exact ⟨rfl, rfl⟩
  case round =>
    obtain ⟨rfl, rfl⟩ := hrel
    go_wp2
    go_ret
    exact ⟨rfl, rfl⟩
theorem fillEntries_nil {w : World} {kb : Nat} (h : w.cell? ⟨kb, 17, none⟩ = some (.slice none 0 0)) : Calls Tryz.prog 49 #[.pointer (some ⟨kb, 0, none⟩)] w fun en w' => en = .returned (.tuple #[]) ∧ w' = w := by
  go_enter Tryz.func49, Tryz.ntmps49
  go_wp2
  go_loopw [2] (fun i wr => i = .int .i64 0 ∧ wr = w) (fun _ _ => 0)
  case atStart => exact ⟨rfl, rfl⟩
  case round =>
    obtain ⟨rfl, rfl⟩ := hrel
    go_wp2
    go_end0
    exact ⟨rfl, rfl⟩
theorem growEntries_nil {w : World} {kb : Nat} (h : w.cell? ⟨kb, 17, none⟩ = some (.slice none 0 0)) : Calls Tryz.prog 69 #[.pointer (some ⟨kb, 0, none⟩)] w fun en w' => en = .returned (.tuple #[]) ∧ w' = w := by
  go_enter Tryz.func69, Tryz.ntmps69
  go_wp2
  go_loopw [2] (fun i wr => i = .int .i64 0 ∧ wr = w) (fun _ _ => 0)
  case atStart => exact ⟨rfl, rfl⟩
  case round =>
    obtain ⟨rfl, rfl⟩ := hrel
    go_wp2
    go_end0
    exact ⟨rfl, rfl⟩
theorem intactFiles_nil {w : World} {kb : Nat} (h : w.cell? ⟨kb, 18, none⟩ = some (.slice none 0 0)) : Calls Tryz.prog 105 #[.pointer (some ⟨kb, 0, none⟩)] w fun en w' => en = .returned (.bool true) ∧ w' = w := by
  go_enter Tryz.func105, Tryz.ntmps105
  go_wp2
  go_loopw [3] (fun i wr => i = .int .i64 0 ∧ wr = w) (fun _ _ => 0)
  case atStart => exact ⟨rfl, rfl⟩
  case round =>
    obtain ⟨rfl, rfl⟩ := hrel
    go_wp2
    go_ret
    exact ⟨rfl, rfl⟩
theorem fillFiles_nil {w : World} {kb : Nat} (h : w.cell? ⟨kb, 18, none⟩ = some (.slice none 0 0)) : Calls Tryz.prog 50 #[.pointer (some ⟨kb, 0, none⟩)] w fun en w' => en = .returned (.tuple #[]) ∧ w' = w := by
  go_enter Tryz.func50, Tryz.ntmps50
  go_wp2
  go_loopw [2] (fun i wr => i = .int .i64 0 ∧ wr = w) (fun _ _ => 0)
  case atStart => exact ⟨rfl, rfl⟩
  case round =>
    obtain ⟨rfl, rfl⟩ := hrel
    go_wp2
    go_end0
    exact ⟨rfl, rfl⟩
theorem growFiles_nil {w : World} {kb : Nat} (h : w.cell? ⟨kb, 18, none⟩ = some (.slice none 0 0)) : Calls Tryz.prog 70 #[.pointer (some ⟨kb, 0, none⟩)] w fun en w' => en = .returned (.tuple #[]) ∧ w' = w := by
  go_enter Tryz.func70, Tryz.ntmps70
  go_wp2
  go_loopw [2] (fun i wr => i = .int .i64 0 ∧ wr = w) (fun _ _ => 0)
  case atStart => exact ⟨rfl, rfl⟩
  case round =>
    obtain ⟨rfl, rfl⟩ := hrel
    go_wp2
    go_end0
    exact ⟨rfl, rfl⟩
theorem intactLists_nil {w : World} {kb : Nat} (h : w.cell? ⟨kb, 19, none⟩ = some (.slice none 0 0)) : Calls Tryz.prog 106 #[.pointer (some ⟨kb, 0, none⟩)] w fun en w' => en = .returned (.bool true) ∧ w' = w := by
  go_enter Tryz.func106, Tryz.ntmps106
  go_wp2
  go_loopw [3] (fun i wr => i = .int .i64 0 ∧ wr = w) (fun _ _ => 0)
  case atStart => exact ⟨rfl, rfl⟩
  case round =>
    obtain ⟨rfl, rfl⟩ := hrel
    go_wp2
    go_ret
    exact ⟨rfl, rfl⟩
theorem fillLists_nil {w : World} {kb : Nat} (h : w.cell? ⟨kb, 19, none⟩ = some (.slice none 0 0)) : Calls Tryz.prog 51 #[.pointer (some ⟨kb, 0, none⟩)] w fun en w' => en = .returned (.tuple #[]) ∧ w' = w := by
  go_enter Tryz.func51, Tryz.ntmps51
  go_wp2
  go_loopw [2] (fun i wr => i = .int .i64 0 ∧ wr = w) (fun _ _ => 0)
  case atStart => exact ⟨rfl, rfl⟩
  case round =>
    obtain ⟨rfl, rfl⟩ := hrel
    go_wp2
    go_end0
    exact ⟨rfl, rfl⟩
theorem growLists_nil {w : World} {kb : Nat} (h : w.cell? ⟨kb, 19, none⟩ = some (.slice none 0 0)) : Calls Tryz.prog 71 #[.pointer (some ⟨kb, 0, none⟩)] w fun en w' => en = .returned (.tuple #[]) ∧ w' = w := by
  go_enter Tryz.func71, Tryz.ntmps71
  go_wp2
  go_loopw [2] (fun i wr => i = .int .i64 0 ∧ wr = w) (fun _ _ => 0)
  case atStart => exact ⟨rfl, rfl⟩
  case round =>
    obtain ⟨rfl, rfl⟩ := hrel
    go_wp2
    go_end0
    exact ⟨rfl, rfl⟩
theorem intactRows_nil {w : World} {kb : Nat} (h : w.cell? ⟨kb, 20, none⟩ = some (.slice none 0 0)) : Calls Tryz.prog 107 #[.pointer (some ⟨kb, 0, none⟩)] w fun en w' => en = .returned (.bool true) ∧ w' = w := by
  go_enter Tryz.func107, Tryz.ntmps107
  go_wp2
  go_loopw [3] (fun i wr => i = .int .i64 0 ∧ wr = w) (fun _ _ => 0)
  case atStart => exact ⟨rfl, rfl⟩
  case round =>
    obtain ⟨rfl, rfl⟩ := hrel
    go_wp2
    go_ret
    exact ⟨rfl, rfl⟩
theorem fillRows_nil {w : World} {kb : Nat} (h : w.cell? ⟨kb, 20, none⟩ = some (.slice none 0 0)) : Calls Tryz.prog 52 #[.pointer (some ⟨kb, 0, none⟩)] w fun en w' => en = .returned (.tuple #[]) ∧ w' = w := by
  go_enter Tryz.func52, Tryz.ntmps52
  go_wp2
  go_loopw [2] (fun i wr => i = .int .i64 0 ∧ wr = w) (fun _ _ => 0)
  case atStart => exact ⟨rfl, rfl⟩
  case round =>
    obtain ⟨rfl, rfl⟩ := hrel
    go_wp2
    go_end0
    exact ⟨rfl, rfl⟩
theorem growRows_nil {w : World} {kb : Nat} (h : w.cell? ⟨kb, 20, none⟩ = some (.slice none 0 0)) : Calls Tryz.prog 72 #[.pointer (some ⟨kb, 0, none⟩)] w fun en w' => en = .returned (.tuple #[]) ∧ w' = w := by
  go_enter Tryz.func72, Tryz.ntmps72
  go_wp2
  go_loopw [2] (fun i wr => i = .int .i64 0 ∧ wr = w) (fun _ _ => 0)
  case atStart => exact ⟨rfl, rfl⟩
  case round =>
    obtain ⟨rfl, rfl⟩ := hrel
    go_wp2
    go_end0
    exact ⟨rfl, rfl⟩
end Go.Proofs.YtplocldnklccfaaGreatDoor
