/- daybookkeep: a list of accounts is written over, appended to and kept. Printed by gen_kaput.py; daybookkeep: a book that keeps lists of texts and of accounts. Printed by gen_kasettle.py; daybooklaw06: all that both charts tell, kept or written over. Printed by gen_asks.py. -/
import Derived.Test.YtplocldnklccfaaGreatDoorPack12
import Derived.Test.YtplocldnklccfaaGreatDoorPack11
import Derived.Test.YtplocldnklccfaaGreatDoorPack5
import Derived.Test.YtplocldnklccfaaGreatDoorPack7
namespace Go.Proofs.YtplocldnklccfaaGreatDoor
theorem qa13 {T : Type} (l : List T) (i : Nat) (a : T) : l.toArray.setIfInBounds i a = (l.set i a).toArray := List.setIfInBounds_toArray l i a
theorem qb13 {T : Type} {x : T} {xs : List T} {a : T} : (x :: xs).set 0 a = a :: xs := List.set_cons_zero
theorem qc13 {T : Type} {x : T} {xs : List T} {i : Nat} {a : T} : (x :: xs).set (i + 1) a = x :: xs.set i a := List.set_cons_succ
theorem qd13 {T : Type} {xs : List T} {i : Nat} (h : i < xs.toArray.size) : xs.toArray[i] = xs[i]'(by simpa using h) := List.getElem_toArray h
theorem qe13 {T : Type} (a : T) (ys : List T) (i : Nat) (h : i + 1 < (a :: ys).length) : (a :: ys)[i + 1] = ys[i]'(by simpa using h) := List.getElem_cons_succ a ys i h
theorem qf13 {T : Type} (a : T) (ys : List T) (h : 0 < (a :: ys).length) : (a :: ys)[0] = a := List.getElem_cons_zero a ys h
open Go.RowKit
set_option linter.unusedVariables false
set_option linter.unusedSimpArgs false

theorem write_doneA {w w4 w8 : World} {kb : Nat} {bc : Array Value} {TA A : Option Addr} {ps : List (Pg Acct)} {n0 : Int} {tc c B g cap g2 gc2 : Nat} {l : List Acct} {o : Obj} (h : BookA w kb bc (.slice TA ps.length tc) ps) (hn0 : 0 ≤ n0 ∧ n0 < 1048576) (hps : ps.length < 96)
    (hl : w.ownsRow B 159 4 (.slice A l.length c) l.length (l.map encA).flatten) (hlen : l.length ≤ 1048576) (hlb : ∀ q, (Value.slice A l.length c).ownBlock = some q → q ≠ kb ∧ q ≠ 3 ∧ ¬ BookFA (.slice TA ps.length tc) ps q) (hkg : kb ≠ 3)
    (hc4 : Ch (fun q => q = kb ∨ (Value.slice A l.length c).ownBlock = some q) w w4) (hk4 : w4.heap[kb]? = some (.cells (bc.setIfInBounds 0 (.int .i64 (n0 + 1))) 49 (0, 0)))
    (hG : w4.ownsRow 0 159 4 (.slice (some ⟨g2, 0, none⟩) (l.length + 64) gc2) (l.length + 64) (((marksL markA (n0 + 1) l.length).map encA).flatten ++ (accsM (n0 + 1 + 100000) 64).flatten)) (hg2 : (Value.slice A l.length c).ownBlock = some g2 ∨ w.heap.size ≤ g2)
    (htx : RowAt w4 (fun q => (Value.slice A l.length c).ownBlock = some q) 4 (.slice A l.length c) ((marksL markA (n0 + 1) l.length).map encA))
    (hown : w8.ownsRow 0 108 5 (.slice (some ⟨g, 0, none⟩) (ps.length + 1) cap) (ps.length + 1) ((ps.map Pg.cells).flatten ++ [.slice A l.length c, .slice (some ⟨g2, 0, none⟩) (l.length + 64) gc2, .slice none 0 0, .int .i64 (n0 + 1), .bool true]))
    (hgr : (w4.drew.alloc o).grownBy w8 (Value.slice TA ps.length tc).ownBlock) (hat : (Value.slice TA ps.length tc).ownBlock = some g ∨ (g = (w4.drew.alloc o).heap.size ∧ (w4.drew.alloc o).grownBy w8 none)) :
    ∃ p, BookA (w8.setCell ⟨kb, 8, none⟩ (.slice (some ⟨g, 0, none⟩) (ps.length + 1) cap)) kb ((bc.setIfInBounds 0 (.int .i64 (n0 + 1))).setIfInBounds 8 (.slice (some ⟨g, 0, none⟩) (ps.length + 1) cap)) (.slice (some ⟨g, 0, none⟩) (ps.length + 1) cap) (ps ++ [p]) ∧ p.v = ⟨n0 + 1, true, true, l⟩ ∧
      (∀ q, p.F q → (Value.slice A l.length c).ownBlock = some q ∨ w.heap.size ≤ q) ∧ (∀ q, (Value.slice (some ⟨g, 0, none⟩) (ps.length + 1) cap).ownBlock = some q → (Value.slice TA ps.length tc).ownBlock = some q ∨ w.heap.size ≤ q) ∧
      Ch (fun q => q = kb ∨ (Value.slice TA ps.length tc).ownBlock = some q ∨ (Value.slice A l.length c).ownBlock = some q) w (w8.setCell ⟨kb, 8, none⟩ (.slice (some ⟨g, 0, none⟩) (ps.length + 1) cap)) := by
  have hkl := heap_lt h.blk
  have hpl := h.pow.lt
  have s4 := hc4.size
  have sd : w4.drew.heap.size = w4.heap.size := rfl
  have s7 : (w4.drew.alloc o).heap.size = w4.heap.size + 1 := by rw [World.size_alloc]; rfl
  have s8 := hgr.size
  have hTl : ∀ q, (Value.slice TA ps.length tc).ownBlock = some q → q < w.heap.size := fun q hq => (h.pages.own.lt q hq).2
  have hLl : ∀ q, (Value.slice A l.length c).ownBlock = some q → q < w.heap.size := fun q hq => (hl.lt q hq).2
  have hlT : ∀ q, (Value.slice A l.length c).ownBlock = some q → (Value.slice TA ps.length tc).ownBlock ≠ some q := fun q hq e => (hlb q hq).2.2 (.inl e)
  have hc8 : Ch (fun q => q = kb ∨ (Value.slice TA ps.length tc).ownBlock = some q ∨ (Value.slice A l.length c).ownBlock = some q) w w8 :=
    (((hc4.mono (G := fun q => q = kb ∨ (Value.slice TA ps.length tc).ownBlock = some q ∨ (Value.slice A l.length c).ownBlock = some q) fun q hq => hq.elim .inl fun e => .inr (.inr e)).drew).alloc o).grown hgr fun k hk => .inl (.inr (.inl hk))
  have hc := hc8.setCell (p := ⟨kb, 8, none⟩) (.inl (.inl rfl)) (.slice (some ⟨g, 0, none⟩) (ps.length + 1) cap)
  have hk8 : w8.heap[kb]? = some (.cells (bc.setIfInBounds 0 (.int .i64 (n0 + 1))) 49 (0, 0)) :=
    (hgr.block kb (by omega) fun e => (h.tout kb e.symm).1 rfl).trans ((Below.heap_alloc w4.drew o kb (by omega)).trans hk4)
  have hset := Below.heap_setCell w8 ⟨kb, 8, none⟩ (.slice (some ⟨g, 0, none⟩) (ps.length + 1) cap)
  have hgk : g ≠ kb := fun e => by
    rcases hat with h1 | ⟨h1, _⟩
    · exact (h.tout g h1).1 e
    · omega
  have hgT : ∀ q, (Value.slice (some ⟨g, 0, none⟩) (ps.length + 1) cap).ownBlock = some q → (Value.slice TA ps.length tc).ownBlock = some q ∨ w4.heap.size < q := fun q hq => by
    obtain rfl : g = q := Option.some.inj hq
    rcases hat with h1 | ⟨h1, _⟩
    · exact .inl h1
    · exact .inr (by omega)
  have hlate : ∀ q, q < w4.heap.size → q ≠ kb → (Value.slice TA ps.length tc).ownBlock ≠ some q → (w8.setCell ⟨kb, 8, none⟩ (.slice (some ⟨g, 0, none⟩) (ps.length + 1) cap)).heap[q]? = w4.heap[q]? := fun q h1 h2 h3 =>
    (hset q h2).trans ((hgr.block q (by omega) fun e => h3 e.symm).trans (Below.heap_alloc w4.drew o q (by omega)))
  have hg2l : g2 < w4.heap.size := (hG.lt g2 rfl).2
  have hg2k : g2 ≠ kb ∧ g2 ≠ 3 ∧ ¬ BookFA (.slice TA ps.length tc) ps g2 := by
    rcases hg2 with e | e
    · exact hlb g2 e
    · refine ⟨by omega, by omega, fun h3 => ?_⟩
      rcases h3 with e2 | ⟨j, hj, e2⟩
      · have := hTl g2 e2
        omega
      · have := h.pages.lt j hj g2 e2
        omega
  have hcl : curL markA (⟨n0 + 1, true, true, l⟩ : PageV Acct) = marksL markA (n0 + 1) l.length := rfl
  have hG9 := ownsRow_keep (w' := w8.setCell ⟨kb, 8, none⟩ (.slice (some ⟨g, 0, none⟩) (ps.length + 1) cap)) hG fun q hq => by
    obtain rfl : g2 = q := Option.some.inj hq
    exact hlate g2 hg2l hg2k.1 fun e => hg2k.2.2 (.inl e)
  have hrow := htx
  refine ⟨⟨⟨n0 + 1, true, true, l⟩, .slice A l.length c, .slice (some ⟨g2, 0, none⟩) (l.length + 64) gc2, .slice none 0 0, fun q => (Value.slice A l.length c).ownBlock = some q ∨ q = g2⟩, ?_, rfl, ?_, ?_, hc⟩
  · refine h.pushD (D := fun q => (Value.slice A l.length c).ownBlock = some q) hps _ hc (fun q hq => ⟨(hlb q hq).2.1, (hlb q hq).2.2⟩) (heap_setCell_same hk8 _) (ownsRow_keep hown fun q hq => hset q (by obtain rfl : g = q := Option.some.inj hq; exact hgk)) ?_ ?_ ?_ ⟨by show 0 ≤ n0 + 1; omega, by show n0 + 1 ≤ 1048576; omega⟩ hkg
    · intro q hq
      rcases hgT q hq with h1 | h1
      · exact .inl h1
      · exact .inr (by omega)
    · refine ⟨⟨A, c, rfl⟩, hlen, fun hg => (by cases hg), fun hd => (by cases hd), fun _ => ⟨rfl, ?_, ?_⟩, ?_⟩
      · show World.ownsRow _ 0 159 4 _ (l.length + 64) (((curL markA (⟨n0 + 1, true, true, l⟩ : PageV Acct) ++ marksL markA (n0 + 1 + 100000) 64)).map encA).flatten
        rw [List.map_append, List.flatten_append, hcl]
        exact hG9
      · rw [hcl]
        exact hrow.keep fun q hq hlt => ⟨hlate q hlt (hlb q hq).1 (hlT q hq), .inl hq⟩
      · intro q hq
        rcases hq with hq | hq | hq
        · exact .inl hq
        · exact .inr (Option.some.inj hq).symm
        · cases hq
    · intro q hq
      rcases hq with hq | rfl
      · refine ⟨?_, (hlb q hq).1, (hlb q hq).2.1, (hlb q hq).2.2, fun e => ?_⟩
        · rw [World.size_setCell]
          have := hLl q hq
          omega
        · rcases hgT q e with h1 | h1
          · exact hlT q hq h1
          · have := hLl q hq
            omega
      · refine ⟨?_, hg2k.1, hg2k.2.1, hg2k.2.2, fun e => ?_⟩
        · rw [World.size_setCell]
          omega
        · rcases hgT _ e with h1 | h1
          · exact hg2k.2.2 (.inl h1)
          · omega
  · intro q hq
    rcases hq with hq | rfl
    · exact .inl hq
    · exact hg2
  · intro q hq
    rcases hgT q hq with h1 | h1
    · exact .inl h1
    · exact .inr (by omega)

set_option maxRecDepth 100000 in
set_option maxHeartbeats 4000000 in
theorem WriteAccounts_any {w : World} {kb : Nat} {bc : Array Value} {Tv : Value} {ps : List (Pg Acct)} {n0 : Int} {A : Option Addr} {c B : Nat} {l : List Acct} (h : BookA w kb bc Tv ps) (hb0 : bc[0]? = some (.int .i64 n0)) (hn0 : 0 ≤ n0 ∧ n0 < 1048576) (hps : ps.length < 96)
    (hl : w.ownsRow B 159 4 (.slice A l.length c) l.length (l.map encA).flatten) (hlen : l.length ≤ 1048576) (hlb : ∀ q, (Value.slice A l.length c).ownBlock = some q → q ≠ kb ∧ q ≠ 3 ∧ ¬ BookFA Tv ps q) (hkg : kb ≠ 3) :
    Calls Tryz.prog 164 #[.pointer (some ⟨kb, 0, none⟩), .slice A l.length c] w fun e w' => e = .returned (.tuple #[]) ∧ ∃ Tv' p, BookA w' kb ((bc.setIfInBounds 0 (.int .i64 (n0 + 1))).setIfInBounds 8 Tv') Tv' (ps ++ [p]) ∧ p.v = ⟨n0 + 1, true, true, l⟩ ∧
      (∀ q, p.F q → (Value.slice A l.length c).ownBlock = some q ∨ w.heap.size ≤ q) ∧ (∀ q, Tv'.ownBlock = some q → Tv.ownBlock = some q ∨ w.heap.size ≤ q) ∧ Ch (fun q => q = kb ∨ Tv.ownBlock = some q ∨ (Value.slice A l.length c).ownBlock = some q) w w' := by
  obtain ⟨ip, hip, hip0, hip1, hip2⟩ := info_parts info_pageA
  obtain ⟨TA, tc, rfl⟩ := own_form h.pages.own
  have hb := h.blk
  have b8 : w.cell? ⟨kb, 8, none⟩ = some (.slice TA ps.length tc) := by rw [cell_of_blk hb]; exact h.c8
  have hkl := heap_lt hb
  have hid := id_any hb hb0 hn0
  have HB := Lib.hid h
  have HL := Lib.hid hl
  have HLB := Lib.hid hlb
  have HB0 := Lib.hid hb0
  have HR := Lib.hid (And.intro (room96 hps) (room96b hps))
  have HTOP := Lib.hid (fun q (hq : (Value.slice TA ps.length tc).ownBlock = some q) => ((h.tout q hq).1 : q ≠ kb))
  have HS6 := Lib.hid (fun (W : World) (u : Value) (hbk : W.heap[kb]? = some (.cells (bc.setIfInBounds 0 u) 49 (0, 0))) => (show W.cell? ⟨kb, 8, none⟩ = some (.slice TA ps.length tc) from by rw [cell_of_blk hbk, Array.getElem?_setIfInBounds, if_neg (by decide)]; exact HB.out.c8))
  clear h hl hlb hb0
  go_enter Tryz.func164, Tryz.ntmps164
  have hlt96 : (ps.length : Int) < 96 := by omega
  have hid6 : ∃ w6, w6 = w.setCell ⟨kb, 0, none⟩ (.int .i64 (n0 + 1)) := ⟨_, rfl⟩
  go_wp2_with (go_at_call 29; refine hid.mono ?_; rintro en w6 ⟨rfl, hw6⟩; have HW6 := Lib.hid hw6; clear hw6)
  have hk6 : w6.heap[kb]? = some (.cells (bc.setIfInBounds 0 (.int .i64 (n0 + 1))) 49 (0, 0)) := by rw [HW6.out]; exact heap_setCell_same HB.out.blk _
  have hs6 : w6.heap.size = w.heap.size := by rw [HW6.out, World.size_setCell]
  obtain ⟨w7, hw7⟩ : ∃ w7, w7 = w6.alloc (.cells #[.slice A l.length c, .slice none 0 0, .slice none 0 0, .int .i64 (n0 + 1), .bool false] 108) := ⟨_, rfl⟩
  rw [← hw7]
  have hp7 : w7.heap[w6.heap.size]? = some (.cells #[.slice A l.length c, .slice none 0 0, .slice none 0 0, .int .i64 (n0 + 1), .bool false] 108 (0, 0)) := by rw [hw7]; exact World.alloc_heap_new w6 _
  have hk7 : w7.heap[kb]? = some (.cells (bc.setIfInBounds 0 (.int .i64 (n0 + 1))) 49 (0, 0)) := by rw [hw7]; exact (Below.heap_alloc w6 _ kb (by omega)).trans hk6
  have hc7 : Ch (fun q => q = kb) w w7 := by
    have c6 := (Ch.refl (fun q => q = kb) w).setCell (p := ⟨kb, 0, none⟩) (.inl rfl) (.int .i64 (n0 + 1))
    rw [← HW6.out] at c6
    rw [hw7]
    exact c6.alloc _
  have hown7 : w7.ownsRow 0 159 4 (.slice A l.length c) l.length (l.map encA).flatten := own_base (ownsRow_keep HL.out fun q hq => hc7.block q (HL.out.lt q hq).2 (HLB.out q hq).1) fun _ _ => Nat.zero_le _
  have hpow7 := HB.out.pow.ch hc7 fun q hq => by rw [hq]; exact hkg
  have hs7 : w7.heap.size = w.heap.size + 1 := by rw [hw7, World.size_alloc, hs6]
  have hLp : ∀ q, (Value.slice A l.length c).ownBlock = some q → q ≠ w6.heap.size := fun q hq e => by have := (HL.out.lt q hq).2; omega
  have hidr : 0 ≤ n0 + 1 ∧ n0 + 1 ≤ 1048576 := ⟨by omega, by omega⟩
  have hfill := fillA_any (w := w7) (pb := w6.heap.size) (po := 0) (A := A) (n := l.length) (c := c) (id := n0 + 1) (d := false) (xs := l.map encA) hp7 rfl rfl rfl (by rw [List.length_map]) (encs_4 l) hown7 hLp hlen hidr (fun W hW => hpow7.ch hW fun q hq => (HLB.out q hq).2.1)
  refine hfill.mono ?_
  rintro en w3 ⟨rfl, h31, h32, h33⟩
  have h31 : w3.heap[w6.heap.size]? = some (.cells #[.slice A l.length c, .slice none 0 0, .slice none 0 0, .int .i64 (n0 + 1), .bool true] 108 (0, 0)) := h31
  have hpl := HB.out.pow.lt
  have hpow3 := hpow7.ch h33 fun q hq => by
    rcases hq with rfl | hq
    · omega
    · exact (HLB.out q hq).2.1
  have hgrow := growA_any (w := w3) (pb := w6.heap.size) (po := 0) (A := A) (c := c) (id := n0 + 1) (xs := accsM (n0 + 1) l.length) (G0 := .slice none 0 0) (accsM_4 _ _) h31 (by rw [accsM_len]; rfl) rfl rfl (by rw [accsM_len]; exact h32) (by rw [accsM_len]; exact hLp) (by rw [accsM_len]; exact hlen) hidr (fun W hW => hpow3.ch hW fun q hq => by
    rw [accsM_len] at hq
    rcases hq with rfl | hq
    · omega
    · exact (HLB.out q hq).2.1)
  rw [accsM_len] at hgrow
  have hc3 : Ch (fun q => q = kb ∨ (Value.slice A l.length c).ownBlock = some q) w w3 := (hc7.mono (G := fun q => q = kb ∨ (Value.slice A l.length c).ownBlock = some q) fun q hq => .inl hq).trans h33 fun q hq => by
    rcases hq with rfl | hq
    · exact .inr (by omega)
    · exact .inl (.inr hq)
  have hk3 := (h33.block kb (by omega) fun e => by
    rcases e with e | e
    · omega
    · exact (HLB.out kb e).1 rfl).trans hk7
  have hs3 := h33.size
  have HX3 := Lib.hid (And.intro hc3 (And.intro hk3 (And.intro hs3 hs7)))
  have HS66 := Lib.hid hs6
  have HPL := Lib.hid hpl
  clear hfill h31 h32 h33 hpow3 hpow7 hown7 hc7 hp7 hw7 hk7 hc3 hk3 hs3 hLp hs7 b8 hk6 hs6 hpl hidr hid6 hid hb
  go_wp2_with (go_at_call 133; refine hgrow.mono ?_; rintro en w4 ⟨rfl, g2, gc2, h8x1, h8x2, h8x3, h8x4, h8x5⟩; have HG4 := Lib.hid (And.intro h8x1 (And.intro h8x2 (And.intro h8x3 (And.intro h8x4 h8x5)))); clear h8x1 h8x2 h8x3 h8x4 h8x5 hgrow)
  obtain ⟨h8x1, h8x2, h8x3, h8x4, h8x5⟩ := HG4.out
  have hs6 := HS66.out
  have hpl := HPL.out
  have h8x1 : w4.heap[w6.heap.size]? = some (.cells #[.slice A l.length c, .slice (some ⟨g2, 0, none⟩) (l.length + 64) gc2, .slice none 0 0, .int .i64 (n0 + 1), .bool true] 108 (0, 0)) := h8x1
  have hc4 : Ch (fun q => q = kb ∨ (Value.slice A l.length c).ownBlock = some q) w w4 := HX3.out.1.trans h8x5 fun q hq => by
    rcases hq with rfl | hq
    · exact .inr (by omega)
    · exact .inl (.inr hq)
  have hx3 := HX3.out
  have hk4 := (h8x5.block kb (by omega) fun e => by
    rcases e with e | e
    · omega
    · exact (HLB.out kb e).1 rfl).trans hx3.2.1
  have hs4 := h8x5.size
  have hg2 : (Value.slice A l.length c).ownBlock = some g2 ∨ w.heap.size ≤ g2 := by
    rcases h8x3 with e | e
    · exact .inl e
    · exact .inr (by omega)
  have HX4 := Lib.hid (And.intro hc4 (And.intro hk4 (And.intro h8x2 (And.intro hg2 h8x4))))
  have hk4l : kb < w4.heap.size := heap_lt hk4
  have hSP := Lib.hid (fun (W : World) (hb : W.heap[kb]? = w4.heap[kb]?) (hp : W.heap[w6.heap.size]? = w4.heap[w6.heap.size]?) => (show W.cell? ⟨kb, 8, none⟩ = some (.slice TA ps.length tc) ∧ W.cell? ⟨w6.heap.size, 0, none⟩ = some (.slice A l.length c) ∧ W.cell? ⟨w6.heap.size, 1, none⟩ = some (.slice (some ⟨g2, 0, none⟩) (l.length + 64) gc2) ∧ W.cell? ⟨w6.heap.size, 2, none⟩ = some (.slice none 0 0) ∧ W.cell? ⟨w6.heap.size, 3, none⟩ = some (.int .i64 (n0 + 1)) ∧ W.cell? ⟨w6.heap.size, 4, none⟩ = some (.bool true) from by
    refine ⟨HS6.out W _ (hb.trans HX4.out.2.1), ?_, ?_, ?_, ?_, ?_⟩ <;> rw [cell_of_blk (hp.trans h8x1)] <;> rfl))
  have hp4l := heap_lt h8x1
  clear hc4 hx3 hk4 hg2 h8x2 h8x3 h8x4 h8x5 h8x1 hs6 hpl hs4
  have hHeld := hSP.out w4.drew rfl rfl
  refine wp_region_n (n := 10) (S := fun w' => w'.cell? ⟨kb, 8, none⟩ = some (.slice TA ps.length tc) ∧ w'.cell? ⟨w6.heap.size, 0, none⟩ = some (.slice A l.length c) ∧ w'.cell? ⟨w6.heap.size, 1, none⟩ = some (.slice (some ⟨g2, 0, none⟩) (l.length + 64) gc2) ∧ w'.cell? ⟨w6.heap.size, 2, none⟩ = some (.slice none 0 0) ∧ w'.cell? ⟨w6.heap.size, 3, none⟩ = some (.int .i64 (n0 + 1)) ∧ w'.cell? ⟨w6.heap.size, 4, none⟩ = some (.bool true)) (by kernel_rfl) ?_
  refine wpAnyN_take (i := 0) (v := ?_) rfl (by kernel_rfl) (by kernel_rfl) (by kernel_rfl) (by kernel_rfl) (fun _ _ _ h => h) (Or.inl ⟨by kernel_rfl, ?y9⟩) hHeld ?_
  case y9 =>
    intro w0 hSw
    (try dsimp only at hSw)
    go_simp
    try with_reducible rfl
  try simp only [Act.put, qa13, qb13, qc13, qd13, qe13, qf13]
  refine wpAnyN_take (i := 1) (v := ?_) rfl (by kernel_rfl) (by kernel_rfl) (by kernel_rfl) (by kernel_rfl) (fun _ _ _ h => h) (Or.inl ⟨by kernel_rfl, ?y10⟩) hHeld ?_
  case y10 =>
    intro w0 hSw
    (try dsimp only at hSw)
    go_simp
    try with_reducible rfl
  try simp only [Act.put, qa13, qb13, qc13, qd13, qe13, qf13]
  refine wpAnyN_take (i := 2) (v := ?_) rfl (by kernel_rfl) (by kernel_rfl) (by kernel_rfl) (by kernel_rfl) (fun _ _ _ h => h) (Or.inl ⟨by kernel_rfl, ?y11⟩) hHeld ?_
  case y11 =>
    intro w0 hSw
    (try dsimp only at hSw)
    go_simp
    try with_reducible rfl
  try simp only [Act.put, qa13, qb13, qc13, qd13, qe13, qf13]
  refine wpAnyN_take (i := 3) (v := ?_) rfl (by kernel_rfl) (by kernel_rfl) (by kernel_rfl) (by kernel_rfl) (fun _ _ _ h => h) (Or.inl ⟨by kernel_rfl, ?y12⟩) hHeld ?_
  case y12 =>
    intro w0 hSw
    (try dsimp only at hSw)
    go_simp
    try with_reducible rfl
  try simp only [Act.put, qa13, qb13, qc13, qd13, qe13, qf13]
  refine wpAnyN_take (i := 4) (v := ?_) rfl (by kernel_rfl) (by kernel_rfl) (by kernel_rfl) (by kernel_rfl) (fun _ _ _ h => h) (Or.inl ⟨by kernel_rfl, ?y13⟩) hHeld ?_
  case y13 =>
    intro w0 hSw
    (try dsimp only at hSw)
    go_simp
    try with_reducible rfl
  try simp only [Act.put, qa13, qb13, qc13, qd13, qe13, qf13]
  refine wpAnyN_take (i := 5) (v := ?_) rfl (by kernel_rfl) (by kernel_rfl) (by kernel_rfl) (by kernel_rfl) (fun _ _ _ h => h) (Or.inl ⟨by kernel_rfl, ?y14⟩) hHeld ?_
  case y14 =>
    intro w0 hSw
    (try dsimp only at hSw)
    go_simp
    try with_reducible rfl
  try simp only [Act.put, qa13, qb13, qc13, qd13, qe13, qf13]
  refine wpAnyN_step (i := 6) (by kernel_rfl) rfl (fun K hK => ?_)
  have hb7 := bel1 w4.drew (.cells #[.slice A l.length c, .slice (some ⟨g2, 0, none⟩) (l.length + 64) gc2, .slice none 0 0, .int .i64 (n0 + 1), .bool true] 108)
  go_simp
  refine hK.out _ _ (fun _ => hSP.out _ (hb7.block kb hk4l) (hb7.block _ hp4l)) ?_
  clear hK K
  try simp only [Act.put, qa13, qb13, qc13, qd13, qe13, qf13]
  have hHeld := hSP.out _ (hb7.block kb hk4l) (hb7.block _ hp4l)
  have how7 : (w4.drew.alloc (.cells #[.slice A l.length c, .slice (some ⟨g2, 0, none⟩) (l.length + 64) gc2, .slice none 0 0, .int .i64 (n0 + 1), .bool true] 108)).ownsRow 0 108 5 (.slice TA ps.length tc) ps.length (ps.map Pg.cells).flatten := ownsRow_keep HB.out.pages.own fun q hq => by
    have hql := (HB.out.pages.own.lt q hq).2
    have hc4 := HX4.out.1
    have s4 := hc4.size
    rw [hb7.block q (Nat.lt_of_lt_of_le hql s4)]
    refine hc4.block q hql fun e => ?_
    rcases e with e | e
    · exact HTOP.out q hq e
    · exact (HLB.out q e).2.2 (.inl hq)
  refine wpAnyN_step (i := 7) (by kernel_rfl) rfl (fun K hK => ?_)
  refine step_append_keeps rfl _ _ 35 rfl 0 108 ip (.agg #[.slice none 0 0, .slice none 0 0, .slice none 0 0, .int .i64 0, .bool false]) 5 88 Tryz.underlying35 hip hip0 hip1 hip2 rfl (by decide) (.slice TA ps.length tc) ps.length (ps.map Pg.cells).flatten (by simp [Act.eval, Act.put]) how7 ⟨w4.heap.size, 0, none⟩ 1 1 [.slice A l.length c, .slice (some ⟨g2, 0, none⟩) (l.length + 64) gc2, .slice none 0 0, .int .i64 (n0 + 1), .bool true] (by simp [Act.eval, Act.put]) rfl (World.news_of_block (World.alloc_heap_new w4.drew _)) (page_one _ _ _ _ _ rfl rfl _ _) (by decide) HR.out.1 HR.out.2 (Nat.zero_le _) ?_
  intro g cap w8 hown8 hgrow8 hat8
  have hk8 := (hgrow8.block kb (Nat.lt_of_lt_of_le hk4l hb7.size) fun e => HTOP.out kb e.symm rfl).trans (hb7.block kb hk4l)
  have hp8 := (hgrow8.block w6.heap.size (Nat.lt_of_lt_of_le hp4l hb7.size) fun e => by
    have := (HB.out.pages.own.lt _ e.symm).2
    have hs6 := HS66.out
    omega).trans (hb7.block _ hp4l)
  have hHeld8 := hSP.out w8 hk8 hp8
  refine hK.out _ _ (fun _ => hHeld8) ?_
  clear hK K hHeld how7
  try simp only [Act.put, qa13, qb13, qc13, qd13, qe13, qf13]
  have hHeld := hHeld8
  clear hHeld8
  refine wpAnyN_step (i := 8) (by kernel_rfl) rfl (fun K hK => ?_)
  go_simp
  refine hK.out _ _ (fun _ => hHeld) ?_
  clear hK K
  try simp only [Act.put, qa13, qb13, qc13, qd13, qe13, qf13]
  refine wpAnyN_step (i := 9) (by kernel_rfl) rfl (fun K hK => ?_)
  go_simp
  refine hK.out _ _ (fun _ => hHeld) ?_
  clear hK K
  try simp only [Act.put, qa13, qb13, qc13, qd13, qe13, qf13]
  refine wpAnyN_step (i := 10) (by kernel_rfl) rfl (fun K hK => ?_)
  have f8 := frozen_blk (hk8.trans HX4.out.2.1) 8
  go_simp
  refine hK.out _ _ (fun h => absurd h (by decide)) ?_
  clear hK K
  try simp only [Act.put, qa13, qb13, qc13, qd13, qe13, qf13]
  refine wpAnyN_done (by kernel_rfl) ?_ _
  have HD := Lib.hid (write_doneA HB.out hn0 hps HL.out hlen HLB.out hkg HX4.out.1 HX4.out.2.1 HX4.out.2.2.1 HX4.out.2.2.2.1 HX4.out.2.2.2.2 hown8 hgrow8 hat8)
  clear hown8 hgrow8 hat8 hHeld
  go_wp2
  go_end0
  exact ⟨rfl, _, by as_aux_lemma => exact HD.out⟩
end Go.Proofs.YtplocldnklccfaaGreatDoor
namespace Go.Proofs.YtplocldnklccfaaGreatDoor
open Go.RowKit
set_option linter.unusedVariables false
set_option linter.unusedSimpArgs false

/-- No list of another kind is kept. -/
def BookNil2 (bc : Array Value) : Prop := ∀ i, i ∈ [1, 2, 3, 5, 6, 7, 9, 10, 11, 12, 13, 14, 15, 16, 17, 18, 19, 20] → bc[i]? = some (.slice none 0 0)
theorem nilc2 {w : World} {kb : Nat} {bc : Array Value} (h : w.heap[kb]? = some (.cells bc 49 (0, 0))) (hn : BookNil2 bc) (i : Nat) (hi : i ∈ [1, 2, 3, 5, 6, 7, 9, 10, 11, 12, 13, 14, 15, 16, 17, 18, 19, 20]) : w.cell? ⟨kb, i, none⟩ = some (.slice none 0 0) := by
  rw [cell_of_blk h]
  exact hn i hi
theorem BookNil2.set {bc : Array Value} (h : BookNil2 bc) (u v : Value) (j : Nat) (hj : j = 4 ∨ j = 8) : BookNil2 ((bc.setIfInBounds 0 u).setIfInBounds j v) := fun i hi => by
  have h0 : i ≠ 0 := by rintro rfl; simp at hi
  have h4 : i ≠ j := by rintro rfl; rcases hj with rfl | rfl <;> simp at hi
  rw [Array.getElem?_setIfInBounds, if_neg (Ne.symm h4), Array.getElem?_setIfInBounds, if_neg (Ne.symm h0)]
  exact h i hi
section
variable {w w' : World} {kb : Nat} {bc bc' : Array Value} {Tv Av : Value} {ps : List (Pg ByteArray)} {qs : List (Pg Acct)} {G : Nat → Prop}
theorem BookT.other (h : BookT w kb bc Tv ps) (hb : w'.heap[kb]? = some (.cells bc' 49 (0, 0))) (h4 : bc'[4]? = some Tv) (hc : Ch G w w') (hG : ∀ q, G q → ¬ BookF Tv ps q ∧ q ≠ 3) : BookT w' kb bc' Tv ps where
  blk := hb
  c4 := h4
  pages := h.pages.ch hc (fun j hj q hq hg => (hG q hg).1 (.inr ⟨j, hj, hq⟩)) fun q hq hg => (hG q hg).1 (.inl hq)
  out := h.out
  tout := h.tout
  pow := h.pow.ch hc fun q hq => (hG q hq).2
  ids := h.ids
  len := h.len
theorem BookA.other (h : BookA w kb bc Av qs) (hb : w'.heap[kb]? = some (.cells bc' 49 (0, 0))) (h8 : bc'[8]? = some Av) (hc : Ch G w w') (hG : ∀ q, G q → ¬ BookFA Av qs q ∧ q ≠ 3) : BookA w' kb bc' Av qs where
  blk := hb
  c8 := h8
  pages := h.pages.ch hc (fun j hj q hq hg => (hG q hg).1 (.inr ⟨j, hj, hq⟩)) fun q hq hg => (hG q hg).1 (.inl hq)
  out := h.out
  tout := h.tout
  pow := h.pow.ch hc fun q hq => (hG q hq).2
  ids := h.ids
  len := h.len
theorem BookT.F_lt (h : BookT w kb bc Tv ps) {q : Nat} (hq : BookF Tv ps q) : q < w.heap.size ∧ q ≠ kb ∧ q ≠ 3 := by
  rcases hq with hq | ⟨j, hj, hq⟩
  · exact ⟨(h.pages.own.lt q hq).2, h.tout q hq⟩
  · exact ⟨h.pages.lt j hj q hq, h.out j hj q hq⟩
theorem BookA.F_lt (h : BookA w kb bc Av qs) {q : Nat} (hq : BookFA Av qs q) : q < w.heap.size ∧ q ≠ kb ∧ q ≠ 3 := by
  rcases hq with hq | ⟨j, hj, hq⟩
  · exact ⟨(h.pages.own.lt q hq).2, h.tout q hq⟩
  · exact ⟨h.pages.lt j hj q hq, h.out j hj q hq⟩
theorem KeepInv.F {f : PageV ByteArray → PageV ByteArray} {k : Nat} {rs : List (Pg ByteArray)} (h : KeepInv w kb bc Tv f ps w' k rs) {q : Nat} (hq : BookF Tv rs q) : BookF Tv ps q ∨ w.heap.size ≤ q := by
  rcases hq with hq | ⟨j, hj, hq⟩
  · exact .inl (.inl hq)
  · have hj' : j < ps.length := by rw [← h.tur.len]; exact hj
    rcases h.tur.inF j hj hj' q hq with h1 | h1
    · exact .inl (.inr ⟨j, hj', h1⟩)
    · exact .inr h1
theorem KeepInvA.F {f : PageV Acct → PageV Acct} {k : Nat} {rs : List (Pg Acct)} (h : KeepInvA w kb bc Av f qs w' k rs) {q : Nat} (hq : BookFA Av rs q) : BookFA Av qs q ∨ w.heap.size ≤ q := by
  rcases hq with hq | ⟨j, hj, hq⟩
  · exact .inl (.inl hq)
  · have hj' : j < qs.length := by rw [← h.tur.len]; exact hj
    rcases h.tur.inF j hj hj' q hq with h1 | h1
    · exact .inl (.inr ⟨j, hj', h1⟩)
    · exact .inr h1
/-- Both kinds of lists, apart from one another. -/
structure Both (w : World) (kb : Nat) (bc : Array Value) (Tv : Value) (ps : List (Pg ByteArray)) (Av : Value) (qs : List (Pg Acct)) : Prop where
  t : BookT w kb bc Tv ps
  a : BookA w kb bc Av qs
  dis : ∀ q, BookF Tv ps q → ¬ BookFA Av qs q
theorem Both.below (h : Both w kb bc Tv ps Av qs) (hb : Below w.heap.size w w') : Both w' kb bc Tv ps Av qs := ⟨h.t.below hb, h.a.below hb, h.dis⟩
theorem Both.turnT {f : PageV ByteArray → PageV ByteArray} {k : Nat} {rs : List (Pg ByteArray)} (h : Both w kb bc Tv ps Av qs) (hi : KeepInv w kb bc Tv f ps w' k rs) : Both w' kb bc Tv rs Av qs where
  t := hi.book
  a := h.a.other hi.book.blk h.a.c8 hi.ch fun q hq => ⟨h.dis q hq, (h.t.F_lt hq).2.2⟩
  dis := fun q hq hq' => by
    rcases hi.F hq with h1 | h1
    · exact h.dis q h1 hq'
    · have := (h.a.F_lt hq').1
      omega
theorem Both.turnA {f : PageV Acct → PageV Acct} {k : Nat} {rs : List (Pg Acct)} (h : Both w kb bc Tv ps Av qs) (hi : KeepInvA w kb bc Av f qs w' k rs) : Both w' kb bc Tv ps Av rs where
  t := h.t.other hi.book.blk h.t.c4 hi.ch fun q hq => ⟨fun hq' => h.dis q hq' hq, (h.a.F_lt hq).2.2⟩
  a := hi.book
  dis := fun q hq hq' => by
    rcases hi.F hq' with h1 | h1
    · exact h.dis q hq h1
    · have := (h.t.F_lt hq).1
      omega
end

set_option maxRecDepth 100000 in
set_option maxHeartbeats 4000000 in
theorem Intact2_any {w : World} {kb : Nat} {bc : Array Value} {Tv Av : Value} {ps : List (Pg ByteArray)} {qs : List (Pg Acct)} (h : Both w kb bc Tv ps Av qs) (hn : BookNil2 bc) :
    Calls Tryz.prog 32 #[.pointer (some ⟨kb, 0, none⟩)] w fun e w' => e = .returned (.bool true) ∧ Below w.heap.size w w' := by
  have HB := Lib.hid h
  have HN := Lib.hid hn
  clear h hn
  go_enter Tryz.func32, Tryz.ntmps32
  go_wp2_with (first | (go_at_call 88; refine (intactBytes_nil (nilc2 HB.out.t.blk HN.out 1 (by decide))).mono ?_; rintro en wn ⟨rfl, hwn⟩; have hwn := hwn.symm; subst hwn) | (go_at_call 89; refine (intactInts_nil (nilc2 HB.out.t.blk HN.out 2 (by decide))).mono ?_; rintro en wn ⟨rfl, hwn⟩; have hwn := hwn.symm; subst hwn) | (go_at_call 90; refine (intactNums_nil (nilc2 HB.out.t.blk HN.out 3 (by decide))).mono ?_; rintro en wn ⟨rfl, hwn⟩; have hwn := hwn.symm; subst hwn))
  go_wp2_with (go_at_call 91; refine (intactTexts_any HB.out.t).mono ?_; rintro en w1 ⟨rfl, hb1⟩; have HC1 := Lib.hid hb1; have HB1 := Lib.hid (HB.out.below hb1); clear hb1)
  go_wp2_with (first | (go_at_call 92; refine (intactPostings_nil (nilc2 HB1.out.t.blk HN.out 5 (by decide))).mono ?_; rintro en wn ⟨rfl, hwn⟩; have hwn := hwn.symm; subst hwn) | (go_at_call 93; refine (intactClaims_nil (nilc2 HB1.out.t.blk HN.out 6 (by decide))).mono ?_; rintro en wn ⟨rfl, hwn⟩; have hwn := hwn.symm; subst hwn) | (go_at_call 94; refine (intactAllots_nil (nilc2 HB1.out.t.blk HN.out 7 (by decide))).mono ?_; rintro en wn ⟨rfl, hwn⟩; have hwn := hwn.symm; subst hwn))
  go_wp2_with (go_at_call 95; refine (intactAccounts_any HB1.out.a).mono ?_; rintro en w2 ⟨rfl, hb2⟩; have HC2 := Lib.hid hb2; have HB2 := Lib.hid (HB1.out.below hb2); clear hb2)
  go_wp2_with (first | (go_at_call 96; refine (intactBalances_nil (nilc2 HB2.out.t.blk HN.out 9 (by decide))).mono ?_; rintro en wn ⟨rfl, hwn⟩; have hwn := hwn.symm; subst hwn) | (go_at_call 97; refine (intactColumns_nil (nilc2 HB2.out.t.blk HN.out 10 (by decide))).mono ?_; rintro en wn ⟨rfl, hwn⟩; have hwn := hwn.symm; subst hwn) | (go_at_call 98; refine (intactDays_nil (nilc2 HB2.out.t.blk HN.out 11 (by decide))).mono ?_; rintro en wn ⟨rfl, hwn⟩; have hwn := hwn.symm; subst hwn) | (go_at_call 99; refine (intactLines_nil (nilc2 HB2.out.t.blk HN.out 12 (by decide))).mono ?_; rintro en wn ⟨rfl, hwn⟩; have hwn := hwn.symm; subst hwn) | (go_at_call 100; refine (intactCells_nil (nilc2 HB2.out.t.blk HN.out 13 (by decide))).mono ?_; rintro en wn ⟨rfl, hwn⟩; have hwn := hwn.symm; subst hwn) | (go_at_call 101; refine (intactSegments_nil (nilc2 HB2.out.t.blk HN.out 14 (by decide))).mono ?_; rintro en wn ⟨rfl, hwn⟩; have hwn := hwn.symm; subst hwn) | (go_at_call 102; refine (intactNodes_nil (nilc2 HB2.out.t.blk HN.out 15 (by decide))).mono ?_; rintro en wn ⟨rfl, hwn⟩; have hwn := hwn.symm; subst hwn) | (go_at_call 103; refine (intactEvents_nil (nilc2 HB2.out.t.blk HN.out 16 (by decide))).mono ?_; rintro en wn ⟨rfl, hwn⟩; have hwn := hwn.symm; subst hwn) | (go_at_call 104; refine (intactEntries_nil (nilc2 HB2.out.t.blk HN.out 17 (by decide))).mono ?_; rintro en wn ⟨rfl, hwn⟩; have hwn := hwn.symm; subst hwn) | (go_at_call 105; refine (intactFiles_nil (nilc2 HB2.out.t.blk HN.out 18 (by decide))).mono ?_; rintro en wn ⟨rfl, hwn⟩; have hwn := hwn.symm; subst hwn) | (go_at_call 106; refine (intactLists_nil (nilc2 HB2.out.t.blk HN.out 19 (by decide))).mono ?_; rintro en wn ⟨rfl, hwn⟩; have hwn := hwn.symm; subst hwn) | (go_at_call 107; refine (intactRows_nil (nilc2 HB2.out.t.blk HN.out 20 (by decide))).mono ?_; rintro en wn ⟨rfl, hwn⟩; have hwn := hwn.symm; subst hwn))
  go_ret
  exact ⟨rfl, HC1.out.trans (HC2.out.mono HC1.out.size)⟩

set_option maxRecDepth 100000 in
set_option maxHeartbeats 4000000 in
theorem Settle2_any {w : World} {kb : Nat} {bc : Array Value} {Tv Av : Value} {ps : List (Pg ByteArray)} {qs : List (Pg Acct)} (h : Both w kb bc Tv ps Av qs) (hn : BookNil2 bc) :
    Calls Tryz.prog 19 #[.pointer (some ⟨kb, 0, none⟩)] w fun e w' => e = .returned (.bool true) ∧ Ch (fun q => BookF Tv ps q ∨ BookFA Av qs q) w w' := by
  have HB := Lib.hid h
  have HN := Lib.hid hn
  clear h hn
  go_enter Tryz.func19, Tryz.ntmps19
  go_wp2_with (go_at_call 32; refine (Intact2_any HB.out HN.out).mono ?_; rintro en w1 ⟨rfl, hb1⟩; have HB1 := Lib.hid (HB.out.below hb1); have HC1 := Lib.hid hb1; clear hb1)
  go_wp2_with (first | (go_at_call 33; refine (fillBytes_nil (nilc2 HB1.out.t.blk HN.out 1 (by decide))).mono ?_; rintro en wn ⟨rfl, hwn⟩; have hwn := hwn.symm; subst hwn) | (go_at_call 34; refine (fillInts_nil (nilc2 HB1.out.t.blk HN.out 2 (by decide))).mono ?_; rintro en wn ⟨rfl, hwn⟩; have hwn := hwn.symm; subst hwn) | (go_at_call 35; refine (fillNums_nil (nilc2 HB1.out.t.blk HN.out 3 (by decide))).mono ?_; rintro en wn ⟨rfl, hwn⟩; have hwn := hwn.symm; subst hwn))
  go_wp2_with (go_at_call 36; refine (fillTexts_any HB1.out.t).mono ?_; rintro en w2 ⟨rfl, ps2, hq⟩; have HI2 := Lib.hid hq; have HB2 := Lib.hid (HB1.out.turnT hq); clear hq)
  go_wp2_with (first | (go_at_call 37; refine (fillPostings_nil (nilc2 HB2.out.t.blk HN.out 5 (by decide))).mono ?_; rintro en wn ⟨rfl, hwn⟩; have hwn := hwn.symm; subst hwn) | (go_at_call 38; refine (fillClaims_nil (nilc2 HB2.out.t.blk HN.out 6 (by decide))).mono ?_; rintro en wn ⟨rfl, hwn⟩; have hwn := hwn.symm; subst hwn) | (go_at_call 39; refine (fillAllots_nil (nilc2 HB2.out.t.blk HN.out 7 (by decide))).mono ?_; rintro en wn ⟨rfl, hwn⟩; have hwn := hwn.symm; subst hwn))
  go_wp2_with (go_at_call 40; refine (fillAccounts_any HB2.out.a).mono ?_; rintro en w3 ⟨rfl, qs3, hq⟩; have HI3 := Lib.hid hq; have HB3 := Lib.hid (HB2.out.turnA hq); clear hq)
  go_wp2_with (first | (go_at_call 41; refine (fillBalances_nil (nilc2 HB3.out.t.blk HN.out 9 (by decide))).mono ?_; rintro en wn ⟨rfl, hwn⟩; have hwn := hwn.symm; subst hwn) | (go_at_call 42; refine (fillColumns_nil (nilc2 HB3.out.t.blk HN.out 10 (by decide))).mono ?_; rintro en wn ⟨rfl, hwn⟩; have hwn := hwn.symm; subst hwn) | (go_at_call 43; refine (fillDays_nil (nilc2 HB3.out.t.blk HN.out 11 (by decide))).mono ?_; rintro en wn ⟨rfl, hwn⟩; have hwn := hwn.symm; subst hwn) | (go_at_call 44; refine (fillLines_nil (nilc2 HB3.out.t.blk HN.out 12 (by decide))).mono ?_; rintro en wn ⟨rfl, hwn⟩; have hwn := hwn.symm; subst hwn) | (go_at_call 45; refine (fillCells_nil (nilc2 HB3.out.t.blk HN.out 13 (by decide))).mono ?_; rintro en wn ⟨rfl, hwn⟩; have hwn := hwn.symm; subst hwn) | (go_at_call 46; refine (fillSegments_nil (nilc2 HB3.out.t.blk HN.out 14 (by decide))).mono ?_; rintro en wn ⟨rfl, hwn⟩; have hwn := hwn.symm; subst hwn) | (go_at_call 47; refine (fillNodes_nil (nilc2 HB3.out.t.blk HN.out 15 (by decide))).mono ?_; rintro en wn ⟨rfl, hwn⟩; have hwn := hwn.symm; subst hwn) | (go_at_call 48; refine (fillEvents_nil (nilc2 HB3.out.t.blk HN.out 16 (by decide))).mono ?_; rintro en wn ⟨rfl, hwn⟩; have hwn := hwn.symm; subst hwn) | (go_at_call 49; refine (fillEntries_nil (nilc2 HB3.out.t.blk HN.out 17 (by decide))).mono ?_; rintro en wn ⟨rfl, hwn⟩; have hwn := hwn.symm; subst hwn) | (go_at_call 50; refine (fillFiles_nil (nilc2 HB3.out.t.blk HN.out 18 (by decide))).mono ?_; rintro en wn ⟨rfl, hwn⟩; have hwn := hwn.symm; subst hwn) | (go_at_call 51; refine (fillLists_nil (nilc2 HB3.out.t.blk HN.out 19 (by decide))).mono ?_; rintro en wn ⟨rfl, hwn⟩; have hwn := hwn.symm; subst hwn) | (go_at_call 52; refine (fillRows_nil (nilc2 HB3.out.t.blk HN.out 20 (by decide))).mono ?_; rintro en wn ⟨rfl, hwn⟩; have hwn := hwn.symm; subst hwn))
  go_wp2_with (first | (go_at_call 53; refine (growBytes_nil (nilc2 HB3.out.t.blk HN.out 1 (by decide))).mono ?_; rintro en wn ⟨rfl, hwn⟩; have hwn := hwn.symm; subst hwn) | (go_at_call 54; refine (growInts_nil (nilc2 HB3.out.t.blk HN.out 2 (by decide))).mono ?_; rintro en wn ⟨rfl, hwn⟩; have hwn := hwn.symm; subst hwn) | (go_at_call 55; refine (growNums_nil (nilc2 HB3.out.t.blk HN.out 3 (by decide))).mono ?_; rintro en wn ⟨rfl, hwn⟩; have hwn := hwn.symm; subst hwn))
  have hdoneT : ∀ j (hj : j < ps2.length), ps2[j].v.done = true := fun j hj => by
    have hj' : j < ps.length := by rw [← HI2.out.tur.len]; exact hj
    rw [HI2.out.tur.lo j hj hj' hj']
    rfl
  have hdoneA : ∀ j (hj : j < qs3.length), qs3[j].v.done = true := fun j hj => by
    have hj' : j < qs.length := by rw [← HI3.out.tur.len]; exact hj
    rw [HI3.out.tur.lo j hj hj' hj']
    rfl
  have HDT := Lib.hid hdoneT
  have HDA := Lib.hid hdoneA
  clear hdoneT hdoneA
  go_wp2_with (go_at_call 56; refine (growTexts_any HB3.out.t HDT.out).mono ?_; rintro en w4 ⟨rfl, ps4, hq⟩; have HI4 := Lib.hid hq; have HB4 := Lib.hid (HB3.out.turnT hq); clear hq)
  go_wp2_with (first | (go_at_call 57; refine (growPostings_nil (nilc2 HB4.out.t.blk HN.out 5 (by decide))).mono ?_; rintro en wn ⟨rfl, hwn⟩; have hwn := hwn.symm; subst hwn) | (go_at_call 58; refine (growClaims_nil (nilc2 HB4.out.t.blk HN.out 6 (by decide))).mono ?_; rintro en wn ⟨rfl, hwn⟩; have hwn := hwn.symm; subst hwn) | (go_at_call 59; refine (growAllots_nil (nilc2 HB4.out.t.blk HN.out 7 (by decide))).mono ?_; rintro en wn ⟨rfl, hwn⟩; have hwn := hwn.symm; subst hwn))
  go_wp2_with (go_at_call 60; refine (growAccounts_any HB4.out.a HDA.out).mono ?_; rintro en w5 ⟨rfl, qs5, hq⟩; have HI5 := Lib.hid hq; have HB5 := Lib.hid (HB4.out.turnA hq); clear hq)
  go_wp2_with (first | (go_at_call 61; refine (growBalances_nil (nilc2 HB5.out.t.blk HN.out 9 (by decide))).mono ?_; rintro en wn ⟨rfl, hwn⟩; have hwn := hwn.symm; subst hwn) | (go_at_call 62; refine (growColumns_nil (nilc2 HB5.out.t.blk HN.out 10 (by decide))).mono ?_; rintro en wn ⟨rfl, hwn⟩; have hwn := hwn.symm; subst hwn) | (go_at_call 63; refine (growDays_nil (nilc2 HB5.out.t.blk HN.out 11 (by decide))).mono ?_; rintro en wn ⟨rfl, hwn⟩; have hwn := hwn.symm; subst hwn) | (go_at_call 64; refine (growLines_nil (nilc2 HB5.out.t.blk HN.out 12 (by decide))).mono ?_; rintro en wn ⟨rfl, hwn⟩; have hwn := hwn.symm; subst hwn) | (go_at_call 65; refine (growCells_nil (nilc2 HB5.out.t.blk HN.out 13 (by decide))).mono ?_; rintro en wn ⟨rfl, hwn⟩; have hwn := hwn.symm; subst hwn) | (go_at_call 66; refine (growSegments_nil (nilc2 HB5.out.t.blk HN.out 14 (by decide))).mono ?_; rintro en wn ⟨rfl, hwn⟩; have hwn := hwn.symm; subst hwn) | (go_at_call 67; refine (growNodes_nil (nilc2 HB5.out.t.blk HN.out 15 (by decide))).mono ?_; rintro en wn ⟨rfl, hwn⟩; have hwn := hwn.symm; subst hwn) | (go_at_call 68; refine (growEvents_nil (nilc2 HB5.out.t.blk HN.out 16 (by decide))).mono ?_; rintro en wn ⟨rfl, hwn⟩; have hwn := hwn.symm; subst hwn) | (go_at_call 69; refine (growEntries_nil (nilc2 HB5.out.t.blk HN.out 17 (by decide))).mono ?_; rintro en wn ⟨rfl, hwn⟩; have hwn := hwn.symm; subst hwn) | (go_at_call 70; refine (growFiles_nil (nilc2 HB5.out.t.blk HN.out 18 (by decide))).mono ?_; rintro en wn ⟨rfl, hwn⟩; have hwn := hwn.symm; subst hwn) | (go_at_call 71; refine (growLists_nil (nilc2 HB5.out.t.blk HN.out 19 (by decide))).mono ?_; rintro en wn ⟨rfl, hwn⟩; have hwn := hwn.symm; subst hwn) | (go_at_call 72; refine (growRows_nil (nilc2 HB5.out.t.blk HN.out 20 (by decide))).mono ?_; rintro en wn ⟨rfl, hwn⟩; have hwn := hwn.symm; subst hwn))
  go_wp2_with (go_at_call 32; refine (Intact2_any HB5.out HN.out).mono ?_; rintro en w6 ⟨rfl, hb6⟩; have HC6 := Lib.hid hb6; clear hb6)
  go_ret
  refine ⟨rfl, ?_⟩
  have s1 := HC1.out.size
  have s2 := HI2.out.ch.size
  have s3 := HI3.out.ch.size
  have s4 := HI4.out.ch.size
  have c1 := Ch.of_below (F := fun q => BookF Tv ps q ∨ BookFA Av qs q) HC1.out
  have c2 := c1.trans HI2.out.ch fun q hq => .inl (.inl hq)
  have c3 := c2.trans HI3.out.ch fun q hq => .inl (.inr hq)
  have c4 := c3.trans HI4.out.ch fun q hq => by
    rcases HI2.out.F hq with h1 | h1
    · exact .inl (.inl h1)
    · exact .inr (by omega)
  have c5 := c4.trans HI5.out.ch fun q hq => by
    rcases HI3.out.F hq with h1 | h1
    · exact .inl (.inr h1)
    · exact .inr (by omega)
  exact c5.below HC6.out

/-! ### A book of which nothing is said but which blocks it has -/
/-- A book that keeps lists: its blocks are of K; numbers up to n are used. -/
structure Kept (w : World) (kb n : Nat) (K : Nat → Prop) : Prop where
  ex : ∃ bc Tv ps Av qs n0, Both w kb bc Tv ps Av qs ∧ BookNil2 bc ∧ bc[0]? = some (.int .i64 n0) ∧ 0 ≤ n0 ∧ n0 ≤ (n : Int) ∧ (∀ q, BookF Tv ps q → K q) ∧ (∀ q, BookFA Av qs q → K q)
  kb : K kb
  lt : ∀ q, K q → q < w.heap.size
  pw : ∀ q, K q → q ≠ 3
  pow : Pow w
section
variable {w w' : World} {kb n : Nat} {K : Nat → Prop}
theorem Kept.below (h : Kept w kb n K) (hb : Below w.heap.size w w') : Kept w' kb n K := by
  obtain ⟨⟨bc, Tv, ps, Av, qs, n0, h1, h2⟩, h3, h4, h5, h6⟩ := h
  exact ⟨⟨bc, Tv, ps, Av, qs, n0, h1.below hb, h2⟩, h3, fun q hq => Nat.lt_of_lt_of_le (h4 q hq) hb.size, h5, h6.below hb⟩
theorem Kept.ch {G : Nat → Prop} (h : Kept w kb n K) (hc : Ch G w w') (hG : ∀ q, G q → ¬ K q ∧ q ≠ 3) : Kept w' kb n K := by
  obtain ⟨⟨bc, Tv, ps, Av, qs, n0, h1, h2, h7, h8, h9, h10, h11⟩, h3, h4, h5, h6⟩ := h
  have hblk := (hc.block kb (h4 kb h3) fun hg => (hG kb hg).1 h3).trans h1.t.blk
  exact ⟨⟨bc, Tv, ps, Av, qs, n0, ⟨h1.t.other hblk h1.t.c4 hc fun q hq => ⟨fun hf => (hG q hq).1 (h10 q hf), (hG q hq).2⟩, h1.a.other hblk h1.a.c8 hc fun q hq => ⟨fun hf => (hG q hq).1 (h11 q hf), (hG q hq).2⟩, h1.dis⟩, h2, h7, h8, h9, h10, h11⟩, h3,
    fun q hq => Nat.lt_of_lt_of_le (h4 q hq) hc.size, h5, h6.ch hc fun q hq => (hG q hq).2⟩
theorem Kept.mono {m : Nat} {K' : Nat → Prop} (h : Kept w kb n K) (hn : n ≤ m) (hk : ∀ q, K q → K' q) (hl : ∀ q, K' q → q < w.heap.size ∧ q ≠ 3) : Kept w kb m K' := by
  obtain ⟨⟨bc, Tv, ps, Av, qs, n0, h1, h2, h7, h8, h9, h10, h11⟩, h3, h4, h5, h6⟩ := h
  exact ⟨⟨bc, Tv, ps, Av, qs, n0, h1, h2, h7, h8, by omega, fun q hq => hk q (h10 q hq), fun q hq => hk q (h11 q hq)⟩, hk _ h3, fun q hq => (hl q hq).1, fun q hq => (hl q hq).2, h6⟩
theorem Kept.intact (h : Kept w kb n K) : Calls Tryz.prog 32 #[.pointer (some ⟨kb, 0, none⟩)] w fun e w' => e = .returned (.bool true) ∧ Below w.heap.size w w' := by
  obtain ⟨⟨bc, Tv, ps, Av, qs, n0, h1, h2, _⟩, _⟩ := h
  exact Intact2_any h1 h2
theorem Kept.settle (h : Kept w kb n K) : Calls Tryz.prog 19 #[.pointer (some ⟨kb, 0, none⟩)] w fun e w' => e = .returned (.bool true) ∧ Ch K w w' := by
  obtain ⟨⟨bc, Tv, ps, Av, qs, n0, h1, h2, _, _, _, h10, h11⟩, _⟩ := h
  exact (Settle2_any h1 h2).mono fun e w' ⟨he, hc⟩ => ⟨he, hc.mono fun q hq => hq.elim (h10 q) (h11 q)⟩
/-- What a list that goes into the book gives it. -/
def NewK (w w' : World) (K : Nat → Prop) (v : Value) (q : Nat) : Prop := K q ∨ v.ownBlock = some q ∨ (w.heap.size ≤ q ∧ q < w'.heap.size)

set_option maxRecDepth 100000 in
theorem keepTexts_full {w : World} {kb : Nat} {bc : Array Value} {Tv : Value} {ps : List (Pg ByteArray)} {v : Value} (h : BookT w kb bc Tv ps) (hps : ¬ ps.length < 96) : Calls Tryz.prog 17 #[.pointer (some ⟨kb, 0, none⟩), v] w fun e w' => e = .returned (.tuple #[]) ∧ Below w.heap.size w w' := by
  obtain ⟨TA, tc, rfl⟩ := own_form h.pages.own
  have b4 : w.cell? ⟨kb, 4, none⟩ = some (.slice TA ps.length tc) := by rw [cell_of_blk h.blk]; exact h.c4
  have hkl := heap_lt h.blk
  have hlt96 : ¬ (ps.length : Int) < 96 := by omega
  clear h
  go_enter Tryz.func17, Tryz.ntmps17
  go_wp2
  go_end0
  exact ⟨rfl, Below.refl _ _⟩
theorem Kept.keepTexts {A : Option Addr} {c B : Nat} {l : List ByteArray} (h : Kept w kb n K) (hn : n < 1048576) (hl : w.ownsRow B 9 1 (.slice A l.length c) l.length (l.map Value.string)) (hlen : l.length ≤ 1048576) (hlb : ∀ q, (Value.slice A l.length c).ownBlock = some q → ¬ K q ∧ q ≠ 3) :
    Calls Tryz.prog 17 #[.pointer (some ⟨kb, 0, none⟩), .slice A l.length c] w fun e w' => e = .returned (.tuple #[]) ∧ Kept w' kb (n + 1) (NewK w w' K (.slice A l.length c)) ∧ Ch (fun q => K q) w w' := by
  have hk0 := h.kb
  have hltK := h.lt
  have hpwK := h.pw
  have hpl := h.pow.lt
  have hK := h
  obtain ⟨⟨bc, Tv, ps, Av, qs, n0, h1, h2, h7, h8, h9, h10, h11⟩, h3, h4, h5, h6⟩ := h
  have hnew : ∀ (W : World), w.heap.size ≤ W.heap.size → ∀ q, NewK w W K (.slice A l.length c) q → q < W.heap.size ∧ q ≠ 3 := fun W hs q hq => by
    rcases hq with hq | hq | hq
    · exact ⟨Nat.lt_of_lt_of_le (hltK q hq) hs, hpwK q hq⟩
    · exact ⟨Nat.lt_of_lt_of_le (hl.lt q hq).2 hs, (hlb q hq).2⟩
    · exact ⟨hq.2, by omega⟩
  by_cases hps : ps.length < 96
  · refine (KeepTexts_any h1.t h7 ⟨h8, by omega⟩ hps hl hlen (fun q hq => ⟨fun e => (hlb q hq).1 (e ▸ h3), (hlb q hq).2, fun hf => (hlb q hq).1 (h10 q hf)⟩) (hpwK kb hk0)).mono ?_
    rintro e w' ⟨rfl, Tv', p, hb, hpv, hpF, hTv, hc⟩
    have hs := hc.size
    have hG : ∀ q, (q = kb ∨ Tv.ownBlock = some q ) → ¬ BookFA Av qs q ∧ q ≠ 3 := fun q hq => by
      rcases hq with rfl | hq
      · exact ⟨fun hf => (h1.a.F_lt hf).2.1 rfl, hpwK _ hk0⟩
      · exact ⟨fun hf => h1.dis q (.inl hq) hf, hpwK q (h10 q (.inl hq))⟩
    have hgr : ∀ q, BookF Tv' (ps ++ [p]) q → BookF Tv ps q ∨ (Value.slice A l.length c).ownBlock = some q ∨ w.heap.size ≤ q := fun q hq => by
      rcases hq with hq | ⟨j, hj, hq⟩
      · rcases hTv q hq with h | h
        · exact .inl (.inl h)
        · exact .inr (.inr h)
      · by_cases e : j < ps.length
        · rw [List.getElem_append_left e] at hq
          exact .inl (.inr ⟨j, e, hq⟩)
        · have hj2 : j = ps.length := by simp at hj; omega
          subst hj2
          simp at hq
          exact .inr (hpF q hq)
    have GROW : ∀ q, BookF Tv' (ps ++ [p]) q → NewK w w' K (.slice A l.length c) q := fun q hq => by
      rcases hgr q hq with h | h | h
      · exact .inl (h10 q h)
      · exact .inr (.inl h)
      · exact .inr (.inr ⟨h, (hb.F_lt hq).1⟩)
    have DD : ∀ q, BookF Tv' (ps ++ [p]) q → ¬ BookFA Av qs q := fun q hq hf => by
      rcases hgr q hq with h | h | h
      · exact h1.dis q h hf
      · exact (hlb q h).1 (h11 q hf)
      · have := (h1.a.F_lt hf).1
        omega
    refine ⟨rfl, ⟨⟨_, Tv', ps ++ [p], Av, qs, n0 + 1, ⟨hb, h1.a.other hb.blk (by rw [Array.getElem?_setIfInBounds, if_neg (by decide), Array.getElem?_setIfInBounds, if_neg (by decide)]; exact h1.a.c8) hc hG, fun q hq hf => DD q hq hf⟩, h2.set _ _ 4 (by decide), ?_, by omega, by omega, fun q hq => GROW q hq, fun q hq => .inl (h11 q hq)⟩, .inl hk0, fun q hq => (hnew w' hs q hq).1, fun q hq => (hnew w' hs q hq).2, hb.pow⟩, hc.mono ?_⟩
    · rw [Array.getElem?_setIfInBounds, if_neg (by decide), Array.getElem?_setIfInBounds, if_pos rfl, if_pos (Array.getElem?_eq_some_iff.1 h7).1]
    · intro q hq
      rcases hq with rfl | hq
      · exact hk0
      · exact h10 q (.inl hq)
  · refine (keepTexts_full h1.t hps).mono ?_
    rintro e w' ⟨rfl, hb⟩
    exact ⟨rfl, (hK.below hb).mono (by omega) (fun q hq => .inl hq) (hnew w' hb.size), Ch.of_below hb⟩
set_option maxRecDepth 100000 in
theorem writeTexts_full {w : World} {kb : Nat} {bc : Array Value} {Tv : Value} {ps : List (Pg ByteArray)} {v : Value} (h : BookT w kb bc Tv ps) (hps : ¬ ps.length < 96) : Calls Tryz.prog 18 #[.pointer (some ⟨kb, 0, none⟩), v] w fun e w' => e = .returned (.tuple #[]) ∧ Below w.heap.size w w' := by
  obtain ⟨TA, tc, rfl⟩ := own_form h.pages.own
  have b4 : w.cell? ⟨kb, 4, none⟩ = some (.slice TA ps.length tc) := by rw [cell_of_blk h.blk]; exact h.c4
  have hkl := heap_lt h.blk
  have hlt96 : ¬ (ps.length : Int) < 96 := by omega
  clear h
  go_enter Tryz.func18, Tryz.ntmps18
  go_wp2
  go_end0
  exact ⟨rfl, Below.refl _ _⟩
theorem Kept.writeTexts {A : Option Addr} {c B : Nat} {l : List ByteArray} (h : Kept w kb n K) (hn : n < 1048576) (hl : w.ownsRow B 9 1 (.slice A l.length c) l.length (l.map Value.string)) (hlen : l.length ≤ 1048576) (hlb : ∀ q, (Value.slice A l.length c).ownBlock = some q → ¬ K q ∧ q ≠ 3) :
    Calls Tryz.prog 18 #[.pointer (some ⟨kb, 0, none⟩), .slice A l.length c] w fun e w' => e = .returned (.tuple #[]) ∧ Kept w' kb (n + 1) (NewK w w' K (.slice A l.length c)) ∧ Ch (fun q => K q ∨ (Value.slice A l.length c).ownBlock = some q) w w' := by
  have hk0 := h.kb
  have hltK := h.lt
  have hpwK := h.pw
  have hpl := h.pow.lt
  have hK := h
  obtain ⟨⟨bc, Tv, ps, Av, qs, n0, h1, h2, h7, h8, h9, h10, h11⟩, h3, h4, h5, h6⟩ := h
  have hnew : ∀ (W : World), w.heap.size ≤ W.heap.size → ∀ q, NewK w W K (.slice A l.length c) q → q < W.heap.size ∧ q ≠ 3 := fun W hs q hq => by
    rcases hq with hq | hq | hq
    · exact ⟨Nat.lt_of_lt_of_le (hltK q hq) hs, hpwK q hq⟩
    · exact ⟨Nat.lt_of_lt_of_le (hl.lt q hq).2 hs, (hlb q hq).2⟩
    · exact ⟨hq.2, by omega⟩
  by_cases hps : ps.length < 96
  · refine (WriteTexts_any h1.t h7 ⟨h8, by omega⟩ hps hl hlen (fun q hq => ⟨fun e => (hlb q hq).1 (e ▸ h3), (hlb q hq).2, fun hf => (hlb q hq).1 (h10 q hf)⟩) (hpwK kb hk0)).mono ?_
    rintro e w' ⟨rfl, Tv', p, hb, hpv, hpF, hTv, hc⟩
    have hs := hc.size
    have hG : ∀ q, (q = kb ∨ Tv.ownBlock = some q ∨ (Value.slice A l.length c).ownBlock = some q) → ¬ BookFA Av qs q ∧ q ≠ 3 := fun q hq => by
      rcases hq with rfl | hq | hq
      · exact ⟨fun hf => (h1.a.F_lt hf).2.1 rfl, hpwK _ hk0⟩
      · exact ⟨fun hf => h1.dis q (.inl hq) hf, hpwK q (h10 q (.inl hq))⟩
      · exact ⟨fun hf => (hlb q hq).1 (h11 q hf), (hlb q hq).2⟩
    have hgr : ∀ q, BookF Tv' (ps ++ [p]) q → BookF Tv ps q ∨ (Value.slice A l.length c).ownBlock = some q ∨ w.heap.size ≤ q := fun q hq => by
      rcases hq with hq | ⟨j, hj, hq⟩
      · rcases hTv q hq with h | h
        · exact .inl (.inl h)
        · exact .inr (.inr h)
      · by_cases e : j < ps.length
        · rw [List.getElem_append_left e] at hq
          exact .inl (.inr ⟨j, e, hq⟩)
        · have hj2 : j = ps.length := by simp at hj; omega
          subst hj2
          simp at hq
          exact .inr (hpF q hq)
    have GROW : ∀ q, BookF Tv' (ps ++ [p]) q → NewK w w' K (.slice A l.length c) q := fun q hq => by
      rcases hgr q hq with h | h | h
      · exact .inl (h10 q h)
      · exact .inr (.inl h)
      · exact .inr (.inr ⟨h, (hb.F_lt hq).1⟩)
    have DD : ∀ q, BookF Tv' (ps ++ [p]) q → ¬ BookFA Av qs q := fun q hq hf => by
      rcases hgr q hq with h | h | h
      · exact h1.dis q h hf
      · exact (hlb q h).1 (h11 q hf)
      · have := (h1.a.F_lt hf).1
        omega
    refine ⟨rfl, ⟨⟨_, Tv', ps ++ [p], Av, qs, n0 + 1, ⟨hb, h1.a.other hb.blk (by rw [Array.getElem?_setIfInBounds, if_neg (by decide), Array.getElem?_setIfInBounds, if_neg (by decide)]; exact h1.a.c8) hc hG, fun q hq hf => DD q hq hf⟩, h2.set _ _ 4 (by decide), ?_, by omega, by omega, fun q hq => GROW q hq, fun q hq => .inl (h11 q hq)⟩, .inl hk0, fun q hq => (hnew w' hs q hq).1, fun q hq => (hnew w' hs q hq).2, hb.pow⟩, hc.mono ?_⟩
    · rw [Array.getElem?_setIfInBounds, if_neg (by decide), Array.getElem?_setIfInBounds, if_pos rfl, if_pos (Array.getElem?_eq_some_iff.1 h7).1]
    · intro q hq
      rcases hq with rfl | hq | hq
      · exact .inl hk0
      · exact .inl (h10 q (.inl hq))
      · exact .inr hq
  · refine (writeTexts_full h1.t hps).mono ?_
    rintro e w' ⟨rfl, hb⟩
    exact ⟨rfl, (hK.below hb).mono (by omega) (fun q hq => .inl hq) (hnew w' hb.size), Ch.of_below hb⟩
set_option maxRecDepth 100000 in
theorem keepAccounts_full {w : World} {kb : Nat} {bc : Array Value} {Tv : Value} {ps : List (Pg Acct)} {v : Value} (h : BookA w kb bc Tv ps) (hps : ¬ ps.length < 96) : Calls Tryz.prog 163 #[.pointer (some ⟨kb, 0, none⟩), v] w fun e w' => e = .returned (.tuple #[]) ∧ Below w.heap.size w w' := by
  obtain ⟨TA, tc, rfl⟩ := own_form h.pages.own
  have b4 : w.cell? ⟨kb, 8, none⟩ = some (.slice TA ps.length tc) := by rw [cell_of_blk h.blk]; exact h.c8
  have hkl := heap_lt h.blk
  have hlt96 : ¬ (ps.length : Int) < 96 := by omega
  clear h
  go_enter Tryz.func163, Tryz.ntmps163
  go_wp2
  go_end0
  exact ⟨rfl, Below.refl _ _⟩
theorem Kept.keepAccounts {A : Option Addr} {c B : Nat} {l : List Acct} (h : Kept w kb n K) (hn : n < 1048576) (hl : w.ownsRow B 159 4 (.slice A l.length c) l.length (l.map encA).flatten) (hlen : l.length ≤ 1048576) (hlb : ∀ q, (Value.slice A l.length c).ownBlock = some q → ¬ K q ∧ q ≠ 3) :
    Calls Tryz.prog 163 #[.pointer (some ⟨kb, 0, none⟩), .slice A l.length c] w fun e w' => e = .returned (.tuple #[]) ∧ Kept w' kb (n + 1) (NewK w w' K (.slice A l.length c)) ∧ Ch (fun q => K q) w w' := by
  have hk0 := h.kb
  have hltK := h.lt
  have hpwK := h.pw
  have hpl := h.pow.lt
  have hK := h
  obtain ⟨⟨bc, Tv, ps, Av, qs, n0, h1, h2, h7, h8, h9, h10, h11⟩, h3, h4, h5, h6⟩ := h
  have hnew : ∀ (W : World), w.heap.size ≤ W.heap.size → ∀ q, NewK w W K (.slice A l.length c) q → q < W.heap.size ∧ q ≠ 3 := fun W hs q hq => by
    rcases hq with hq | hq | hq
    · exact ⟨Nat.lt_of_lt_of_le (hltK q hq) hs, hpwK q hq⟩
    · exact ⟨Nat.lt_of_lt_of_le (hl.lt q hq).2 hs, (hlb q hq).2⟩
    · exact ⟨hq.2, by omega⟩
  by_cases hps : qs.length < 96
  · refine (KeepAccounts_any h1.a h7 ⟨h8, by omega⟩ hps hl hlen (fun q hq => ⟨fun e => (hlb q hq).1 (e ▸ h3), (hlb q hq).2, fun hf => (hlb q hq).1 (h11 q hf)⟩) (hpwK kb hk0)).mono ?_
    rintro e w' ⟨rfl, Tv', p, hb, hpv, hpF, hTv, hc⟩
    have hs := hc.size
    have hG : ∀ q, (q = kb ∨ Av.ownBlock = some q ) → ¬ BookF Tv ps q ∧ q ≠ 3 := fun q hq => by
      rcases hq with rfl | hq
      · exact ⟨fun hf => (h1.t.F_lt hf).2.1 rfl, hpwK _ hk0⟩
      · exact ⟨fun hf => h1.dis q hf (.inl hq), hpwK q (h11 q (.inl hq))⟩
    have hgr : ∀ q, BookFA Tv' (qs ++ [p]) q → BookFA Av qs q ∨ (Value.slice A l.length c).ownBlock = some q ∨ w.heap.size ≤ q := fun q hq => by
      rcases hq with hq | ⟨j, hj, hq⟩
      · rcases hTv q hq with h | h
        · exact .inl (.inl h)
        · exact .inr (.inr h)
      · by_cases e : j < qs.length
        · rw [List.getElem_append_left e] at hq
          exact .inl (.inr ⟨j, e, hq⟩)
        · have hj2 : j = qs.length := by simp at hj; omega
          subst hj2
          simp at hq
          exact .inr (hpF q hq)
    have GROW : ∀ q, BookFA Tv' (qs ++ [p]) q → NewK w w' K (.slice A l.length c) q := fun q hq => by
      rcases hgr q hq with h | h | h
      · exact .inl (h11 q h)
      · exact .inr (.inl h)
      · exact .inr (.inr ⟨h, (hb.F_lt hq).1⟩)
    have DD : ∀ q, BookFA Tv' (qs ++ [p]) q → ¬ BookF Tv ps q := fun q hq hf => by
      rcases hgr q hq with h | h | h
      · exact h1.dis q hf h
      · exact (hlb q h).1 (h10 q hf)
      · have := (h1.t.F_lt hf).1
        omega
    refine ⟨rfl, ⟨⟨_, Tv, ps, Tv', qs ++ [p], n0 + 1, ⟨h1.t.other hb.blk (by rw [Array.getElem?_setIfInBounds, if_neg (by decide), Array.getElem?_setIfInBounds, if_neg (by decide)]; exact h1.t.c4) hc hG, hb, fun q hf hq => DD q hq hf⟩, h2.set _ _ 8 (by decide), ?_, by omega, by omega, fun q hq => .inl (h10 q hq), fun q hq => GROW q hq⟩, .inl hk0, fun q hq => (hnew w' hs q hq).1, fun q hq => (hnew w' hs q hq).2, hb.pow⟩, hc.mono ?_⟩
    · rw [Array.getElem?_setIfInBounds, if_neg (by decide), Array.getElem?_setIfInBounds, if_pos rfl, if_pos (Array.getElem?_eq_some_iff.1 h7).1]
    · intro q hq
      rcases hq with rfl | hq
      · exact hk0
      · exact h11 q (.inl hq)
  · refine (keepAccounts_full h1.a hps).mono ?_
    rintro e w' ⟨rfl, hb⟩
    exact ⟨rfl, (hK.below hb).mono (by omega) (fun q hq => .inl hq) (hnew w' hb.size), Ch.of_below hb⟩
set_option maxRecDepth 100000 in
theorem writeAccounts_full {w : World} {kb : Nat} {bc : Array Value} {Tv : Value} {ps : List (Pg Acct)} {v : Value} (h : BookA w kb bc Tv ps) (hps : ¬ ps.length < 96) : Calls Tryz.prog 164 #[.pointer (some ⟨kb, 0, none⟩), v] w fun e w' => e = .returned (.tuple #[]) ∧ Below w.heap.size w w' := by
  obtain ⟨TA, tc, rfl⟩ := own_form h.pages.own
  have b4 : w.cell? ⟨kb, 8, none⟩ = some (.slice TA ps.length tc) := by rw [cell_of_blk h.blk]; exact h.c8
  have hkl := heap_lt h.blk
  have hlt96 : ¬ (ps.length : Int) < 96 := by omega
  clear h
  go_enter Tryz.func164, Tryz.ntmps164
  go_wp2
  go_end0
  exact ⟨rfl, Below.refl _ _⟩
theorem Kept.writeAccounts {A : Option Addr} {c B : Nat} {l : List Acct} (h : Kept w kb n K) (hn : n < 1048576) (hl : w.ownsRow B 159 4 (.slice A l.length c) l.length (l.map encA).flatten) (hlen : l.length ≤ 1048576) (hlb : ∀ q, (Value.slice A l.length c).ownBlock = some q → ¬ K q ∧ q ≠ 3) :
    Calls Tryz.prog 164 #[.pointer (some ⟨kb, 0, none⟩), .slice A l.length c] w fun e w' => e = .returned (.tuple #[]) ∧ Kept w' kb (n + 1) (NewK w w' K (.slice A l.length c)) ∧ Ch (fun q => K q ∨ (Value.slice A l.length c).ownBlock = some q) w w' := by
  have hk0 := h.kb
  have hltK := h.lt
  have hpwK := h.pw
  have hpl := h.pow.lt
  have hK := h
  obtain ⟨⟨bc, Tv, ps, Av, qs, n0, h1, h2, h7, h8, h9, h10, h11⟩, h3, h4, h5, h6⟩ := h
  have hnew : ∀ (W : World), w.heap.size ≤ W.heap.size → ∀ q, NewK w W K (.slice A l.length c) q → q < W.heap.size ∧ q ≠ 3 := fun W hs q hq => by
    rcases hq with hq | hq | hq
    · exact ⟨Nat.lt_of_lt_of_le (hltK q hq) hs, hpwK q hq⟩
    · exact ⟨Nat.lt_of_lt_of_le (hl.lt q hq).2 hs, (hlb q hq).2⟩
    · exact ⟨hq.2, by omega⟩
  by_cases hps : qs.length < 96
  · refine (WriteAccounts_any h1.a h7 ⟨h8, by omega⟩ hps hl hlen (fun q hq => ⟨fun e => (hlb q hq).1 (e ▸ h3), (hlb q hq).2, fun hf => (hlb q hq).1 (h11 q hf)⟩) (hpwK kb hk0)).mono ?_
    rintro e w' ⟨rfl, Tv', p, hb, hpv, hpF, hTv, hc⟩
    have hs := hc.size
    have hG : ∀ q, (q = kb ∨ Av.ownBlock = some q ∨ (Value.slice A l.length c).ownBlock = some q) → ¬ BookF Tv ps q ∧ q ≠ 3 := fun q hq => by
      rcases hq with rfl | hq | hq
      · exact ⟨fun hf => (h1.t.F_lt hf).2.1 rfl, hpwK _ hk0⟩
      · exact ⟨fun hf => h1.dis q hf (.inl hq), hpwK q (h11 q (.inl hq))⟩
      · exact ⟨fun hf => (hlb q hq).1 (h10 q hf), (hlb q hq).2⟩
    have hgr : ∀ q, BookFA Tv' (qs ++ [p]) q → BookFA Av qs q ∨ (Value.slice A l.length c).ownBlock = some q ∨ w.heap.size ≤ q := fun q hq => by
      rcases hq with hq | ⟨j, hj, hq⟩
      · rcases hTv q hq with h | h
        · exact .inl (.inl h)
        · exact .inr (.inr h)
      · by_cases e : j < qs.length
        · rw [List.getElem_append_left e] at hq
          exact .inl (.inr ⟨j, e, hq⟩)
        · have hj2 : j = qs.length := by simp at hj; omega
          subst hj2
          simp at hq
          exact .inr (hpF q hq)
    have GROW : ∀ q, BookFA Tv' (qs ++ [p]) q → NewK w w' K (.slice A l.length c) q := fun q hq => by
      rcases hgr q hq with h | h | h
      · exact .inl (h11 q h)
      · exact .inr (.inl h)
      · exact .inr (.inr ⟨h, (hb.F_lt hq).1⟩)
    have DD : ∀ q, BookFA Tv' (qs ++ [p]) q → ¬ BookF Tv ps q := fun q hq hf => by
      rcases hgr q hq with h | h | h
      · exact h1.dis q hf h
      · exact (hlb q h).1 (h10 q hf)
      · have := (h1.t.F_lt hf).1
        omega
    refine ⟨rfl, ⟨⟨_, Tv, ps, Tv', qs ++ [p], n0 + 1, ⟨h1.t.other hb.blk (by rw [Array.getElem?_setIfInBounds, if_neg (by decide), Array.getElem?_setIfInBounds, if_neg (by decide)]; exact h1.t.c4) hc hG, hb, fun q hf hq => DD q hq hf⟩, h2.set _ _ 8 (by decide), ?_, by omega, by omega, fun q hq => .inl (h10 q hq), fun q hq => GROW q hq⟩, .inl hk0, fun q hq => (hnew w' hs q hq).1, fun q hq => (hnew w' hs q hq).2, hb.pow⟩, hc.mono ?_⟩
    · rw [Array.getElem?_setIfInBounds, if_neg (by decide), Array.getElem?_setIfInBounds, if_pos rfl, if_pos (Array.getElem?_eq_some_iff.1 h7).1]
    · intro q hq
      rcases hq with rfl | hq | hq
      · exact .inl hk0
      · exact .inl (h11 q (.inl hq))
      · exact .inr hq
  · refine (writeAccounts_full h1.a hps).mono ?_
    rintro e w' ⟨rfl, hb⟩
    exact ⟨rfl, (hK.below hb).mono (by omega) (fun q hq => .inl hq) (hnew w' hb.size), Ch.of_below hb⟩
end
end Go.Proofs.YtplocldnklccfaaGreatDoor
namespace Go.Proofs.YtplocldnklccfaaGreatDoor
open Go.RowKit Go.Shelf
set_option linter.unusedVariables false
set_option linter.unusedSimpArgs false

theorem bt2 {a b c : World} (h : Below a.heap.size a b) (k : Below b.heap.size b c) : Below a.heap.size a c := h.trans (k.mono h.size)
/-- Between two turns. -/
structure AskInv (W0 : World) (kb n : Nat) (K : Nat → Prop) (i : Value) (wr : World) (k : Nat) : Prop where
  le : k ≤ 2
  at_ : i = .int .i64 (k : Int)
  ch : Ch K W0 wr
  ex : ∃ Kk, Kept wr kb (n + 3 * k) Kk ∧ ∀ q, Kk q → K q ∨ W0.heap.size ≤ q

theorem names_len (L : List Acct) (n : ByteArray) : (namesL (kidsL L n)).length ≤ L.length := by
  unfold namesL kidsL
  rw [List.length_map]
  split
  · exact List.length_filter_le _ _
  · split
    · simp
    · exact List.length_filter_le _ _
theorem kids_both {w : World} {B e : Nat} {v : Value} {L : List Acct} (hv : Valid L) (n : ByteArray) (h : w.ownsRow B e 1 v (refKids L n).length (namesV (refKids L n))) : ∃ A c, v = .slice A (namesL (kidsL L n)).length c ∧ w.ownsRow B e 1 (.slice A (namesL (kidsL L n)).length c) (namesL (kidsL L n)).length ((namesL (kidsL L n)).map Value.string) := by
  rw [refKids_eq hv] at h
  exact names_own h
/-- What three lists leave that go into the book. -/
theorem put_three {wr w8 w9 w10 w11 : World} {K0 : Nat → Prop} {G1 G2 G3 : Nat → Prop} (hb : Below wr.heap.size wr w8) (c1 : Ch G1 w8 w9) (c2 : Ch G2 w9 w10) (c3 : Ch G3 w10 w11) (h1 : ∀ q, G1 q → K0 q ∨ wr.heap.size ≤ q) (h2 : ∀ q, G2 q → K0 q ∨ wr.heap.size ≤ q) (h3 : ∀ q, G3 q → K0 q ∨ wr.heap.size ≤ q) : Ch K0 wr w11 :=
  (((Ch.of_below hb).trans c1 h1).trans c2 h2).trans c3 h3

set_option maxRecDepth 100000 in
set_option maxHeartbeats 8000000 in
theorem asks_any {w : World} {cb rb kb n : Nat} {F R K : Nat → Prop} {L : List Acct} (h : SideAt w cb rb F R L) (hk : Kept w kb n K) (hd : ∀ q, F q ∨ R q → ¬ K q) (hn : n + 6 < 1048576) (name : ByteArray) :
    Calls Tryz.prog 77 #[.agg #[.pointer (some ⟨cb, 0, none⟩), .pointer (some ⟨rb, 0, none⟩)], .string name, .pointer (some ⟨kb, 0, none⟩)] w fun e w' => e = .returned (.bool true) ∧ Ch K w w' ∧ ∃ K', Kept w' kb (n + 6) K' ∧ ∀ q, K' q → K q ∨ w.heap.size ≤ q := by
  have H := Lib.hid h
  have HK := Lib.hid hk
  have HD := Lib.hid hd
  have hsz : ∀ a ∈ L, a.name.size ≤ 1048576 := fun a ha => by have := h.v.size ha; omega
  have HSZ := Lib.hid hsz
  have HLE := Lib.hid h.v.le
  have HFI := Lib.hid fun W (hb : Below w.heap.size w W) => Find_any (h.c.below hb) name
  have HRF := Lib.hid fun W (hb : Below w.heap.size w W) => refFind_any (h.r.below hb) name
  obtain ⟨x, hx⟩ : ∃ x, x = (findA L name).getD noA := ⟨_, rfl⟩
  obtain ⟨y, hy⟩ : ∃ y, y = (findA L name).isSome := ⟨_, rfl⟩
  rw [← hx, ← hy] at HFI HRF
  have HXY := Lib.hid (And.intro hx hy)
  have hcbl := heap_lt h.r.choose_spec.choose_spec.blk
  have hkl := hk.lt kb hk.kb
  unfold accV at HFI HRF
  clear hx hy hsz h hk hd
  obtain ⟨wa, hwa⟩ : ∃ wa, wa = w.alloc (.cells #[.pointer (some ⟨cb, 0, none⟩), .pointer (some ⟨rb, 0, none⟩)] 75) := ⟨_, rfl⟩
  have HBA : Hid (Below w.heap.size w wa ∧ wa.heap.size = w.heap.size + 1 ∧ wa.heap[w.heap.size]? = some (.cells #[.pointer (some ⟨cb, 0, none⟩), .pointer (some ⟨rb, 0, none⟩)] 75 (0, 0))) := Lib.hid (by rw [hwa]; exact ⟨bel1 w _, by simp, World.alloc_heap_new w _⟩)
  have HC := Lib.hid fun (W : World) (hb : W.heap[w.heap.size]? = wa.heap[w.heap.size]?) => (show W.cell? ⟨w.heap.size, 0, none⟩ = some (.pointer (some ⟨cb, 0, none⟩)) ∧ W.cell? ⟨w.heap.size, 1, none⟩ = some (.pointer (some ⟨rb, 0, none⟩)) from ⟨by rw [cell_of_blk (hb.trans HBA.out.2.2)]; rfl, by rw [cell_of_blk (hb.trans HBA.out.2.2)]; rfl⟩)
  go_enter Tryz.func77, Tryz.ntmps77
  obtain ⟨a0, a1⟩ := HC.out wa rfl
  rw [hwa] at a0 a1
  go_wp2_with (first
    | (go_at_call 156; rw [← hwa]; refine (HFI.out wa HBA.out.1).mono ?_; rintro e w1 ⟨rfl, hb1⟩; have s1 := hb1.size; obtain ⟨p0, p1⟩ := HC.out (w1.alloc (accO x)) ((Below.heap_alloc w1 _ _ (by have := HBA.out.2.1; omega)).trans (hb1.block _ (by have := HBA.out.2.1; omega))); have HB1 := Lib.hid hb1; clear hb1)
    | (go_at_call 157; have hB2 := HBA.out.1.trans ((HB1.out.alloc HB1.out.size (accO x)).mono HBA.out.1.size); refine (HRF.out _ hB2).mono ?_; rintro e w3 ⟨rfl, hb3⟩; have x0 := World.alloc_heap_new w1 (accO x); have x9 := (hb3.block _ (by simp)).trans x0; have c0 : w3.cell? ⟨w1.heap.size, 0, none⟩ = some (.string x.name) := (by rw [cell_of_blk x9]; rfl); have c1 : w3.cell? ⟨w1.heap.size, 1, none⟩ = some (.int .i64 x.typ) := (by rw [cell_of_blk x9]; rfl); have c2 : w3.cell? ⟨w1.heap.size, 2, none⟩ = some (.int .i64 x.opened) := (by rw [cell_of_blk x9]; rfl); have c3 : w3.cell? ⟨w1.heap.size, 3, none⟩ = some (.bool x.closed) := (by rw [cell_of_blk x9]; rfl); have HB3 := Lib.hid (hB2.trans (hb3.mono hB2.size)); have HBX := Lib.hid ((HB1.out.alloc HB1.out.size (accO x)).trans (hb3.mono (by simp; exact Nat.le_trans HB1.out.size (Nat.le_succ _)))); have hw1 : w1.heap.size < w3.heap.size := heap_lt x9; clear hb3 hB2 x0 x9))
  obtain ⟨W0, hW0⟩ : ∃ W0, w3.alloc (accO x) = W0 := ⟨_, rfl⟩
  have hB0 : Below w.heap.size w W0 := by rw [← hW0]; exact HB3.out.alloc HB3.out.size _
  have hbx : W0.heap[w.heap.size]? = wa.heap[w.heap.size]? := by
    have s1 := HB1.out.size
    have sa := HBA.out.2.1
    rw [← hW0]
    exact (Below.heap_alloc w3 _ _ (by have := HBX.out.size; omega)).trans (HBX.out.block _ (by omega))
  have hW1 := hW0
  unfold accO at hW1
  rw [hW1]
  have HB0 := Lib.hid (And.intro hB0 hbx)
  have HKL := Lib.hid hkl
  clear hW0 hW1 hB0 hbx hwa a0 a1 p0 p1 c0 c1 c2 c3 s1 hw1 hkl hcbl
  go_loopw [11] (fun i wr => ∃ k, AskInv W0 kb n K i wr k) (fun i _ => 2 - (intOf i).toNat)
  case atStart => exact ⟨0, by omega, rfl, Ch.refl _ _, K, HK.out.below HB0.out.1, fun q hq => .inl hq⟩
  case round =>
    obtain ⟨k, hk2, rfl, hch, Kk, hkp, hKk⟩ := hrel
    have hKb : ¬ K w.heap.size := fun hf => by have := HK.out.lt _ hf; omega
    have hb0l : w.heap.size < W0.heap.size := heap_lt (HB0.out.2.trans HBA.out.2.2)
    have hbr := (hch.block _ hb0l hKb).trans HB0.out.2
    have hb0r : w.heap.size < wr.heap.size := heap_lt (hbr.trans HBA.out.2.2)
    have HSD := Lib.hid ((H.out.below HB0.out.1).ch hch fun q hq => HD.out q hq)
    have HCR := Lib.hid fun (W : World) (hb : Below wr.heap.size wr W) => HC.out W ((hb.block _ hb0r).trans hbr)
    have HKP := Lib.hid (And.intro hkp hKk)
    have HCH := Lib.hid hch
    have HKR : Hid (kb < wr.heap.size) := Lib.hid (hkp.lt kb hkp.kb)
    have hl1 := names_len L name
    have hl2 := names_len L ⟨#[]⟩
    have hl3 := HLE.out
    have HL1 : Hid ((namesL (kidsL L name)).length ≤ 1048576) := Lib.hid (by omega)
    have HL2 : Hid ((namesL (kidsL L ⟨#[]⟩)).length ≤ 1048576) := Lib.hid (by omega)
    clear hch hkp hKk hKb hb0l hbr hb0r hl1 hl2
    obtain ⟨p0, p1⟩ := HCR.out wr (Below.refl _ _)
    by_cases hlt : k < 2
    case neg =>
      obtain rfl : k = 2 := by omega
      go_wp2_with (go_at_call 32; refine (HKP.out.1.intact).mono ?_; rintro e w9 ⟨rfl, hb9⟩; have HB9 := Lib.hid hb9; clear hb9)
      go_ret
      refine ⟨rfl, ((Ch.of_below HB0.out.1).trans HCH.out fun q hq => .inl hq).below HB9.out, Kk, (HKP.out.1.mono (by omega) (fun q hq => hq) fun q hq => ⟨HKP.out.1.lt q hq, HKP.out.1.pw q hq⟩).below HB9.out, fun q hq => ?_⟩
      rcases HKP.out.2 q hq with h1 | h1
      · exact .inl h1
      · exact .inr (Nat.le_trans HB0.out.1.size h1)
    go_wp2_with (go_at_call 158; with_reducible refine (Kids_any HSD.out.c name).mono ?_; rintro e w1 ⟨v1, rfl, o1, b1⟩; obtain ⟨A1, d1, rfl, n1⟩ := names_own o1; have H1 := Lib.hid (And.intro n1 b1); have r1 := b1; clear o1 n1 b1; obtain ⟨p0, p1⟩ := HCR.out w1 r1; have R1 := Lib.hid r1; clear r1)
    go_wp2_with (go_at_call 158; with_reducible refine (Kids_any (HSD.out.c.below R1.out) ⟨#[]⟩).mono ?_; rintro e w2 ⟨v2, rfl, o2, b2⟩; obtain ⟨A2, d2, rfl, n2⟩ := names_own o2; have H2 := Lib.hid (And.intro n2 b2); have r2 := bt2 R1.out b2; clear o2 n2 b2; obtain ⟨p0, p1⟩ := HCR.out w2 r2; have R2 := Lib.hid r2; clear r2)
    go_wp2_with (go_at_call 159; with_reducible refine (Accounts_own (HSD.out.c.below R2.out) HSD.out.v).mono ?_; rintro e w3 ⟨v3, rfl, ⟨a3, o3⟩, b3⟩; obtain ⟨A3, d3, rfl⟩ := own_form o3; have H3 := Lib.hid (And.intro o3 b3); have r3 := bt2 R2.out b3; clear a3 o3 b3; obtain ⟨p0, p1⟩ := HCR.out w3 r3; have R3 := Lib.hid r3; clear r3)
    go_wp2_with (go_at_call 160; with_reducible refine (refKids_any (HSD.out.r.below R3.out) HSZ.out name).mono ?_; rintro e w4 ⟨v4, rfl, o4, b4⟩; obtain ⟨A4, d4, rfl, n4⟩ := kids_both HSD.out.v name o4; have H4 := Lib.hid (And.intro n4 b4); have r4 := bt2 R3.out b4; clear o4 n4 b4; obtain ⟨p0, p1⟩ := HCR.out w4 r4; have R4 := Lib.hid r4; clear r4)
    have hT1 := (TxtAt.own H1.out.1).keep (bt2 H2.out.2 (bt2 H3.out.2 H4.out.2))
    have hT4 := TxtAt.own H4.out.1
    go_wp2_with (go_at_call 15; with_reducible refine (sameTexts_same (namesL (kidsL L name)) hT1 hT4 HL1.out).mono ?_; rintro e w5 ⟨rfl, m5, hw5⟩; have b5 : Below w4.heap.size w4 w5 := (by rw [hw5]; exact below_drewN (Below.refl _ _) _); have H5 := Lib.hid b5; have r5 := bt2 R4.out b5; clear hw5 b5 hT1 hT4; obtain ⟨p0, p1⟩ := HCR.out w5 r5; have R5 := Lib.hid r5; clear r5)
    go_wp2_with (go_at_call 160; with_reducible refine (refKids_any (HSD.out.r.below R5.out) HSZ.out ⟨#[]⟩).mono ?_; rintro e w6 ⟨v6, rfl, o6, b6⟩; obtain ⟨A6, d6, rfl, n6⟩ := kids_both HSD.out.v ⟨#[]⟩ o6; have H6 := Lib.hid (And.intro n6 b6); have r6 := bt2 R5.out b6; clear o6 n6 b6; obtain ⟨p0, p1⟩ := HCR.out w6 r6; have R6 := Lib.hid r6; clear r6)
    have hT2 := (TxtAt.own H2.out.1).keep (bt2 H3.out.2 (bt2 H4.out.2 (bt2 H5.out H6.out.2)))
    have hT6 := TxtAt.own H6.out.1
    go_wp2_with (go_at_call 15; with_reducible refine (sameTexts_same (namesL (kidsL L ⟨#[]⟩)) hT2 hT6 HL2.out).mono ?_; rintro e w7 ⟨rfl, m7, hw7⟩; have b7 : Below w6.heap.size w6 w7 := (by rw [hw7]; exact below_drewN (Below.refl _ _) _); have H7 := Lib.hid b7; have r7 := bt2 R6.out b7; clear hw7 b7 hT2 hT6; obtain ⟨p0, p1⟩ := HCR.out w7 r7; have R7 := Lib.hid r7; clear r7)
    go_wp2_with (go_at_call 162; with_reducible refine (refAccounts_any (HSD.out.r.below R7.out)).mono ?_; rintro e w8 ⟨v8, rfl, o8, b8⟩; obtain ⟨A8, d8, rfl⟩ := own_form o8; have H8 := Lib.hid (And.intro o8 b8); have r8 := bt2 R7.out b8; clear o8 b8; have R8 := Lib.hid r8; clear r8)
    have hA3 := (readsE_own H3.out.1).below (bt2 H4.out.2 (bt2 H5.out (bt2 H6.out.2 (bt2 H7.out H8.out.2))))
    have hA8 := readsE_own H8.out.1
    go_wp2_with (go_at_call 161; with_reducible refine (sameAccounts_same L hA3 hA8 (by omega)).mono ?_; rintro e w9 ⟨rfl, m9, hw9⟩; have b9 : Below w8.heap.size w8 w9 := (by rw [hw9]; exact below_drewN (Below.refl _ _) _); have H9 := Lib.hid b9; have r9 := bt2 R8.out b9; clear hw9 b9 hA3 hA8; have R9 := Lib.hid r9; clear r9)
    all_goals
      have c49 := bt2 H4.out.2 (bt2 H5.out (bt2 H6.out.2 (bt2 H7.out (bt2 H8.out.2 H9.out))))
      have o1 := ownsRow_keep (w' := w9) H1.out.1 fun q hq => (bt2 H2.out.2 (bt2 H3.out.2 c49)).block q (H1.out.1.lt q hq).2
      have o2 := ownsRow_keep (w' := w9) H2.out.1 fun q hq => (bt2 H3.out.2 c49).block q (H2.out.1.lt q hq).2
      have o3 := ownsRow_keep (w' := w9) H3.out.1 fun q hq => c49.block q (H3.out.1.lt q hq).2
      rw [show cellsA L = (L.map encA).flatten from by rw [← List.flatMap_def]; rfl] at o3
      have hpw := HKP.out.1.pow.lt
      have hkK := HKP.out.1.lt
      have e1 : ∀ q, (Value.slice A1 (namesL (kidsL L name)).length d1).ownBlock = some q → wr.heap.size ≤ q ∧ q < w1.heap.size := fun q hq => H1.out.1.lt q hq
      have e2 : ∀ q, (Value.slice A2 (namesL (kidsL L ⟨#[]⟩)).length d2).ownBlock = some q → w1.heap.size ≤ q ∧ q < w2.heap.size := fun q hq => H2.out.1.lt q hq
      have e3 : ∀ q, (Value.slice A3 L.length d3).ownBlock = some q → w2.heap.size ≤ q ∧ q < w3.heap.size := fun q hq => H3.out.1.lt q hq
      have s1 := H1.out.2.size
      have s2 := H2.out.2.size
      have s3 := H3.out.2.size
      have s9 := c49.size
      have HP9 := Lib.hid (HKP.out.1.below R9.out)
      have HO := Lib.hid (And.intro o1 (And.intro o2 (And.intro o3 (And.intro e1 (And.intro e2 e3)))))
      have HSS := Lib.hid (And.intro s1 (And.intro s2 (And.intro s3 (And.intro s9 (And.intro hpw hkK)))))
      clear c49 o1 o2 o3 e1 e2 e3 s1 s2 s3 s9 hpw hkK p0 p1
      have hn1 : n + 3 * k < 1048576 := by omega
      have hn2 : n + 3 * k + 1 < 1048576 := by omega
      have hn3 : n + 3 * k + 1 + 1 < 1048576 := by omega
      have hq1 : Hid (∀ q, (Value.slice A1 (namesL (kidsL L name)).length d1).ownBlock = some q → ¬ Kk q ∧ q ≠ 3) := Lib.hid fun q hq => by
        obtain ⟨s1, s2, s3, s9, hpw, hkK⟩ := HSS.out
        have := HO.out.2.2.2.1 q hq
        exact ⟨fun hf => by have := hkK q hf; omega, by omega⟩
    · have hk0 : k = 0 := by
        have h5 : ((k : Int) == 0) = true := by assumption
        simpa using h5
      subst hk0
      go_wp2_with (go_at_call 17; with_reducible refine (HP9.out.keepTexts hn1 HO.out.1 HL1.out hq1.out).mono ?_; rintro e wb ⟨rfl, kp1, ch1⟩; have HK1 := Lib.hid (And.intro kp1 ch1); clear kp1 ch1)
      have o2b := ownsRow_keep (w' := wb) HO.out.2.1 fun q hq => HK1.out.2.block q (HO.out.2.1.lt q hq).2 fun hf => by
        obtain ⟨s1, s2, s3, s9, hpw, hkK⟩ := HSS.out
        have h2 := HO.out.2.2.2.2.1 q hq
        have := hkK q hf; omega
      have o3b := ownsRow_keep (w' := wb) HO.out.2.2.1 fun q hq => HK1.out.2.block q (HO.out.2.2.1.lt q hq).2 fun hf => by
        obtain ⟨s1, s2, s3, s9, hpw, hkK⟩ := HSS.out
        have h2 := HO.out.2.2.2.2.2 q hq
        have := hkK q hf; omega
      have hq2 : Hid (∀ q, (Value.slice A2 (namesL (kidsL L ⟨#[]⟩)).length d2).ownBlock = some q → ¬ NewK w9 wb Kk (Value.slice A1 (namesL (kidsL L name)).length d1) q ∧ q ≠ 3) := Lib.hid fun q hq => by
        obtain ⟨s1, s2, s3, s9, hpw, hkK⟩ := HSS.out
        have h2 := HO.out.2.2.2.2.1 q hq
        refine ⟨fun hf => ?_, by omega⟩
        rcases hf with hf | hf | hf
        · have := hkK q hf; omega
        · have := HO.out.2.2.2.1 q hf; omega
        · omega
      have HO2 := Lib.hid (And.intro o2b o3b)
      clear o2b o3b
      go_wp2_with (go_at_call 17; with_reducible refine (HK1.out.1.keepTexts hn2 HO2.out.1 HL2.out hq2.out).mono ?_; rintro e wc ⟨rfl, kp2, ch2⟩; have HK2 := Lib.hid (And.intro kp2 ch2); clear kp2 ch2)
      have o3c := ownsRow_keep (w' := wc) HO2.out.2 fun q hq => HK2.out.2.block q (HO2.out.2.lt q hq).2 fun hf => by
        obtain ⟨s1, s2, s3, s9, hpw, hkK⟩ := HSS.out
        have h2 := HO.out.2.2.2.2.2 q hq
        have sb := HK1.out.2.size
        rcases hf with hf | hf | hf
        · have := hkK q hf; omega
        · have := HO.out.2.2.2.1 q hf; omega
        · omega
      have hq3 : Hid (∀ q, (Value.slice A3 L.length d3).ownBlock = some q → ¬ NewK wb wc (NewK w9 wb Kk (Value.slice A1 (namesL (kidsL L name)).length d1)) (Value.slice A2 (namesL (kidsL L ⟨#[]⟩)).length d2) q ∧ q ≠ 3) := Lib.hid fun q hq => by
        obtain ⟨s1, s2, s3, s9, hpw, hkK⟩ := HSS.out
        have h2 := HO.out.2.2.2.2.2 q hq
        have sb := HK1.out.2.size
        refine ⟨fun hf => ?_, by omega⟩
        rcases hf with (hf | hf | hf) | hf | hf
        · have := hkK q hf; omega
        · have := HO.out.2.2.2.1 q hf; omega
        · omega
        · have := HO.out.2.2.2.2.1 q hf; omega
        · omega
      have HO3 := Lib.hid o3c
      clear o3c
      go_wp2_with (go_at_call 163; with_reducible refine (HK2.out.1.keepAccounts hn3 HO3.out (by omega) hq3.out).mono ?_; rintro e wd ⟨rfl, kp3, ch3⟩; have HK3 := Lib.hid (And.intro kp3 ch3); clear kp3 ch3)
      go_roundw
      case rel =>
        obtain ⟨s1, s2, s3, s9, hpw, hkK⟩ := HSS.out
        have sb := HK1.out.2.size
        have sc := HK2.out.2.size
        have i1 : ∀ q, NewK w9 wb Kk (Value.slice A1 (namesL (kidsL L name)).length d1) q → Kk q ∨ wr.heap.size ≤ q := fun q hq => by
          rcases hq with hq | hq | hq
          · exact .inl hq
          · exact .inr (HO.out.2.2.2.1 q hq).1
          · exact .inr (by omega)
        have i2 : ∀ q, NewK wb wc (NewK w9 wb Kk (Value.slice A1 (namesL (kidsL L name)).length d1)) (Value.slice A2 (namesL (kidsL L ⟨#[]⟩)).length d2) q → Kk q ∨ wr.heap.size ≤ q := fun q hq => by
          rcases hq with hq | hq | hq
          · exact i1 q hq
          · exact .inr (by have := (HO.out.2.2.2.2.1 q hq).1; omega)
          · exact .inr (by omega)
        have i3 : ∀ q, NewK wc wd (NewK wb wc (NewK w9 wb Kk (Value.slice A1 (namesL (kidsL L name)).length d1)) (Value.slice A2 (namesL (kidsL L ⟨#[]⟩)).length d2)) (Value.slice A3 L.length d3) q → Kk q ∨ wr.heap.size ≤ q := fun q hq => by
          rcases hq with hq | hq | hq
          · exact i2 q hq
          · exact .inr (by have := (HO.out.2.2.2.2.2 q hq).1; omega)
          · exact .inr (by omega)
        have hw0 := HCH.out.size
        have c := put_three (K0 := Kk) R9.out HK1.out.2 HK2.out.2 HK3.out.2 (fun q hq => .inl hq) i1 i2
        refine ⟨1, by omega, by go_num, HCH.out.trans c fun q hq => HKP.out.2 q hq, _, HK3.out.1, fun q hq => ?_⟩
        rcases i3 q hq with h1 | h1
        · exact HKP.out.2 q h1
        · exact .inr (Nat.le_trans hw0 h1)
      case measure => simp [intOf]
    · have hk1 : k = 1 := by
        have h5 : ((k : Int) == 0) = false := by assumption
        have h6 : k ≠ 0 := by simpa using h5
        omega
      subst hk1
      go_wp2_with (go_at_call 18; with_reducible refine (HP9.out.writeTexts hn1 HO.out.1 HL1.out hq1.out).mono ?_; rintro e wb ⟨rfl, kp1, ch1⟩; have HK1 := Lib.hid (And.intro kp1 ch1); clear kp1 ch1)
      have o2b := ownsRow_keep (w' := wb) HO.out.2.1 fun q hq => HK1.out.2.block q (HO.out.2.1.lt q hq).2 fun hf => by
        obtain ⟨s1, s2, s3, s9, hpw, hkK⟩ := HSS.out
        have h2 := HO.out.2.2.2.2.1 q hq
        rcases hf with hf | hf
        · have := hkK q hf; omega
        · have := HO.out.2.2.2.1 q hf; omega
      have o3b := ownsRow_keep (w' := wb) HO.out.2.2.1 fun q hq => HK1.out.2.block q (HO.out.2.2.1.lt q hq).2 fun hf => by
        obtain ⟨s1, s2, s3, s9, hpw, hkK⟩ := HSS.out
        have h2 := HO.out.2.2.2.2.2 q hq
        rcases hf with hf | hf
        · have := hkK q hf; omega
        · have := HO.out.2.2.2.1 q hf; omega
      have hq2 : Hid (∀ q, (Value.slice A2 (namesL (kidsL L ⟨#[]⟩)).length d2).ownBlock = some q → ¬ NewK w9 wb Kk (Value.slice A1 (namesL (kidsL L name)).length d1) q ∧ q ≠ 3) := Lib.hid fun q hq => by
        obtain ⟨s1, s2, s3, s9, hpw, hkK⟩ := HSS.out
        have h2 := HO.out.2.2.2.2.1 q hq
        refine ⟨fun hf => ?_, by omega⟩
        rcases hf with hf | hf | hf
        · have := hkK q hf; omega
        · have := HO.out.2.2.2.1 q hf; omega
        · omega
      have HO2 := Lib.hid (And.intro o2b o3b)
      clear o2b o3b
      go_wp2_with (go_at_call 18; with_reducible refine (HK1.out.1.writeTexts hn2 HO2.out.1 HL2.out hq2.out).mono ?_; rintro e wc ⟨rfl, kp2, ch2⟩; have HK2 := Lib.hid (And.intro kp2 ch2); clear kp2 ch2)
      have o3c := ownsRow_keep (w' := wc) HO2.out.2 fun q hq => HK2.out.2.block q (HO2.out.2.lt q hq).2 fun hf => by
        obtain ⟨s1, s2, s3, s9, hpw, hkK⟩ := HSS.out
        have h2 := HO.out.2.2.2.2.2 q hq
        have sb := HK1.out.2.size
        rcases hf with (hf | hf | hf) | hf
        · have := hkK q hf; omega
        · have := HO.out.2.2.2.1 q hf; omega
        · omega
        · have := HO.out.2.2.2.2.1 q hf; omega
      have hq3 : Hid (∀ q, (Value.slice A3 L.length d3).ownBlock = some q → ¬ NewK wb wc (NewK w9 wb Kk (Value.slice A1 (namesL (kidsL L name)).length d1)) (Value.slice A2 (namesL (kidsL L ⟨#[]⟩)).length d2) q ∧ q ≠ 3) := Lib.hid fun q hq => by
        obtain ⟨s1, s2, s3, s9, hpw, hkK⟩ := HSS.out
        have h2 := HO.out.2.2.2.2.2 q hq
        have sb := HK1.out.2.size
        refine ⟨fun hf => ?_, by omega⟩
        rcases hf with (hf | hf | hf) | hf | hf
        · have := hkK q hf; omega
        · have := HO.out.2.2.2.1 q hf; omega
        · omega
        · have := HO.out.2.2.2.2.1 q hf; omega
        · omega
      have HO3 := Lib.hid o3c
      clear o3c
      go_wp2_with (go_at_call 164; with_reducible refine (HK2.out.1.writeAccounts hn3 HO3.out (by omega) hq3.out).mono ?_; rintro e wd ⟨rfl, kp3, ch3⟩; have HK3 := Lib.hid (And.intro kp3 ch3); clear kp3 ch3)
      go_roundw
      case rel =>
        obtain ⟨s1, s2, s3, s9, hpw, hkK⟩ := HSS.out
        have sb := HK1.out.2.size
        have sc := HK2.out.2.size
        have i1 : ∀ q, NewK w9 wb Kk (Value.slice A1 (namesL (kidsL L name)).length d1) q → Kk q ∨ wr.heap.size ≤ q := fun q hq => by
          rcases hq with hq | hq | hq
          · exact .inl hq
          · exact .inr (HO.out.2.2.2.1 q hq).1
          · exact .inr (by omega)
        have i2 : ∀ q, NewK wb wc (NewK w9 wb Kk (Value.slice A1 (namesL (kidsL L name)).length d1)) (Value.slice A2 (namesL (kidsL L ⟨#[]⟩)).length d2) q → Kk q ∨ wr.heap.size ≤ q := fun q hq => by
          rcases hq with hq | hq | hq
          · exact i1 q hq
          · exact .inr (by have := (HO.out.2.2.2.2.1 q hq).1; omega)
          · exact .inr (by omega)
        have i3 : ∀ q, NewK wc wd (NewK wb wc (NewK w9 wb Kk (Value.slice A1 (namesL (kidsL L name)).length d1)) (Value.slice A2 (namesL (kidsL L ⟨#[]⟩)).length d2)) (Value.slice A3 L.length d3) q → Kk q ∨ wr.heap.size ≤ q := fun q hq => by
          rcases hq with hq | hq | hq
          · exact i2 q hq
          · exact .inr (by have := (HO.out.2.2.2.2.2 q hq).1; omega)
          · exact .inr (by omega)
        have hw0 := HCH.out.size
        have c := put_three (K0 := Kk) R9.out HK1.out.2 HK2.out.2 HK3.out.2 (fun q hq => hq.elim .inl fun h => .inr (HO.out.2.2.2.1 q h).1) (fun q hq => hq.elim (i1 q) fun h => .inr (by have := (HO.out.2.2.2.2.1 q h).1; omega)) (fun q hq => hq.elim (i2 q) fun h => .inr (by have := (HO.out.2.2.2.2.2 q h).1; omega))
        refine ⟨2, by omega, by go_num, HCH.out.trans c fun q hq => HKP.out.2 q hq, _, HK3.out.1, fun q hq => ?_⟩
        rcases i3 q hq with h1 | h1
        · exact HKP.out.2 q h1
        · exact .inr (Nat.le_trans hw0 h1)
      case measure => simp [intOf]
end Go.Proofs.YtplocldnklccfaaGreatDoor
