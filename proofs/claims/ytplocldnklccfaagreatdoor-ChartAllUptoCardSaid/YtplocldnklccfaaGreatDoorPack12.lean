/- daybookkeep: a list of texts is kept. Printed by gen_keepput.py; daybookkeep: a list of accounts is kept. Printed by gen_kaput.py; daybookkeep: a list of texts is written over, appended to and kept. Printed by gen_keepput.py. -/
import Derived.Test.YtplocldnklccfaaGreatDoorPack11
namespace Go.Proofs.YtplocldnklccfaaGreatDoor
theorem qa12 {T : Type} (l : List T) (i : Nat) (a : T) : l.toArray.setIfInBounds i a = (l.set i a).toArray := List.setIfInBounds_toArray l i a
theorem qb12 {T : Type} {x : T} {xs : List T} {a : T} : (x :: xs).set 0 a = a :: xs := List.set_cons_zero
theorem qc12 {T : Type} {x : T} {xs : List T} {i : Nat} {a : T} : (x :: xs).set (i + 1) a = x :: xs.set i a := List.set_cons_succ
theorem qd12 {T : Type} {xs : List T} {i : Nat} (h : i < xs.toArray.size) : xs.toArray[i] = xs[i]'(by simpa using h) := List.getElem_toArray h
theorem qe12 {T : Type} (a : T) (ys : List T) (i : Nat) (h : i + 1 < (a :: ys).length) : (a :: ys)[i + 1] = ys[i]'(by simpa using h) := List.getElem_cons_succ a ys i h
theorem qf12 {T : Type} (a : T) (ys : List T) (h : 0 < (a :: ys).length) : (a :: ys)[0] = a := List.getElem_cons_zero a ys h
open Go.RowKit
set_option linter.unusedVariables false
set_option linter.unusedSimpArgs false

theorem info_page : (Tryz.prog.info? 68).map (fun i => (i.zero, i.size, i.bytes)) = some (some (.agg #[.slice none 0 0, .slice none 0 0, .slice none 0 0, .int .i64 0, .bool false]), 5, 88) := by kernel_rfl
theorem c4_of {bc : Array Value} {Tv Tv' u : Value} (h : bc[4]? = some Tv) : ((bc.setIfInBounds 0 u).setIfInBounds 4 Tv')[4]? = some Tv' := by
  have h4 := (Array.getElem?_eq_some_iff.1 h).1
  rw [Array.getElem?_setIfInBounds, if_pos rfl, if_pos (by simpa using h4)]
/-- A book with a page more. -/
theorem BookT.pushD {D : Nat → Prop} {w w8 : World} {kb : Nat} {bc : Array Value} {Tv Tv' u : Value} {ps : List (Pg ByteArray)} (h : BookT w kb bc Tv ps) (hps : ps.length < 96) (p : Pg ByteArray) (hc : Ch (fun q => q = kb ∨ Tv.ownBlock = some q ∨ D q) w w8) (hD : ∀ q, D q → q ≠ 3 ∧ ¬ BookF Tv ps q)
    (hkb : w8.heap[kb]? = some (.cells ((bc.setIfInBounds 0 u).setIfInBounds 4 Tv') 49 (0, 0))) (hown : w8.ownsRow 0 68 5 Tv' (ps.length + 1) ((ps.map Pg.cells).flatten ++ p.cells))
    (hTv : ∀ q, Tv'.ownBlock = some q → Tv.ownBlock = some q ∨ w.heap.size ≤ q) (hpg : PageT w8 p) (hpF : ∀ q, p.F q → q < w8.heap.size ∧ q ≠ kb ∧ q ≠ 3 ∧ ¬ BookF Tv ps q ∧ Tv'.ownBlock ≠ some q) (hid : 0 ≤ p.v.id ∧ p.v.id ≤ 1048576)
    (hkg : kb ≠ 3) : BookT w8 kb ((bc.setIfInBounds 0 u).setIfInBounds 4 Tv') Tv' (ps ++ [p]) := by
  have hkl := heap_lt h.blk
  have hpl := h.pow.lt
  have get : ∀ j (hj : j < (ps ++ [p]).length), (ps ++ [p])[j] = p ∨ ∃ hj' : j < ps.length, (ps ++ [p])[j] = ps[j] := fun j hj => by
    by_cases e : j < ps.length
    · exact .inr ⟨e, List.getElem_append_left e⟩
    · have e2 : j = ps.length := by simp at hj; omega
      exact .inl (by subst e2; simp)
  refine ⟨hkb, c4_of h.c4, h.pages.push (w' := w8) p (fun j hj q hq => hc.block q (h.pages.lt j hj q hq) ?_) hc.size hown (fun q hq => ⟨fun j hj hf => ?_, fun hf => (hpF q hf).2.2.2.2 hq⟩) hpg (fun q hq => (hpF q hq).1) (fun q hq j hj hf => (hpF q hq).2.2.2.1 (.inr ⟨j, hj, hf⟩)), ?_, ?_, h.pow.ch hc ?_, ?_, by rw [List.length_append]; exact hps⟩
  · rintro (e | e | e)
    · exact (h.out j hj q hq).1 e
    · exact h.pages.top j hj q hq e
    · exact (hD q e).2 (.inr ⟨j, hj, hq⟩)
  · rcases hTv q hq with e | e
    · exact h.pages.top j hj q hf e
    · exact absurd (h.pages.lt j hj q hf) (by omega)
  · intro j hj q hq
    rcases get j hj with e | ⟨hj', e⟩
    · rw [e] at hq
      exact ⟨(hpF q hq).2.1, (hpF q hq).2.2.1⟩
    · rw [e] at hq
      exact h.out j hj' q hq
  · intro q hq
    rcases hTv q hq with e | e
    · exact h.tout q e
    · exact ⟨by omega, by omega⟩
  · rintro q (rfl | e | e)
    · exact hkg
    · exact (h.tout q e).2
    · exact (hD q e).1
  · intro j hj
    rcases get j hj with e | ⟨hj', e⟩
    · rw [e]
      exact hid
    · rw [e]
      exact h.ids j hj'
theorem BookT.push {w w8 : World} {kb : Nat} {bc : Array Value} {Tv Tv' u : Value} {ps : List (Pg ByteArray)} (h : BookT w kb bc Tv ps) (hps : ps.length < 96) (p : Pg ByteArray) (hc : Ch (fun q => q = kb ∨ Tv.ownBlock = some q) w w8)
    (hkb : w8.heap[kb]? = some (.cells ((bc.setIfInBounds 0 u).setIfInBounds 4 Tv') 49 (0, 0))) (hown : w8.ownsRow 0 68 5 Tv' (ps.length + 1) ((ps.map Pg.cells).flatten ++ p.cells))
    (hTv : ∀ q, Tv'.ownBlock = some q → Tv.ownBlock = some q ∨ w.heap.size ≤ q) (hpg : PageT w8 p) (hpF : ∀ q, p.F q → q < w8.heap.size ∧ q ≠ kb ∧ q ≠ 3 ∧ ¬ BookF Tv ps q ∧ Tv'.ownBlock ≠ some q) (hid : 0 ≤ p.v.id ∧ p.v.id ≤ 1048576)
    (hkg : kb ≠ 3) : BookT w8 kb ((bc.setIfInBounds 0 u).setIfInBounds 4 Tv') Tv' (ps ++ [p]) :=
  h.pushD (D := fun _ => False) hps p (hc.mono fun q hq => hq.elim .inl fun e => .inr (.inl e)) (fun q hq => hq.elim) hkb hown hTv hpg hpF hid hkg

theorem id_any {w : World} {kb : Nat} {bc : Array Value} {n0 : Int} (hb : w.heap[kb]? = some (.cells bc 49 (0, 0))) (h0 : bc[0]? = some (.int .i64 n0)) (hn : 0 ≤ n0 ∧ n0 < 1048576) :
    Calls Tryz.prog 29 #[.pointer (some ⟨kb, 0, none⟩)] w fun e w' => e = .returned (.int .i64 (n0 + 1)) ∧ w' = w.setCell ⟨kb, 0, none⟩ (.int .i64 (n0 + 1)) := by
  have c0 : w.cell? ⟨kb, 0, none⟩ = some (.int .i64 n0) := by rw [cell_of_blk hb]; exact h0
  have f0 := frozen_blk hb 0
  have hwk : wrap64 (n0 + 1) = n0 + 1 := by unfold wrap64; omega
  go_enter Tryz.func29, Tryz.ntmps29
  go_wp2
  go_ret
  exact ⟨rfl, rfl⟩
theorem own_empty (w : World) (e : TypeId) : (w.alloc (.cells #[] e (0, 0))).ownsRow w.heap.size e 1 (.slice (some ⟨w.heap.size, 0, none⟩) 0 0) 0 [] :=
  ⟨rfl, .inr ⟨w.heap.size, 0, #[], rfl, Nat.le_refl _, World.alloc_heap_new w _, Nat.le_refl _, Nat.zero_le _, rfl, rfl⟩⟩
theorem encT_all (xs : List ByteArray) : ∀ x ∈ xs.map encT, x.length = 1 := fun x hx => by
  obtain ⟨z, _, rfl⟩ := List.mem_map.1 hx
  rfl
theorem encT_one (xs : List ByteArray) : ∀ x ∈ xs.map encT, ∀ u ∈ x, u.oneCell' = true := fun x hx u hu => by
  obtain ⟨z, _, rfl⟩ := List.mem_map.1 hx
  simp [encT] at hu
  subst hu
  rfl
theorem page_one (A : Option Addr) (n c : Nat) (G W : Value) (hG : G.oneCell' = true) (hW : W.oneCell' = true) (id : Int) (b : Bool) : ∀ u ∈ [.slice A n c, G, W, .int .i64 id, .bool b], u.oneCell' = true := fun u hu => by
  simp at hu
  rcases hu with rfl | rfl | rfl | rfl | rfl
  · rfl
  · exact hG
  · exact hW
  · rfl
  · rfl
theorem room96 {n : Nat} (h : n < 96) : n + 1 ≤ maxLen := by unfold maxLen; omega
theorem room96b {n : Nat} (h : n < 96) : (n + 1) * 88 ≤ 140737488355328 := by omega
theorem roomL {n : Nat} (h : n ≤ 1048576) : 0 + n ≤ maxLen := by unfold maxLen; omega
theorem roomLb {n : Nat} (h : n ≤ 1048576) : (0 + n) * 16 ≤ 140737488355328 := by omega

theorem keep_done {w w5 w6 w8 : World} {kb : Nat} {bc : Array Value} {TA A VA : Option Addr} {ps : List (Pg ByteArray)} {n0 : Int} {tc c vc B g cap : Nat} {l : List ByteArray} {o : Obj} (h : BookT w kb bc (.slice TA ps.length tc) ps) (hn0 : 0 ≤ n0 ∧ n0 < 1048576) (hps : ps.length < 96)
    (hl : w.ownsRow B 9 1 (.slice A l.length c) l.length (l.map Value.string)) (hlen : l.length ≤ 1048576) (hlb : ∀ q, (Value.slice A l.length c).ownBlock = some q → q ≠ kb ∧ q ≠ 3 ∧ ¬ BookF (.slice TA ps.length tc) ps q) (hkg : kb ≠ 3)
    (hV : w5.ownsRow w.heap.size 9 1 (.slice VA l.length vc) l.length (l.map Value.string)) (hb5 : Below w.heap.size w w5) (hw6 : w6 = w5.setCell ⟨kb, 0, none⟩ (.int .i64 (n0 + 1)))
    (hown : w8.ownsRow 0 68 5 (.slice (some ⟨g, 0, none⟩) (ps.length + 1) cap) (ps.length + 1) ((ps.map Pg.cells).flatten ++ [.slice A l.length c, .slice none 0 0, .slice VA l.length vc, .int .i64 (n0 + 1), .bool false]))
    (hgr : (w6.alloc o).grownBy w8 (Value.slice TA ps.length tc).ownBlock) (hat : (Value.slice TA ps.length tc).ownBlock = some g ∨ (g = (w6.alloc o).heap.size ∧ (w6.alloc o).grownBy w8 none)) :
    ∃ p, BookT (w8.setCell ⟨kb, 4, none⟩ (.slice (some ⟨g, 0, none⟩) (ps.length + 1) cap)) kb ((bc.setIfInBounds 0 (.int .i64 (n0 + 1))).setIfInBounds 4 (.slice (some ⟨g, 0, none⟩) (ps.length + 1) cap)) (.slice (some ⟨g, 0, none⟩) (ps.length + 1) cap) (ps ++ [p]) ∧ p.v = ⟨n0 + 1, false, false, l⟩ ∧
      (∀ q, p.F q → (Value.slice A l.length c).ownBlock = some q ∨ w.heap.size ≤ q) ∧ (∀ q, (Value.slice (some ⟨g, 0, none⟩) (ps.length + 1) cap).ownBlock = some q → (Value.slice TA ps.length tc).ownBlock = some q ∨ w.heap.size ≤ q) ∧
      Ch (fun q => q = kb ∨ (Value.slice TA ps.length tc).ownBlock = some q) w (w8.setCell ⟨kb, 4, none⟩ (.slice (some ⟨g, 0, none⟩) (ps.length + 1) cap)) := by
  have hkl := heap_lt h.blk
  have hpl := h.pow.lt
  have s5 := hb5.size
  have s6 : w6.heap.size = w5.heap.size := by rw [hw6, World.size_setCell]
  have s7 : (w6.alloc o).heap.size = w6.heap.size + 1 := by rw [World.size_alloc]
  have s8 := hgr.size
  have hTl : ∀ q, (Value.slice TA ps.length tc).ownBlock = some q → q < w.heap.size := fun q hq => (h.pages.own.lt q hq).2
  have hc8 : Ch (fun q => q = kb ∨ (Value.slice TA ps.length tc).ownBlock = some q) w w8 := by
    have c6 := (Ch.of_below (F := fun q => q = kb ∨ (Value.slice TA ps.length tc).ownBlock = some q) hb5).setCell (p := ⟨kb, 0, none⟩) (.inl (.inl rfl)) (.int .i64 (n0 + 1))
    rw [← hw6] at c6
    exact (c6.alloc o).grown hgr fun k hk => .inl (.inr hk)
  have hc := hc8.setCell (p := ⟨kb, 4, none⟩) (.inl (.inl rfl)) (.slice (some ⟨g, 0, none⟩) (ps.length + 1) cap)
  have hk6 : w6.heap[kb]? = some (.cells (bc.setIfInBounds 0 (.int .i64 (n0 + 1))) 49 (0, 0)) := by rw [hw6]; exact heap_setCell_same ((hb5.block kb hkl).trans h.blk) _
  have hk8 : w8.heap[kb]? = some (.cells (bc.setIfInBounds 0 (.int .i64 (n0 + 1))) 49 (0, 0)) :=
    (hgr.block kb (by omega) fun e => (h.tout kb e.symm).1 rfl).trans ((Below.heap_alloc w6 o kb (by omega)).trans hk6)
  have hset := Below.heap_setCell w8 ⟨kb, 4, none⟩ (.slice (some ⟨g, 0, none⟩) (ps.length + 1) cap)
  have hgk : g ≠ kb := fun e => by
    rcases hat with h1 | ⟨h1, _⟩
    · exact (h.tout g h1).1 e
    · omega
  have hgT : ∀ q, (Value.slice (some ⟨g, 0, none⟩) (ps.length + 1) cap).ownBlock = some q → (Value.slice TA ps.length tc).ownBlock = some q ∨ w5.heap.size < q := fun q hq => by
    obtain rfl : g = q := Option.some.inj hq
    rcases hat with h1 | ⟨h1, _⟩
    · exact .inl h1
    · exact .inr (by omega)
  have hV8 : ∀ q, w.heap.size ≤ q → q < w5.heap.size → (w8.setCell ⟨kb, 4, none⟩ (.slice (some ⟨g, 0, none⟩) (ps.length + 1) cap)).heap[q]? = w5.heap[q]? := fun q h1 h2 => by
    rw [hset q (by show q ≠ kb; omega), hgr.block q (by omega) (fun e => by have := hTl q e.symm; omega), Below.heap_alloc w6 o q (by omega), hw6]
    exact Below.heap_setCell w5 ⟨kb, 0, none⟩ _ q (by show q ≠ kb; omega)
  have hVl : ∀ q, (Value.slice VA l.length vc).ownBlock = some q → w.heap.size ≤ q ∧ q < w5.heap.size := fun q hq => hV.lt q hq
  have hLl : ∀ q, (Value.slice A l.length c).ownBlock = some q → q < w.heap.size := fun q hq => (hl.lt q hq).2
  have hlT : ∀ q, (Value.slice A l.length c).ownBlock = some q → (Value.slice TA ps.length tc).ownBlock ≠ some q := fun q hq e => (hlb q hq).2.2 (.inl e)
  have hl0 : ∀ q, (Value.slice A l.length c).ownBlock = some q → ¬ (q = kb ∨ (Value.slice TA ps.length tc).ownBlock = some q) := fun q hq e => by
    rcases e with e | e
    · exact (hlb q hq).1 e
    · exact hlT q hq e
  have hcl : curL textF (⟨n0 + 1, false, false, l⟩ : PageV ByteArray) = l := rfl
  have hkeep := ownsRow_keep (w' := w8.setCell ⟨kb, 4, none⟩ (.slice (some ⟨g, 0, none⟩) (ps.length + 1) cap)) hl fun q hq => hc.block q (hLl q hq) (hl0 q hq)
  have hkeepV := ownsRow_keep (w' := w8.setCell ⟨kb, 4, none⟩ (.slice (some ⟨g, 0, none⟩) (ps.length + 1) cap)) hV fun q hq => hV8 q (hVl q hq).1 (hVl q hq).2
  refine ⟨⟨⟨n0 + 1, false, false, l⟩, .slice A l.length c, .slice none 0 0, .slice VA l.length vc, fun q => (Value.slice A l.length c).ownBlock = some q ∨ (Value.slice VA l.length vc).ownBlock = some q⟩, ?_, rfl, ?_, ?_, hc⟩
  · refine h.push hps _ hc (heap_setCell_same hk8 _) (ownsRow_keep hown fun q hq => hset q (by obtain rfl : g = q := Option.some.inj hq; exact hgk)) ?_ ?_ ?_ ⟨by show 0 ≤ n0 + 1; omega, by show n0 + 1 ≤ 1048576; omega⟩ hkg
    · intro q hq
      rcases hgT q hq with h1 | h1
      · exact .inl h1
      · exact .inr (by omega)
    · refine ⟨⟨A, c, rfl⟩, hlen, fun _ => ⟨?_, rfl⟩, fun _ => ⟨rfl, ?_, ?_⟩, fun hg => (by cases hg), ?_⟩
      · rw [hcl, flatT]
        exact own_base hkeep fun _ _ => Nat.zero_le _
      · rw [flatT]
        exact own_base hkeepV fun _ _ => Nat.zero_le _
      · intro q hq hq'
        have := hLl q hq
        have := (hVl q hq').1
        omega
      · intro q hq
        rcases hq with hq | hq | hq
        · exact .inl hq
        · cases hq
        · exact .inr hq
    · intro q hq
      rcases hq with hq | hq
      · refine ⟨?_, (hlb q hq).1, (hlb q hq).2.1, (hlb q hq).2.2, fun e => ?_⟩
        · rw [World.size_setCell]
          have := hLl q hq
          omega
        · rcases hgT q e with h1 | h1
          · exact hlT q hq h1
          · have := hLl q hq
            omega
      · have hv := hVl q hq
        refine ⟨?_, by omega, by omega, fun e => ?_, fun e => ?_⟩
        · rw [World.size_setCell]
          omega
        · rcases e with e | ⟨j, hj, e⟩
          · have := hTl q e
            omega
          · have := h.pages.lt j hj q e
            omega
        · rcases hgT q e with h1 | h1
          · have := hTl q h1
            omega
          · omega
  · intro q hq
    rcases hq with hq | hq
    · exact .inl hq
    · exact .inr (hVl q hq).1
  · intro q hq
    rcases hgT q hq with h1 | h1
    · exact .inl h1
    · exact .inr (by omega)

set_option maxRecDepth 100000 in
set_option maxHeartbeats 4000000 in
theorem KeepTexts_any {w : World} {kb : Nat} {bc : Array Value} {Tv : Value} {ps : List (Pg ByteArray)} {n0 : Int} {A : Option Addr} {c B : Nat} {l : List ByteArray} (h : BookT w kb bc Tv ps) (hb0 : bc[0]? = some (.int .i64 n0)) (hn0 : 0 ≤ n0 ∧ n0 < 1048576) (hps : ps.length < 96)
    (hl : w.ownsRow B 9 1 (.slice A l.length c) l.length (l.map Value.string)) (hlen : l.length ≤ 1048576) (hlb : ∀ q, (Value.slice A l.length c).ownBlock = some q → q ≠ kb ∧ q ≠ 3 ∧ ¬ BookF Tv ps q) (hkg : kb ≠ 3) :
    Calls Tryz.prog 17 #[.pointer (some ⟨kb, 0, none⟩), .slice A l.length c] w fun e w' => e = .returned (.tuple #[]) ∧ ∃ Tv' p, BookT w' kb ((bc.setIfInBounds 0 (.int .i64 (n0 + 1))).setIfInBounds 4 Tv') Tv' (ps ++ [p]) ∧ p.v = ⟨n0 + 1, false, false, l⟩ ∧
      (∀ q, p.F q → (Value.slice A l.length c).ownBlock = some q ∨ w.heap.size ≤ q) ∧ (∀ q, Tv'.ownBlock = some q → Tv.ownBlock = some q ∨ w.heap.size ≤ q) ∧ Ch (fun q => q = kb ∨ Tv.ownBlock = some q) w w' := by
  obtain ⟨is, his, his0, his1, his2⟩ := info_parts info_str
  obtain ⟨ip, hip, hip0, hip1, hip2⟩ := info_parts info_page
  obtain ⟨TA, tc, rfl⟩ := own_form h.pages.own
  have hb := h.blk
  have b4 : w.cell? ⟨kb, 4, none⟩ = some (.slice TA ps.length tc) := by rw [cell_of_blk hb]; exact h.c4
  have hkl := heap_lt hb
  have HB := Lib.hid h
  have HL := Lib.hid hl
  have HLB := Lib.hid hlb
  have HB0 := Lib.hid hb0
  have HR := Lib.hid (And.intro (room96 hps) (And.intro (room96b hps) (And.intro (roomL hlen) (roomLb hlen))))
  have HTOP := Lib.hid (fun q (hq : (Value.slice TA ps.length tc).ownBlock = some q) => ((h.tout q hq).1 : q ≠ kb))
  have HS := Lib.hid (fun (W : World) (hbk : W.heap[kb]? = w.heap[kb]?) => (show W.cell? ⟨kb, 4, none⟩ = some (.slice TA ps.length tc) from by rw [cell_of_blk (hbk.trans HB.out.blk)]; exact HB.out.c4))
  have HS6 := Lib.hid (fun (W : World) (u : Value) (hbk : W.heap[kb]? = some (.cells (bc.setIfInBounds 0 u) 49 (0, 0))) => (show W.cell? ⟨kb, 4, none⟩ = some (.slice TA ps.length tc) from by rw [cell_of_blk hbk, Array.getElem?_setIfInBounds, if_neg (by decide)]; exact HB.out.c4))
  clear h hl hlb hb0
  go_enter Tryz.func17, Tryz.ntmps17
  have hlt96 : (ps.length : Int) < 96 := by omega
  go_wp2
  have hHeld := HS.out w.drew rfl
  clear b4
  refine wp_region_n (n := 16) (S := fun w' => w'.cell? ⟨kb, 4, none⟩ = some (.slice TA ps.length tc)) (by kernel_rfl) ?_
  refine wpAnyN_take (i := 0) (v := ?_) rfl (by kernel_rfl) (by kernel_rfl) (by kernel_rfl) (by kernel_rfl) (fun _ _ _ h => h) (Or.inl ⟨by kernel_rfl, ?y1⟩) hHeld ?_
  case y1 =>
    intro w0 hSw
    (try dsimp only at hSw)
    go_simp
    try with_reducible rfl
  try simp only [Act.put, qa12, qb12, qc12, qd12, qe12, qf12]
  refine wpAnyN_take (i := 1) (v := ?_) rfl (by kernel_rfl) (by kernel_rfl) (by kernel_rfl) (by kernel_rfl) (fun _ _ _ h => h) (Or.inl ⟨by kernel_rfl, ?y2⟩) hHeld ?_
  case y2 =>
    intro w0 hSw
    (try dsimp only at hSw)
    go_simp
    try with_reducible rfl
  try simp only [Act.put, qa12, qb12, qc12, qd12, qe12, qf12]
  refine wpAnyN_take (i := 2) (v := ?_) rfl (by kernel_rfl) (by kernel_rfl) (by kernel_rfl) (by kernel_rfl) (fun _ _ _ h => h) (Or.inl ⟨by kernel_rfl, ?y3⟩) hHeld ?_
  case y3 =>
    intro w0 hSw
    (try dsimp only at hSw)
    go_simp
    try with_reducible rfl
  try simp only [Act.put, qa12, qb12, qc12, qd12, qe12, qf12]
  refine wpAnyN_take (i := 3) (v := ?_) rfl (by kernel_rfl) (by kernel_rfl) (by kernel_rfl) (by kernel_rfl) (fun _ _ _ h => h) (Or.inl ⟨by kernel_rfl, ?y4⟩) hHeld ?_
  case y4 =>
    intro w0 hSw
    (try dsimp only at hSw)
    go_simp
    try with_reducible rfl
  try simp only [Act.put, qa12, qb12, qc12, qd12, qe12, qf12]
  refine wpAnyN_take (i := 4) (v := ?_) rfl (by kernel_rfl) (by kernel_rfl) (by kernel_rfl) (by kernel_rfl) (fun _ _ _ h => h) (Or.inl ⟨by kernel_rfl, ?y5⟩) hHeld ?_
  case y5 =>
    intro w0 hSw
    (try dsimp only at hSw)
    go_simp
    try with_reducible rfl
  try simp only [Act.put, qa12, qb12, qc12, qd12, qe12, qf12]
  refine wpAnyN_take (i := 5) (v := ?_) rfl (by kernel_rfl) (by kernel_rfl) (by kernel_rfl) (by kernel_rfl) (fun _ _ _ h => h) (Or.inl ⟨by kernel_rfl, ?y6⟩) hHeld ?_
  case y6 =>
    intro w0 hSw
    (try dsimp only at hSw)
    go_simp
    try with_reducible rfl
  try simp only [Act.put, qa12, qb12, qc12, qd12, qe12, qf12]
  refine wpAnyN_take (i := 7) (v := ?_) rfl (by kernel_rfl) (by kernel_rfl) (by kernel_rfl) (by kernel_rfl) (fun _ _ _ h => h) (Or.inl ⟨by kernel_rfl, ?y7⟩) hHeld ?_
  case y7 =>
    intro w0 hSw
    (try dsimp only at hSw)
    go_simp
    try with_reducible rfl
  try simp only [Act.put, qa12, qb12, qc12, qd12, qe12, qf12]
  refine wpAnyN_take (i := 9) (v := ?_) rfl (by kernel_rfl) (by kernel_rfl) (by kernel_rfl) (by kernel_rfl) (fun _ _ _ h => h) (Or.inl ⟨by kernel_rfl, ?y8⟩) hHeld ?_
  case y8 =>
    intro w0 hSw
    (try dsimp only at hSw)
    go_simp
    try with_reducible rfl
  try simp only [Act.put, qa12, qb12, qc12, qd12, qe12, qf12]
  refine wpAnyN_step (i := 6) (by kernel_rfl) rfl (fun K hK => ?_)
  have hb1 := bel1 w.drew (.cells #[] 9)
  go_simp
  refine hK.out _ _ (fun _ => HS.out _ (hb1.block kb hkl)) ?_
  clear hK K
  try simp only [Act.put, qa12, qb12, qc12, qd12, qe12, qf12]
  have hHeld := HS.out _ (hb1.block kb hkl)
  refine wpAnyN_step (i := 8) (by kernel_rfl) rfl (fun K hK => ?_)
  refine step_append_row rfl _ _ 50 rfl w.heap.size 9 is (.string ByteArray.empty) 1 16 Tryz.underlying50 his his0 his1 his2 rfl (by decide) (.slice (some ⟨w.heap.size, 0, none⟩) 0 0) 0 [] (by simp [Act.eval, Act.put]) (own_empty w.drew _) (R := fun _ => True) (.slice A l.length c) (l.map encT) (by simp [Act.eval, Act.put]) ?lrow (NilOk.own HL.out) (encT_all l) (encT_one l) ?l63 ?l47 ?lbase ?_
  case lrow => exact TxtAt.to_row ((TxtAt.own HL.out).keep ⟨hb1.os, hb1.tape, hb1.output, hb1.size, hb1.block⟩) fun _ _ => trivial
  case l63 => rw [List.length_map]; exact HR.out.2.2.1
  case l47 => rw [List.length_map]; exact HR.out.2.2.2
  case lbase => exact hb1.size
  intro v5 w5 hown5 hgrow5 hat5
  rw [flatT, List.length_map, Nat.zero_add, List.nil_append] at hown5
  obtain ⟨VA, vc, rfl⟩ := own_form hown5
  have hb5 : Below w.heap.size w w5 := ⟨hgrow5.os.trans hb1.os, hgrow5.tape.trans hb1.tape, hgrow5.output.trans hb1.output, Nat.le_trans hb1.size hgrow5.size, fun q hq => (hgrow5.block q (Nat.lt_of_lt_of_le hq hb1.size) (fun e => by have h9 : q = w.heap.size := Option.some.inj e; omega)).trans (hb1.block q hq)⟩
  have HV5 := Lib.hid (And.intro hown5 hb5)
  have hHeld5 := HS.out w5 (hb5.block kb hkl)
  refine hK.out _ _ (fun _ => hHeld5) ?_
  clear hK K hown5 hgrow5 hat5 hHeld
  try simp only [Act.put, qa12, qb12, qc12, qd12, qe12, qf12]
  have hHeld := hHeld5
  clear hHeld5 hb5
  refine wpAnyN_step (i := 10) (by kernel_rfl) rfl (fun K hK => ?_)
  go_simp
  go_at_call 29
  refine (id_any ((HV5.out.2.block kb hkl).trans HB.out.blk) HB0.out hn0).mono ?_
  rintro en w6 ⟨rfl, hw6⟩
  have hk6 : w6.heap[kb]? = some (.cells (bc.setIfInBounds 0 (.int .i64 (n0 + 1))) 49 (0, 0)) := by rw [hw6]; exact heap_setCell_same ((HV5.out.2.block kb hkl).trans HB.out.blk) _
  have HW6 := Lib.hid hw6
  clear hw6 hHeld
  have hHeld := HS6.out w6 _ hk6
  go_wp2_with fail
  refine hK.out _ _ (fun _ => hHeld) ?_
  clear hK K
  try simp only [Act.put, qa12, qb12, qc12, qd12, qe12, qf12]
  refine wpAnyN_step (i := 11) (by kernel_rfl) rfl (fun K hK => ?_)
  go_simp
  refine hK.out _ _ (fun _ => hHeld) ?_
  clear hK K
  try simp only [Act.put, qa12, qb12, qc12, qd12, qe12, qf12]
  refine wpAnyN_step (i := 12) (by kernel_rfl) rfl (fun K hK => ?_)
  have hb7 := bel1 w6 (.cells #[.slice A l.length c, .slice none 0 0, .slice VA l.length vc, .int .i64 (n0 + 1), .bool false] 68)
  have hk6l : kb < w6.heap.size := heap_lt hk6
  go_simp
  refine hK.out _ _ (fun _ => HS6.out _ _ ((hb7.block kb hk6l).trans hk6)) ?_
  clear hK K
  try simp only [Act.put, qa12, qb12, qc12, qd12, qe12, qf12]
  have hHeld := HS6.out _ _ ((hb7.block kb hk6l).trans hk6)
  have how7 : (w6.alloc (.cells #[.slice A l.length c, .slice none 0 0, .slice VA l.length vc, .int .i64 (n0 + 1), .bool false] 68)).ownsRow 0 68 5 (.slice TA ps.length tc) ps.length (ps.map Pg.cells).flatten := ownsRow_keep HB.out.pages.own fun q hq => by
    have hql := (HB.out.pages.own.lt q hq).2
    have hb5 := HV5.out.2
    have s5 := hb5.size
    rw [hb7.block q (by rw [HW6.out, World.size_setCell]; omega), HW6.out]
    exact (Below.heap_setCell w5 ⟨kb, 0, none⟩ _ q (HTOP.out q hq)).trans (hb5.block q hql)
  refine wpAnyN_step (i := 13) (by kernel_rfl) rfl (fun K hK => ?_)
  refine step_append_keeps rfl _ _ 31 rfl 0 68 ip (.agg #[.slice none 0 0, .slice none 0 0, .slice none 0 0, .int .i64 0, .bool false]) 5 88 Tryz.underlying31 hip hip0 hip1 hip2 rfl (by decide) (.slice TA ps.length tc) ps.length (ps.map Pg.cells).flatten (by simp [Act.eval, Act.put]) how7 ⟨w6.heap.size, 0, none⟩ 1 1 [.slice A l.length c, .slice none 0 0, .slice VA l.length vc, .int .i64 (n0 + 1), .bool false] (by simp [Act.eval, Act.put]) rfl (World.news_of_block (World.alloc_heap_new w6 _)) (page_one _ _ _ _ _ rfl rfl _ _) (by decide) HR.out.1 HR.out.2.1 (Nat.zero_le _) ?_
  intro g cap w8 hown8 hgrow8 hat8
  have hk8 : w8.heap[kb]? = some (.cells (bc.setIfInBounds 0 (.int .i64 (n0 + 1))) 49 (0, 0)) := (hgrow8.block kb (Nat.lt_of_lt_of_le hk6l hb7.size) fun e => HTOP.out kb e.symm rfl).trans ((hb7.block kb hk6l).trans hk6)
  have hHeld8 := HS6.out w8 _ hk8
  refine hK.out _ _ (fun _ => hHeld8) ?_
  clear hK K hHeld how7
  try simp only [Act.put, qa12, qb12, qc12, qd12, qe12, qf12]
  have hHeld := hHeld8
  clear hHeld8
  refine wpAnyN_step (i := 14) (by kernel_rfl) rfl (fun K hK => ?_)
  go_simp
  refine hK.out _ _ (fun _ => hHeld) ?_
  clear hK K
  try simp only [Act.put, qa12, qb12, qc12, qd12, qe12, qf12]
  refine wpAnyN_step (i := 15) (by kernel_rfl) rfl (fun K hK => ?_)
  go_simp
  refine hK.out _ _ (fun _ => hHeld) ?_
  clear hK K
  try simp only [Act.put, qa12, qb12, qc12, qd12, qe12, qf12]
  refine wpAnyN_step (i := 16) (by kernel_rfl) rfl (fun K hK => ?_)
  have f8 := frozen_blk hk8 4
  go_simp
  refine hK.out _ _ (fun h => absurd h (by decide)) ?_
  clear hK K
  try simp only [Act.put, qa12, qb12, qc12, qd12, qe12, qf12]
  refine wpAnyN_done (by kernel_rfl) ?_ _
  have HD := Lib.hid (keep_done HB.out hn0 hps HL.out hlen HLB.out hkg HV5.out.1 HV5.out.2 HW6.out hown8 hgrow8 hat8)
  clear hown8 hgrow8 hat8 hHeld
  go_wp2
  go_end0
  exact ⟨rfl, _, by as_aux_lemma => exact HD.out⟩
end Go.Proofs.YtplocldnklccfaaGreatDoor
namespace Go.Proofs.YtplocldnklccfaaGreatDoor
open Go.RowKit
set_option linter.unusedVariables false
set_option linter.unusedSimpArgs false

theorem info_pageA : (Tryz.prog.info? 108).map (fun i => (i.zero, i.size, i.bytes)) = some (some (.agg #[.slice none 0 0, .slice none 0 0, .slice none 0 0, .int .i64 0, .bool false]), 5, 88) := by kernel_rfl
theorem c8_of {bc : Array Value} {Tv Tv' u : Value} (h : bc[8]? = some Tv) : ((bc.setIfInBounds 0 u).setIfInBounds 8 Tv')[8]? = some Tv' := by
  have h8x := (Array.getElem?_eq_some_iff.1 h).1
  rw [Array.getElem?_setIfInBounds, if_pos rfl, if_pos (by simpa using h8x)]
/-- A book with a page more. -/
theorem BookA.pushD {D : Nat → Prop} {w w8 : World} {kb : Nat} {bc : Array Value} {Tv Tv' u : Value} {ps : List (Pg Acct)} (h : BookA w kb bc Tv ps) (hps : ps.length < 96) (p : Pg Acct) (hc : Ch (fun q => q = kb ∨ Tv.ownBlock = some q ∨ D q) w w8) (hD : ∀ q, D q → q ≠ 3 ∧ ¬ BookFA Tv ps q)
    (hkb : w8.heap[kb]? = some (.cells ((bc.setIfInBounds 0 u).setIfInBounds 8 Tv') 49 (0, 0))) (hown : w8.ownsRow 0 108 5 Tv' (ps.length + 1) ((ps.map Pg.cells).flatten ++ p.cells))
    (hTv : ∀ q, Tv'.ownBlock = some q → Tv.ownBlock = some q ∨ w.heap.size ≤ q) (hpg : PageA w8 p) (hpF : ∀ q, p.F q → q < w8.heap.size ∧ q ≠ kb ∧ q ≠ 3 ∧ ¬ BookFA Tv ps q ∧ Tv'.ownBlock ≠ some q) (hid : 0 ≤ p.v.id ∧ p.v.id ≤ 1048576)
    (hkg : kb ≠ 3) : BookA w8 kb ((bc.setIfInBounds 0 u).setIfInBounds 8 Tv') Tv' (ps ++ [p]) := by
  have hkl := heap_lt h.blk
  have hpl := h.pow.lt
  have get : ∀ j (hj : j < (ps ++ [p]).length), (ps ++ [p])[j] = p ∨ ∃ hj' : j < ps.length, (ps ++ [p])[j] = ps[j] := fun j hj => by
    by_cases e : j < ps.length
    · exact .inr ⟨e, List.getElem_append_left e⟩
    · have e2 : j = ps.length := by simp at hj; omega
      exact .inl (by subst e2; simp)
  refine ⟨hkb, c8_of h.c8, h.pages.push (w' := w8) p (fun j hj q hq => hc.block q (h.pages.lt j hj q hq) ?_) hc.size hown (fun q hq => ⟨fun j hj hf => ?_, fun hf => (hpF q hf).2.2.2.2 hq⟩) hpg (fun q hq => (hpF q hq).1) (fun q hq j hj hf => (hpF q hq).2.2.2.1 (.inr ⟨j, hj, hf⟩)), ?_, ?_, h.pow.ch hc ?_, ?_, by rw [List.length_append]; exact hps⟩
  · rintro (e | e | e)
    · exact (h.out j hj q hq).1 e
    · exact h.pages.top j hj q hq e
    · exact (hD q e).2 (.inr ⟨j, hj, hq⟩)
  · rcases hTv q hq with e | e
    · exact h.pages.top j hj q hf e
    · exact absurd (h.pages.lt j hj q hf) (by omega)
  · intro j hj q hq
    rcases get j hj with e | ⟨hj', e⟩
    · rw [e] at hq
      exact ⟨(hpF q hq).2.1, (hpF q hq).2.2.1⟩
    · rw [e] at hq
      exact h.out j hj' q hq
  · intro q hq
    rcases hTv q hq with e | e
    · exact h.tout q e
    · exact ⟨by omega, by omega⟩
  · rintro q (rfl | e | e)
    · exact hkg
    · exact (h.tout q e).2
    · exact (hD q e).1
  · intro j hj
    rcases get j hj with e | ⟨hj', e⟩
    · rw [e]
      exact hid
    · rw [e]
      exact h.ids j hj'
theorem BookA.push {w w8 : World} {kb : Nat} {bc : Array Value} {Tv Tv' u : Value} {ps : List (Pg Acct)} (h : BookA w kb bc Tv ps) (hps : ps.length < 96) (p : Pg Acct) (hc : Ch (fun q => q = kb ∨ Tv.ownBlock = some q) w w8)
    (hkb : w8.heap[kb]? = some (.cells ((bc.setIfInBounds 0 u).setIfInBounds 8 Tv') 49 (0, 0))) (hown : w8.ownsRow 0 108 5 Tv' (ps.length + 1) ((ps.map Pg.cells).flatten ++ p.cells))
    (hTv : ∀ q, Tv'.ownBlock = some q → Tv.ownBlock = some q ∨ w.heap.size ≤ q) (hpg : PageA w8 p) (hpF : ∀ q, p.F q → q < w8.heap.size ∧ q ≠ kb ∧ q ≠ 3 ∧ ¬ BookFA Tv ps q ∧ Tv'.ownBlock ≠ some q) (hid : 0 ≤ p.v.id ∧ p.v.id ≤ 1048576)
    (hkg : kb ≠ 3) : BookA w8 kb ((bc.setIfInBounds 0 u).setIfInBounds 8 Tv') Tv' (ps ++ [p]) :=
  h.pushD (D := fun _ => False) hps p (hc.mono fun q hq => hq.elim .inl fun e => .inr (.inl e)) (fun q hq => hq.elim) hkb hown hTv hpg hpF hid hkg

theorem own_empty4 (w : World) (e : TypeId) : (w.alloc (.cells #[] e (0, 0))).ownsRow w.heap.size e 4 (.slice (some ⟨w.heap.size, 0, none⟩) 0 0) 0 [] :=
  ⟨rfl, .inr ⟨w.heap.size, 0, #[], rfl, Nat.le_refl _, World.alloc_heap_new w _, Nat.le_refl _, Nat.zero_le _, rfl, rfl⟩⟩
theorem encA_ones (xs : List Acct) : ∀ x ∈ xs.map encA, ∀ u ∈ x, u.oneCell' = true := fun x hx u hu => by
  obtain ⟨z, _, rfl⟩ := List.mem_map.1 hx
  simp [encA] at hu
  rcases hu with rfl | rfl | rfl | rfl <;> rfl
theorem roomLbA {n : Nat} (h : n ≤ 1048576) : (0 + n) * 40 ≤ 140737488355328 := by omega

theorem keep_doneA {w w5 w6 w8 : World} {kb : Nat} {bc : Array Value} {TA A VA : Option Addr} {ps : List (Pg Acct)} {n0 : Int} {tc c vc B g cap : Nat} {l : List Acct} {o : Obj} (h : BookA w kb bc (.slice TA ps.length tc) ps) (hn0 : 0 ≤ n0 ∧ n0 < 1048576) (hps : ps.length < 96)
    (hl : w.ownsRow B 159 4 (.slice A l.length c) l.length (l.map encA).flatten) (hlen : l.length ≤ 1048576) (hlb : ∀ q, (Value.slice A l.length c).ownBlock = some q → q ≠ kb ∧ q ≠ 3 ∧ ¬ BookFA (.slice TA ps.length tc) ps q) (hkg : kb ≠ 3)
    (hV : w5.ownsRow w.heap.size 159 4 (.slice VA l.length vc) l.length (l.map encA).flatten) (hb5 : Below w.heap.size w w5) (hw6 : w6 = w5.setCell ⟨kb, 0, none⟩ (.int .i64 (n0 + 1)))
    (hown : w8.ownsRow 0 108 5 (.slice (some ⟨g, 0, none⟩) (ps.length + 1) cap) (ps.length + 1) ((ps.map Pg.cells).flatten ++ [.slice A l.length c, .slice none 0 0, .slice VA l.length vc, .int .i64 (n0 + 1), .bool false]))
    (hgr : (w6.alloc o).grownBy w8 (Value.slice TA ps.length tc).ownBlock) (hat : (Value.slice TA ps.length tc).ownBlock = some g ∨ (g = (w6.alloc o).heap.size ∧ (w6.alloc o).grownBy w8 none)) :
    ∃ p, BookA (w8.setCell ⟨kb, 8, none⟩ (.slice (some ⟨g, 0, none⟩) (ps.length + 1) cap)) kb ((bc.setIfInBounds 0 (.int .i64 (n0 + 1))).setIfInBounds 8 (.slice (some ⟨g, 0, none⟩) (ps.length + 1) cap)) (.slice (some ⟨g, 0, none⟩) (ps.length + 1) cap) (ps ++ [p]) ∧ p.v = ⟨n0 + 1, false, false, l⟩ ∧
      (∀ q, p.F q → (Value.slice A l.length c).ownBlock = some q ∨ w.heap.size ≤ q) ∧ (∀ q, (Value.slice (some ⟨g, 0, none⟩) (ps.length + 1) cap).ownBlock = some q → (Value.slice TA ps.length tc).ownBlock = some q ∨ w.heap.size ≤ q) ∧
      Ch (fun q => q = kb ∨ (Value.slice TA ps.length tc).ownBlock = some q) w (w8.setCell ⟨kb, 8, none⟩ (.slice (some ⟨g, 0, none⟩) (ps.length + 1) cap)) := by
  have hkl := heap_lt h.blk
  have hpl := h.pow.lt
  have s5 := hb5.size
  have s6 : w6.heap.size = w5.heap.size := by rw [hw6, World.size_setCell]
  have s7 : (w6.alloc o).heap.size = w6.heap.size + 1 := by rw [World.size_alloc]
  have s8 := hgr.size
  have hTl : ∀ q, (Value.slice TA ps.length tc).ownBlock = some q → q < w.heap.size := fun q hq => (h.pages.own.lt q hq).2
  have hc8 : Ch (fun q => q = kb ∨ (Value.slice TA ps.length tc).ownBlock = some q) w w8 := by
    have c6 := (Ch.of_below (F := fun q => q = kb ∨ (Value.slice TA ps.length tc).ownBlock = some q) hb5).setCell (p := ⟨kb, 0, none⟩) (.inl (.inl rfl)) (.int .i64 (n0 + 1))
    rw [← hw6] at c6
    exact (c6.alloc o).grown hgr fun k hk => .inl (.inr hk)
  have hc := hc8.setCell (p := ⟨kb, 8, none⟩) (.inl (.inl rfl)) (.slice (some ⟨g, 0, none⟩) (ps.length + 1) cap)
  have hk6 : w6.heap[kb]? = some (.cells (bc.setIfInBounds 0 (.int .i64 (n0 + 1))) 49 (0, 0)) := by rw [hw6]; exact heap_setCell_same ((hb5.block kb hkl).trans h.blk) _
  have hk8 : w8.heap[kb]? = some (.cells (bc.setIfInBounds 0 (.int .i64 (n0 + 1))) 49 (0, 0)) :=
    (hgr.block kb (by omega) fun e => (h.tout kb e.symm).1 rfl).trans ((Below.heap_alloc w6 o kb (by omega)).trans hk6)
  have hset := Below.heap_setCell w8 ⟨kb, 8, none⟩ (.slice (some ⟨g, 0, none⟩) (ps.length + 1) cap)
  have hgk : g ≠ kb := fun e => by
    rcases hat with h1 | ⟨h1, _⟩
    · exact (h.tout g h1).1 e
    · omega
  have hgT : ∀ q, (Value.slice (some ⟨g, 0, none⟩) (ps.length + 1) cap).ownBlock = some q → (Value.slice TA ps.length tc).ownBlock = some q ∨ w5.heap.size < q := fun q hq => by
    obtain rfl : g = q := Option.some.inj hq
    rcases hat with h1 | ⟨h1, _⟩
    · exact .inl h1
    · exact .inr (by omega)
  have hV8 : ∀ q, w.heap.size ≤ q → q < w5.heap.size → (w8.setCell ⟨kb, 8, none⟩ (.slice (some ⟨g, 0, none⟩) (ps.length + 1) cap)).heap[q]? = w5.heap[q]? := fun q h1 h2 => by
    rw [hset q (by show q ≠ kb; omega), hgr.block q (by omega) (fun e => by have := hTl q e.symm; omega), Below.heap_alloc w6 o q (by omega), hw6]
    exact Below.heap_setCell w5 ⟨kb, 0, none⟩ _ q (by show q ≠ kb; omega)
  have hVl : ∀ q, (Value.slice VA l.length vc).ownBlock = some q → w.heap.size ≤ q ∧ q < w5.heap.size := fun q hq => hV.lt q hq
  have hLl : ∀ q, (Value.slice A l.length c).ownBlock = some q → q < w.heap.size := fun q hq => (hl.lt q hq).2
  have hlT : ∀ q, (Value.slice A l.length c).ownBlock = some q → (Value.slice TA ps.length tc).ownBlock ≠ some q := fun q hq e => (hlb q hq).2.2 (.inl e)
  have hl0 : ∀ q, (Value.slice A l.length c).ownBlock = some q → ¬ (q = kb ∨ (Value.slice TA ps.length tc).ownBlock = some q) := fun q hq e => by
    rcases e with e | e
    · exact (hlb q hq).1 e
    · exact hlT q hq e
  have hcl : curL markA (⟨n0 + 1, false, false, l⟩ : PageV Acct) = l := rfl
  have hkeep := ownsRow_keep (w' := w8.setCell ⟨kb, 8, none⟩ (.slice (some ⟨g, 0, none⟩) (ps.length + 1) cap)) hl fun q hq => hc.block q (hLl q hq) (hl0 q hq)
  have hkeepV := ownsRow_keep (w' := w8.setCell ⟨kb, 8, none⟩ (.slice (some ⟨g, 0, none⟩) (ps.length + 1) cap)) hV fun q hq => hV8 q (hVl q hq).1 (hVl q hq).2
  refine ⟨⟨⟨n0 + 1, false, false, l⟩, .slice A l.length c, .slice none 0 0, .slice VA l.length vc, fun q => (Value.slice A l.length c).ownBlock = some q ∨ (Value.slice VA l.length vc).ownBlock = some q⟩, ?_, rfl, ?_, ?_, hc⟩
  · refine h.push hps _ hc (heap_setCell_same hk8 _) (ownsRow_keep hown fun q hq => hset q (by obtain rfl : g = q := Option.some.inj hq; exact hgk)) ?_ ?_ ?_ ⟨by show 0 ≤ n0 + 1; omega, by show n0 + 1 ≤ 1048576; omega⟩ hkg
    · intro q hq
      rcases hgT q hq with h1 | h1
      · exact .inl h1
      · exact .inr (by omega)
    · refine ⟨⟨A, c, rfl⟩, hlen, fun _ => ⟨?_, rfl⟩, fun _ => ⟨rfl, ?_, ?_⟩, fun hg => (by cases hg), ?_⟩
      · rw [hcl]
        exact own_base hkeep fun _ _ => Nat.zero_le _
      · exact own_base hkeepV fun _ _ => Nat.zero_le _
      · intro q hq hq'
        have := hLl q hq
        have := (hVl q hq').1
        omega
      · intro q hq
        rcases hq with hq | hq | hq
        · exact .inl hq
        · cases hq
        · exact .inr hq
    · intro q hq
      rcases hq with hq | hq
      · refine ⟨?_, (hlb q hq).1, (hlb q hq).2.1, (hlb q hq).2.2, fun e => ?_⟩
        · rw [World.size_setCell]
          have := hLl q hq
          omega
        · rcases hgT q e with h1 | h1
          · exact hlT q hq h1
          · have := hLl q hq
            omega
      · have hv := hVl q hq
        refine ⟨?_, by omega, by omega, fun e => ?_, fun e => ?_⟩
        · rw [World.size_setCell]
          omega
        · rcases e with e | ⟨j, hj, e⟩
          · have := hTl q e
            omega
          · have := h.pages.lt j hj q e
            omega
        · rcases hgT q e with h1 | h1
          · have := hTl q h1
            omega
          · omega
  · intro q hq
    rcases hq with hq | hq
    · exact .inl hq
    · exact .inr (hVl q hq).1
  · intro q hq
    rcases hgT q hq with h1 | h1
    · exact .inl h1
    · exact .inr (by omega)

set_option maxRecDepth 100000 in
set_option maxHeartbeats 4000000 in
theorem KeepAccounts_any {w : World} {kb : Nat} {bc : Array Value} {Tv : Value} {ps : List (Pg Acct)} {n0 : Int} {A : Option Addr} {c B : Nat} {l : List Acct} (h : BookA w kb bc Tv ps) (hb0 : bc[0]? = some (.int .i64 n0)) (hn0 : 0 ≤ n0 ∧ n0 < 1048576) (hps : ps.length < 96)
    (hl : w.ownsRow B 159 4 (.slice A l.length c) l.length (l.map encA).flatten) (hlen : l.length ≤ 1048576) (hlb : ∀ q, (Value.slice A l.length c).ownBlock = some q → q ≠ kb ∧ q ≠ 3 ∧ ¬ BookFA Tv ps q) (hkg : kb ≠ 3) :
    Calls Tryz.prog 163 #[.pointer (some ⟨kb, 0, none⟩), .slice A l.length c] w fun e w' => e = .returned (.tuple #[]) ∧ ∃ Tv' p, BookA w' kb ((bc.setIfInBounds 0 (.int .i64 (n0 + 1))).setIfInBounds 8 Tv') Tv' (ps ++ [p]) ∧ p.v = ⟨n0 + 1, false, false, l⟩ ∧
      (∀ q, p.F q → (Value.slice A l.length c).ownBlock = some q ∨ w.heap.size ≤ q) ∧ (∀ q, Tv'.ownBlock = some q → Tv.ownBlock = some q ∨ w.heap.size ≤ q) ∧ Ch (fun q => q = kb ∨ Tv.ownBlock = some q) w w' := by
  obtain ⟨is, his, his0, his1, his2⟩ := info_parts info_acc
  obtain ⟨ip, hip, hip0, hip1, hip2⟩ := info_parts info_pageA
  obtain ⟨TA, tc, rfl⟩ := own_form h.pages.own
  have hb := h.blk
  have b8 : w.cell? ⟨kb, 8, none⟩ = some (.slice TA ps.length tc) := by rw [cell_of_blk hb]; exact h.c8
  have hkl := heap_lt hb
  have HB := Lib.hid h
  have HL := Lib.hid hl
  have HLB := Lib.hid hlb
  have HB0 := Lib.hid hb0
  have HR := Lib.hid (And.intro (room96 hps) (And.intro (room96b hps) (And.intro (roomL hlen) (roomLbA hlen))))
  have HTOP := Lib.hid (fun q (hq : (Value.slice TA ps.length tc).ownBlock = some q) => ((h.tout q hq).1 : q ≠ kb))
  have HS := Lib.hid (fun (W : World) (hbk : W.heap[kb]? = w.heap[kb]?) => (show W.cell? ⟨kb, 8, none⟩ = some (.slice TA ps.length tc) from by rw [cell_of_blk (hbk.trans HB.out.blk)]; exact HB.out.c8))
  have HS6 := Lib.hid (fun (W : World) (u : Value) (hbk : W.heap[kb]? = some (.cells (bc.setIfInBounds 0 u) 49 (0, 0))) => (show W.cell? ⟨kb, 8, none⟩ = some (.slice TA ps.length tc) from by rw [cell_of_blk hbk, Array.getElem?_setIfInBounds, if_neg (by decide)]; exact HB.out.c8))
  clear h hl hlb hb0
  go_enter Tryz.func163, Tryz.ntmps163
  have hlt96 : (ps.length : Int) < 96 := by omega
  go_wp2
  have hHeld := HS.out w.drew rfl
  clear b8
  refine wp_region_n (n := 16) (S := fun w' => w'.cell? ⟨kb, 8, none⟩ = some (.slice TA ps.length tc)) (by kernel_rfl) ?_
  refine wpAnyN_take (i := 0) (v := ?_) rfl (by kernel_rfl) (by kernel_rfl) (by kernel_rfl) (by kernel_rfl) (fun _ _ _ h => h) (Or.inl ⟨by kernel_rfl, ?y1⟩) hHeld ?_
  case y1 =>
    intro w0 hSw
    (try dsimp only at hSw)
    go_simp
    try with_reducible rfl
  try simp only [Act.put, qa12, qb12, qc12, qd12, qe12, qf12]
  refine wpAnyN_take (i := 1) (v := ?_) rfl (by kernel_rfl) (by kernel_rfl) (by kernel_rfl) (by kernel_rfl) (fun _ _ _ h => h) (Or.inl ⟨by kernel_rfl, ?y2⟩) hHeld ?_
  case y2 =>
    intro w0 hSw
    (try dsimp only at hSw)
    go_simp
    try with_reducible rfl
  try simp only [Act.put, qa12, qb12, qc12, qd12, qe12, qf12]
  refine wpAnyN_take (i := 2) (v := ?_) rfl (by kernel_rfl) (by kernel_rfl) (by kernel_rfl) (by kernel_rfl) (fun _ _ _ h => h) (Or.inl ⟨by kernel_rfl, ?y3⟩) hHeld ?_
  case y3 =>
    intro w0 hSw
    (try dsimp only at hSw)
    go_simp
    try with_reducible rfl
  try simp only [Act.put, qa12, qb12, qc12, qd12, qe12, qf12]
  refine wpAnyN_take (i := 3) (v := ?_) rfl (by kernel_rfl) (by kernel_rfl) (by kernel_rfl) (by kernel_rfl) (fun _ _ _ h => h) (Or.inl ⟨by kernel_rfl, ?y4⟩) hHeld ?_
  case y4 =>
    intro w0 hSw
    (try dsimp only at hSw)
    go_simp
    try with_reducible rfl
  try simp only [Act.put, qa12, qb12, qc12, qd12, qe12, qf12]
  refine wpAnyN_take (i := 4) (v := ?_) rfl (by kernel_rfl) (by kernel_rfl) (by kernel_rfl) (by kernel_rfl) (fun _ _ _ h => h) (Or.inl ⟨by kernel_rfl, ?y5⟩) hHeld ?_
  case y5 =>
    intro w0 hSw
    (try dsimp only at hSw)
    go_simp
    try with_reducible rfl
  try simp only [Act.put, qa12, qb12, qc12, qd12, qe12, qf12]
  refine wpAnyN_take (i := 5) (v := ?_) rfl (by kernel_rfl) (by kernel_rfl) (by kernel_rfl) (by kernel_rfl) (fun _ _ _ h => h) (Or.inl ⟨by kernel_rfl, ?y6⟩) hHeld ?_
  case y6 =>
    intro w0 hSw
    (try dsimp only at hSw)
    go_simp
    try with_reducible rfl
  try simp only [Act.put, qa12, qb12, qc12, qd12, qe12, qf12]
  refine wpAnyN_take (i := 7) (v := ?_) rfl (by kernel_rfl) (by kernel_rfl) (by kernel_rfl) (by kernel_rfl) (fun _ _ _ h => h) (Or.inl ⟨by kernel_rfl, ?y7⟩) hHeld ?_
  case y7 =>
    intro w0 hSw
    (try dsimp only at hSw)
    go_simp
    try with_reducible rfl
  try simp only [Act.put, qa12, qb12, qc12, qd12, qe12, qf12]
  refine wpAnyN_take (i := 9) (v := ?_) rfl (by kernel_rfl) (by kernel_rfl) (by kernel_rfl) (by kernel_rfl) (fun _ _ _ h => h) (Or.inl ⟨by kernel_rfl, ?y8⟩) hHeld ?_
  case y8 =>
    intro w0 hSw
    (try dsimp only at hSw)
    go_simp
    try with_reducible rfl
  try simp only [Act.put, qa12, qb12, qc12, qd12, qe12, qf12]
  refine wpAnyN_step (i := 6) (by kernel_rfl) rfl (fun K hK => ?_)
  have hb1 := bel1 w.drew (.cells #[] 159)
  go_simp
  refine hK.out _ _ (fun _ => HS.out _ (hb1.block kb hkl)) ?_
  clear hK K
  try simp only [Act.put, qa12, qb12, qc12, qd12, qe12, qf12]
  have hHeld := HS.out _ (hb1.block kb hkl)
  refine wpAnyN_step (i := 8) (by kernel_rfl) rfl (fun K hK => ?_)
  refine step_append_row rfl _ _ 55 rfl w.heap.size 159 is (.agg #[.string ByteArray.empty, .int .i64 0, .int .i64 0, .bool false]) 4 40 Tryz.underlying55 his his0 his1 his2 rfl (by decide) (.slice (some ⟨w.heap.size, 0, none⟩) 0 0) 0 [] (by simp [Act.eval, Act.put]) (own_empty4 w.drew _) (R := fun _ => True) (.slice A l.length c) (l.map encA) (by simp [Act.eval, Act.put]) ?lrow (NilOk.own HL.out) (encs_4 l) (encA_ones l) ?l63 ?l47 ?lbase ?_
  case lrow => exact (RowAt.of_own (R := fun _ => True) (by rw [List.length_map]; exact HL.out) (encs_4 l) fun _ _ => trivial).below ⟨hb1.os, hb1.tape, hb1.output, hb1.size, hb1.block⟩
  case l63 => rw [List.length_map]; exact HR.out.2.2.1
  case l47 => rw [List.length_map]; exact HR.out.2.2.2
  case lbase => exact hb1.size
  intro v5 w5 hown5 hgrow5 hat5
  rw [List.length_map, Nat.zero_add, List.nil_append] at hown5
  obtain ⟨VA, vc, rfl⟩ := own_form hown5
  have hb5 : Below w.heap.size w w5 := ⟨hgrow5.os.trans hb1.os, hgrow5.tape.trans hb1.tape, hgrow5.output.trans hb1.output, Nat.le_trans hb1.size hgrow5.size, fun q hq => (hgrow5.block q (Nat.lt_of_lt_of_le hq hb1.size) (fun e => by have h9 : q = w.heap.size := Option.some.inj e; omega)).trans (hb1.block q hq)⟩
  have HV5 := Lib.hid (And.intro hown5 hb5)
  have hHeld5 := HS.out w5 (hb5.block kb hkl)
  refine hK.out _ _ (fun _ => hHeld5) ?_
  clear hK K hown5 hgrow5 hat5 hHeld
  try simp only [Act.put, qa12, qb12, qc12, qd12, qe12, qf12]
  have hHeld := hHeld5
  clear hHeld5 hb5
  refine wpAnyN_step (i := 10) (by kernel_rfl) rfl (fun K hK => ?_)
  go_simp
  go_at_call 29
  refine (id_any ((HV5.out.2.block kb hkl).trans HB.out.blk) HB0.out hn0).mono ?_
  rintro en w6 ⟨rfl, hw6⟩
  have hk6 : w6.heap[kb]? = some (.cells (bc.setIfInBounds 0 (.int .i64 (n0 + 1))) 49 (0, 0)) := by rw [hw6]; exact heap_setCell_same ((HV5.out.2.block kb hkl).trans HB.out.blk) _
  have HW6 := Lib.hid hw6
  clear hw6 hHeld
  have hHeld := HS6.out w6 _ hk6
  go_wp2_with fail
  refine hK.out _ _ (fun _ => hHeld) ?_
  clear hK K
  try simp only [Act.put, qa12, qb12, qc12, qd12, qe12, qf12]
  refine wpAnyN_step (i := 11) (by kernel_rfl) rfl (fun K hK => ?_)
  go_simp
  refine hK.out _ _ (fun _ => hHeld) ?_
  clear hK K
  try simp only [Act.put, qa12, qb12, qc12, qd12, qe12, qf12]
  refine wpAnyN_step (i := 12) (by kernel_rfl) rfl (fun K hK => ?_)
  have hb7 := bel1 w6 (.cells #[.slice A l.length c, .slice none 0 0, .slice VA l.length vc, .int .i64 (n0 + 1), .bool false] 108)
  have hk6l : kb < w6.heap.size := heap_lt hk6
  go_simp
  refine hK.out _ _ (fun _ => HS6.out _ _ ((hb7.block kb hk6l).trans hk6)) ?_
  clear hK K
  try simp only [Act.put, qa12, qb12, qc12, qd12, qe12, qf12]
  have hHeld := HS6.out _ _ ((hb7.block kb hk6l).trans hk6)
  have how7 : (w6.alloc (.cells #[.slice A l.length c, .slice none 0 0, .slice VA l.length vc, .int .i64 (n0 + 1), .bool false] 108)).ownsRow 0 108 5 (.slice TA ps.length tc) ps.length (ps.map Pg.cells).flatten := ownsRow_keep HB.out.pages.own fun q hq => by
    have hql := (HB.out.pages.own.lt q hq).2
    have hb5 := HV5.out.2
    have s5 := hb5.size
    rw [hb7.block q (by rw [HW6.out, World.size_setCell]; omega), HW6.out]
    exact (Below.heap_setCell w5 ⟨kb, 0, none⟩ _ q (HTOP.out q hq)).trans (hb5.block q hql)
  refine wpAnyN_step (i := 13) (by kernel_rfl) rfl (fun K hK => ?_)
  refine step_append_keeps rfl _ _ 35 rfl 0 108 ip (.agg #[.slice none 0 0, .slice none 0 0, .slice none 0 0, .int .i64 0, .bool false]) 5 88 Tryz.underlying35 hip hip0 hip1 hip2 rfl (by decide) (.slice TA ps.length tc) ps.length (ps.map Pg.cells).flatten (by simp [Act.eval, Act.put]) how7 ⟨w6.heap.size, 0, none⟩ 1 1 [.slice A l.length c, .slice none 0 0, .slice VA l.length vc, .int .i64 (n0 + 1), .bool false] (by simp [Act.eval, Act.put]) rfl (World.news_of_block (World.alloc_heap_new w6 _)) (page_one _ _ _ _ _ rfl rfl _ _) (by decide) HR.out.1 HR.out.2.1 (Nat.zero_le _) ?_
  intro g cap w8 hown8 hgrow8 hat8
  have hk8 : w8.heap[kb]? = some (.cells (bc.setIfInBounds 0 (.int .i64 (n0 + 1))) 49 (0, 0)) := (hgrow8.block kb (Nat.lt_of_lt_of_le hk6l hb7.size) fun e => HTOP.out kb e.symm rfl).trans ((hb7.block kb hk6l).trans hk6)
  have hHeld8 := HS6.out w8 _ hk8
  refine hK.out _ _ (fun _ => hHeld8) ?_
  clear hK K hHeld how7
  try simp only [Act.put, qa12, qb12, qc12, qd12, qe12, qf12]
  have hHeld := hHeld8
  clear hHeld8
  refine wpAnyN_step (i := 14) (by kernel_rfl) rfl (fun K hK => ?_)
  go_simp
  refine hK.out _ _ (fun _ => hHeld) ?_
  clear hK K
  try simp only [Act.put, qa12, qb12, qc12, qd12, qe12, qf12]
  refine wpAnyN_step (i := 15) (by kernel_rfl) rfl (fun K hK => ?_)
  go_simp
  refine hK.out _ _ (fun _ => hHeld) ?_
  clear hK K
  try simp only [Act.put, qa12, qb12, qc12, qd12, qe12, qf12]
  refine wpAnyN_step (i := 16) (by kernel_rfl) rfl (fun K hK => ?_)
  have f8 := frozen_blk hk8 8
  go_simp
  refine hK.out _ _ (fun h => absurd h (by decide)) ?_
  clear hK K
  try simp only [Act.put, qa12, qb12, qc12, qd12, qe12, qf12]
  refine wpAnyN_done (by kernel_rfl) ?_ _
  have HD := Lib.hid (keep_doneA HB.out hn0 hps HL.out hlen HLB.out hkg HV5.out.1 HV5.out.2 HW6.out hown8 hgrow8 hat8)
  clear hown8 hgrow8 hat8 hHeld
  go_wp2
  go_end0
  exact ⟨rfl, _, by as_aux_lemma => exact HD.out⟩
end Go.Proofs.YtplocldnklccfaaGreatDoor
namespace Go.Proofs.YtplocldnklccfaaGreatDoor
open Go.RowKit
set_option linter.unusedVariables false
set_option linter.unusedSimpArgs false

theorem write_done {w w4 w8 : World} {kb : Nat} {bc : Array Value} {TA A : Option Addr} {ps : List (Pg ByteArray)} {n0 : Int} {tc c B g cap g2 gc2 : Nat} {l : List ByteArray} {o : Obj} (h : BookT w kb bc (.slice TA ps.length tc) ps) (hn0 : 0 ≤ n0 ∧ n0 < 1048576) (hps : ps.length < 96)
    (hl : w.ownsRow B 9 1 (.slice A l.length c) l.length (l.map Value.string)) (hlen : l.length ≤ 1048576) (hlb : ∀ q, (Value.slice A l.length c).ownBlock = some q → q ≠ kb ∧ q ≠ 3 ∧ ¬ BookF (.slice TA ps.length tc) ps q) (hkg : kb ≠ 3)
    (hc4 : Ch (fun q => q = kb ∨ (Value.slice A l.length c).ownBlock = some q) w w4) (hk4 : w4.heap[kb]? = some (.cells (bc.setIfInBounds 0 (.int .i64 (n0 + 1))) 49 (0, 0)))
    (hG : w4.ownsRow 0 9 1 (.slice (some ⟨g2, 0, none⟩) (l.length + 64) gc2) (l.length + 64) ((marksL textF (n0 + 1) l.length).map Value.string ++ txts (n0 + 1 + 100000) 64)) (hg2 : (Value.slice A l.length c).ownBlock = some g2 ∨ w.heap.size ≤ g2)
    (htx : TxtAt w4 (.slice A l.length c) (marksL textF (n0 + 1) l.length))
    (hown : w8.ownsRow 0 68 5 (.slice (some ⟨g, 0, none⟩) (ps.length + 1) cap) (ps.length + 1) ((ps.map Pg.cells).flatten ++ [.slice A l.length c, .slice (some ⟨g2, 0, none⟩) (l.length + 64) gc2, .slice none 0 0, .int .i64 (n0 + 1), .bool true]))
    (hgr : (w4.drew.alloc o).grownBy w8 (Value.slice TA ps.length tc).ownBlock) (hat : (Value.slice TA ps.length tc).ownBlock = some g ∨ (g = (w4.drew.alloc o).heap.size ∧ (w4.drew.alloc o).grownBy w8 none)) :
    ∃ p, BookT (w8.setCell ⟨kb, 4, none⟩ (.slice (some ⟨g, 0, none⟩) (ps.length + 1) cap)) kb ((bc.setIfInBounds 0 (.int .i64 (n0 + 1))).setIfInBounds 4 (.slice (some ⟨g, 0, none⟩) (ps.length + 1) cap)) (.slice (some ⟨g, 0, none⟩) (ps.length + 1) cap) (ps ++ [p]) ∧ p.v = ⟨n0 + 1, true, true, l⟩ ∧
      (∀ q, p.F q → (Value.slice A l.length c).ownBlock = some q ∨ w.heap.size ≤ q) ∧ (∀ q, (Value.slice (some ⟨g, 0, none⟩) (ps.length + 1) cap).ownBlock = some q → (Value.slice TA ps.length tc).ownBlock = some q ∨ w.heap.size ≤ q) ∧
      Ch (fun q => q = kb ∨ (Value.slice TA ps.length tc).ownBlock = some q ∨ (Value.slice A l.length c).ownBlock = some q) w (w8.setCell ⟨kb, 4, none⟩ (.slice (some ⟨g, 0, none⟩) (ps.length + 1) cap)) := by
  have hkl := heap_lt h.blk
  have hpl := h.pow.lt
  have s4 := hc4.size
  have sd : w4.drew.heap.size = w4.heap.size := rfl
  have s7 : (w4.drew.alloc o).heap.size = w4.heap.size + 1 := by rw [World.size_alloc]; rfl
  have s8 := hgr.size
  have hTl : ∀ q, (Value.slice TA ps.length tc).ownBlock = some q → q < w.heap.size := fun q hq => (h.pages.own.lt q hq).2
  have hLl : ∀ q, (Value.slice A l.length c).ownBlock = some q → q < w.heap.size := fun q hq => (hl.lt q hq).2
  have hlT : ∀ q, (Value.slice A l.length c).ownBlock = some q → (Value.slice TA ps.length tc).ownBlock ≠ some q := fun q hq e => (hlb q hq).2.2 (.inl e)
  have hc8 : Ch (fun q => q = kb ∨ (Value.slice TA ps.length tc).ownBlock = some q ∨ (Value.slice A l.length c).ownBlock = some q) w w8 :=
    (((hc4.mono (G := fun q => q = kb ∨ (Value.slice TA ps.length tc).ownBlock = some q ∨ (Value.slice A l.length c).ownBlock = some q) fun q hq => hq.elim .inl fun e => .inr (.inr e)).drew).alloc o).grown hgr fun k hk => .inl (.inr (.inl hk))
  have hc := hc8.setCell (p := ⟨kb, 4, none⟩) (.inl (.inl rfl)) (.slice (some ⟨g, 0, none⟩) (ps.length + 1) cap)
  have hk8 : w8.heap[kb]? = some (.cells (bc.setIfInBounds 0 (.int .i64 (n0 + 1))) 49 (0, 0)) :=
    (hgr.block kb (by omega) fun e => (h.tout kb e.symm).1 rfl).trans ((Below.heap_alloc w4.drew o kb (by omega)).trans hk4)
  have hset := Below.heap_setCell w8 ⟨kb, 4, none⟩ (.slice (some ⟨g, 0, none⟩) (ps.length + 1) cap)
  have hgk : g ≠ kb := fun e => by
    rcases hat with h1 | ⟨h1, _⟩
    · exact (h.tout g h1).1 e
    · omega
  have hgT : ∀ q, (Value.slice (some ⟨g, 0, none⟩) (ps.length + 1) cap).ownBlock = some q → (Value.slice TA ps.length tc).ownBlock = some q ∨ w4.heap.size < q := fun q hq => by
    obtain rfl : g = q := Option.some.inj hq
    rcases hat with h1 | ⟨h1, _⟩
    · exact .inl h1
    · exact .inr (by omega)
  have hlate : ∀ q, q < w4.heap.size → q ≠ kb → (Value.slice TA ps.length tc).ownBlock ≠ some q → (w8.setCell ⟨kb, 4, none⟩ (.slice (some ⟨g, 0, none⟩) (ps.length + 1) cap)).heap[q]? = w4.heap[q]? := fun q h1 h2 h3 =>
    (hset q h2).trans ((hgr.block q (by omega) fun e => h3 e.symm).trans (Below.heap_alloc w4.drew o q (by omega)))
  have hg2l : g2 < w4.heap.size := (hG.lt g2 rfl).2
  have hg2k : g2 ≠ kb ∧ g2 ≠ 3 ∧ ¬ BookF (.slice TA ps.length tc) ps g2 := by
    rcases hg2 with e | e
    · exact hlb g2 e
    · refine ⟨by omega, by omega, fun h3 => ?_⟩
      rcases h3 with e2 | ⟨j, hj, e2⟩
      · have := hTl g2 e2
        omega
      · have := h.pages.lt j hj g2 e2
        omega
  have hcl : curL textF (⟨n0 + 1, true, true, l⟩ : PageV ByteArray) = marksL textF (n0 + 1) l.length := rfl
  have hG9 := ownsRow_keep (w' := w8.setCell ⟨kb, 4, none⟩ (.slice (some ⟨g, 0, none⟩) (ps.length + 1) cap)) hG fun q hq => by
    obtain rfl : g2 = q := Option.some.inj hq
    exact hlate g2 hg2l hg2k.1 fun e => hg2k.2.2 (.inl e)
  have htx' : TxtAt w4 (.slice A (marksL textF (n0 + 1) l.length).length c) (marksL textF (n0 + 1) l.length) := by rw [marksL_len]; exact htx
  have hrow : RowAt w4 (fun q => (Value.slice A l.length c).ownBlock = some q) 1 (.slice A l.length c) ((marksL textF (n0 + 1) l.length).map encT) := TxtAt.to_row htx fun q hq => hq
  refine ⟨⟨⟨n0 + 1, true, true, l⟩, .slice A l.length c, .slice (some ⟨g2, 0, none⟩) (l.length + 64) gc2, .slice none 0 0, fun q => (Value.slice A l.length c).ownBlock = some q ∨ q = g2⟩, ?_, rfl, ?_, ?_, hc⟩
  · refine h.pushD (D := fun q => (Value.slice A l.length c).ownBlock = some q) hps _ hc (fun q hq => ⟨(hlb q hq).2.1, (hlb q hq).2.2⟩) (heap_setCell_same hk8 _) (ownsRow_keep hown fun q hq => hset q (by obtain rfl : g = q := Option.some.inj hq; exact hgk)) ?_ ?_ ?_ ⟨by show 0 ≤ n0 + 1; omega, by show n0 + 1 ≤ 1048576; omega⟩ hkg
    · intro q hq
      rcases hgT q hq with h1 | h1
      · exact .inl h1
      · exact .inr (by omega)
    · refine ⟨⟨A, c, rfl⟩, hlen, fun hg => (by cases hg), fun hd => (by cases hd), fun _ => ⟨rfl, ?_, ?_⟩, ?_⟩
      · show World.ownsRow _ 0 9 1 _ (l.length + 64) (((curL textF (⟨n0 + 1, true, true, l⟩ : PageV ByteArray) ++ marksL textF (n0 + 1 + 100000) 64)).map encT).flatten
        rw [flatT, List.map_append, hcl]
        exact hG9
      · rw [hcl]
        exact hrow.keep fun q hq hlt => ⟨hlate q hlt (hlb q hq).1 (hlT q hq), .inl hq⟩
      · intro q hq
        rcases hq with hq | hq | hq
        · exact .inl hq
        · exact .inr (Option.some.inj hq).symm
        · cases hq
    · intro q hq
      rcases hq with hq | rfl
      · refine ⟨?_, (hlb q hq).1, (hlb q hq).2.1, (hlb q hq).2.2, fun e => ?_⟩
        · rw [World.size_setCell]
          have := hLl q hq
          omega
        · rcases hgT q e with h1 | h1
          · exact hlT q hq h1
          · have := hLl q hq
            omega
      · refine ⟨?_, hg2k.1, hg2k.2.1, hg2k.2.2, fun e => ?_⟩
        · rw [World.size_setCell]
          omega
        · rcases hgT _ e with h1 | h1
          · exact hg2k.2.2 (.inl h1)
          · omega
  · intro q hq
    rcases hq with hq | rfl
    · exact .inl hq
    · exact hg2
  · intro q hq
    rcases hgT q hq with h1 | h1
    · exact .inl h1
    · exact .inr (by omega)

set_option maxRecDepth 100000 in
set_option maxHeartbeats 4000000 in
theorem WriteTexts_any {w : World} {kb : Nat} {bc : Array Value} {Tv : Value} {ps : List (Pg ByteArray)} {n0 : Int} {A : Option Addr} {c B : Nat} {l : List ByteArray} (h : BookT w kb bc Tv ps) (hb0 : bc[0]? = some (.int .i64 n0)) (hn0 : 0 ≤ n0 ∧ n0 < 1048576) (hps : ps.length < 96)
    (hl : w.ownsRow B 9 1 (.slice A l.length c) l.length (l.map Value.string)) (hlen : l.length ≤ 1048576) (hlb : ∀ q, (Value.slice A l.length c).ownBlock = some q → q ≠ kb ∧ q ≠ 3 ∧ ¬ BookF Tv ps q) (hkg : kb ≠ 3) :
    Calls Tryz.prog 18 #[.pointer (some ⟨kb, 0, none⟩), .slice A l.length c] w fun e w' => e = .returned (.tuple #[]) ∧ ∃ Tv' p, BookT w' kb ((bc.setIfInBounds 0 (.int .i64 (n0 + 1))).setIfInBounds 4 Tv') Tv' (ps ++ [p]) ∧ p.v = ⟨n0 + 1, true, true, l⟩ ∧
      (∀ q, p.F q → (Value.slice A l.length c).ownBlock = some q ∨ w.heap.size ≤ q) ∧ (∀ q, Tv'.ownBlock = some q → Tv.ownBlock = some q ∨ w.heap.size ≤ q) ∧ Ch (fun q => q = kb ∨ Tv.ownBlock = some q ∨ (Value.slice A l.length c).ownBlock = some q) w w' := by
  obtain ⟨ip, hip, hip0, hip1, hip2⟩ := info_parts info_page
  obtain ⟨TA, tc, rfl⟩ := own_form h.pages.own
  have hb := h.blk
  have b4 : w.cell? ⟨kb, 4, none⟩ = some (.slice TA ps.length tc) := by rw [cell_of_blk hb]; exact h.c4
  have hkl := heap_lt hb
  have hid := id_any hb hb0 hn0
  have HB := Lib.hid h
  have HL := Lib.hid hl
  have HLB := Lib.hid hlb
  have HB0 := Lib.hid hb0
  have HR := Lib.hid (And.intro (room96 hps) (room96b hps))
  have HTOP := Lib.hid (fun q (hq : (Value.slice TA ps.length tc).ownBlock = some q) => ((h.tout q hq).1 : q ≠ kb))
  have HS6 := Lib.hid (fun (W : World) (u : Value) (hbk : W.heap[kb]? = some (.cells (bc.setIfInBounds 0 u) 49 (0, 0))) => (show W.cell? ⟨kb, 4, none⟩ = some (.slice TA ps.length tc) from by rw [cell_of_blk hbk, Array.getElem?_setIfInBounds, if_neg (by decide)]; exact HB.out.c4))
  clear h hl hlb hb0
  go_enter Tryz.func18, Tryz.ntmps18
  have hlt96 : (ps.length : Int) < 96 := by omega
  have hid6 : ∃ w6, w6 = w.setCell ⟨kb, 0, none⟩ (.int .i64 (n0 + 1)) := ⟨_, rfl⟩
  go_wp2_with (go_at_call 29; refine hid.mono ?_; rintro en w6 ⟨rfl, hw6⟩; have HW6 := Lib.hid hw6; clear hw6)
  have hk6 : w6.heap[kb]? = some (.cells (bc.setIfInBounds 0 (.int .i64 (n0 + 1))) 49 (0, 0)) := by rw [HW6.out]; exact heap_setCell_same HB.out.blk _
  have hs6 : w6.heap.size = w.heap.size := by rw [HW6.out, World.size_setCell]
  obtain ⟨w7, hw7⟩ : ∃ w7, w7 = w6.alloc (.cells #[.slice A l.length c, .slice none 0 0, .slice none 0 0, .int .i64 (n0 + 1), .bool false] 68) := ⟨_, rfl⟩
  rw [← hw7]
  have hp7 : w7.heap[w6.heap.size]? = some (.cells #[.slice A l.length c, .slice none 0 0, .slice none 0 0, .int .i64 (n0 + 1), .bool false] 68 (0, 0)) := by rw [hw7]; exact World.alloc_heap_new w6 _
  have hk7 : w7.heap[kb]? = some (.cells (bc.setIfInBounds 0 (.int .i64 (n0 + 1))) 49 (0, 0)) := by rw [hw7]; exact (Below.heap_alloc w6 _ kb (by omega)).trans hk6
  have hc7 : Ch (fun q => q = kb) w w7 := by
    have c6 := (Ch.refl (fun q => q = kb) w).setCell (p := ⟨kb, 0, none⟩) (.inl rfl) (.int .i64 (n0 + 1))
    rw [← HW6.out] at c6
    rw [hw7]
    exact c6.alloc _
  have hown7 : w7.ownsRow 0 9 1 (.slice A l.length c) l.length (l.map Value.string) := own_base (ownsRow_keep HL.out fun q hq => hc7.block q (HL.out.lt q hq).2 (HLB.out q hq).1) fun _ _ => Nat.zero_le _
  have hpow7 := HB.out.pow.ch hc7 fun q hq => by rw [hq]; exact hkg
  have hs7 : w7.heap.size = w.heap.size + 1 := by rw [hw7, World.size_alloc, hs6]
  have hLp : ∀ q, (Value.slice A l.length c).ownBlock = some q → q ≠ w6.heap.size := fun q hq e => by have := (HL.out.lt q hq).2; omega
  have hidr : 0 ≤ n0 + 1 ∧ n0 + 1 ≤ 1048576 := ⟨by omega, by omega⟩
  have hfill := fill_any (w := w7) (pb := w6.heap.size) (po := 0) (A := A) (n := l.length) (c := c) (id := n0 + 1) (d := false) (xs := l.map Value.string) hp7 rfl rfl rfl hown7 hLp hlen hidr (fun W hW => hpow7.ch hW fun q hq => (HLB.out q hq).2.1)
  refine hfill.mono ?_
  rintro en w3 ⟨rfl, h31, h32, h33⟩
  have h31 : w3.heap[w6.heap.size]? = some (.cells #[.slice A l.length c, .slice none 0 0, .slice none 0 0, .int .i64 (n0 + 1), .bool true] 68 (0, 0)) := h31
  have hpl := HB.out.pow.lt
  have hpow3 := hpow7.ch h33 fun q hq => by
    rcases hq with rfl | hq
    · omega
    · exact (HLB.out q hq).2.1
  have hgrow := grow_any (w := w3) (pb := w6.heap.size) (po := 0) (A := A) (c := c) (id := n0 + 1) (l := marksL textF (n0 + 1) l.length) (G0 := .slice none 0 0) h31 (by rw [marksL_len]; rfl) rfl rfl (by rw [marksL_len]; exact h32) (by rw [marksL_len]; exact hLp) (by rw [marksL_len]; exact hlen) hidr (fun W hW => hpow3.ch hW fun q hq => by
    rw [marksL_len] at hq
    rcases hq with rfl | hq
    · omega
    · exact (HLB.out q hq).2.1)
  rw [marksL_len] at hgrow
  have hc3 : Ch (fun q => q = kb ∨ (Value.slice A l.length c).ownBlock = some q) w w3 := (hc7.mono (G := fun q => q = kb ∨ (Value.slice A l.length c).ownBlock = some q) fun q hq => .inl hq).trans h33 fun q hq => by
    rcases hq with rfl | hq
    · exact .inr (by omega)
    · exact .inl (.inr hq)
  have hk3 := (h33.block kb (by omega) fun e => by
    rcases e with e | e
    · omega
    · exact (HLB.out kb e).1 rfl).trans hk7
  have hs3 := h33.size
  have HX3 := Lib.hid (And.intro hc3 (And.intro hk3 (And.intro hs3 hs7)))
  have HS66 := Lib.hid hs6
  have HPL := Lib.hid hpl
  clear hfill h31 h32 h33 hpow3 hpow7 hown7 hc7 hp7 hw7 hk7 hc3 hk3 hs3 hLp hs7 b4 hk6 hs6 hpl hidr hid6 hid hb
  go_wp2_with (go_at_call 31; refine hgrow.mono ?_; rintro en w4 ⟨rfl, g2, gc2, h41, h42, h43, h44, h45⟩; have HG4 := Lib.hid (And.intro h41 (And.intro h42 (And.intro h43 (And.intro h44 h45)))); clear h41 h42 h43 h44 h45 hgrow)
  obtain ⟨h41, h42, h43, h44, h45⟩ := HG4.out
  have hs6 := HS66.out
  have hpl := HPL.out
  have h41 : w4.heap[w6.heap.size]? = some (.cells #[.slice A l.length c, .slice (some ⟨g2, 0, none⟩) (l.length + 64) gc2, .slice none 0 0, .int .i64 (n0 + 1), .bool true] 68 (0, 0)) := h41
  have hc4 : Ch (fun q => q = kb ∨ (Value.slice A l.length c).ownBlock = some q) w w4 := HX3.out.1.trans h45 fun q hq => by
    rcases hq with rfl | hq
    · exact .inr (by omega)
    · exact .inl (.inr hq)
  have hx3 := HX3.out
  have hk4 := (h45.block kb (by omega) fun e => by
    rcases e with e | e
    · omega
    · exact (HLB.out kb e).1 rfl).trans hx3.2.1
  have hs4 := h45.size
  have hg2 : (Value.slice A l.length c).ownBlock = some g2 ∨ w.heap.size ≤ g2 := by
    rcases h43 with e | e
    · exact .inl e
    · exact .inr (by omega)
  have HX4 := Lib.hid (And.intro hc4 (And.intro hk4 (And.intro h42 (And.intro hg2 h44))))
  have hk4l : kb < w4.heap.size := heap_lt hk4
  have hSP := Lib.hid (fun (W : World) (hb : W.heap[kb]? = w4.heap[kb]?) (hp : W.heap[w6.heap.size]? = w4.heap[w6.heap.size]?) => (show W.cell? ⟨kb, 4, none⟩ = some (.slice TA ps.length tc) ∧ W.cell? ⟨w6.heap.size, 0, none⟩ = some (.slice A l.length c) ∧ W.cell? ⟨w6.heap.size, 1, none⟩ = some (.slice (some ⟨g2, 0, none⟩) (l.length + 64) gc2) ∧ W.cell? ⟨w6.heap.size, 2, none⟩ = some (.slice none 0 0) ∧ W.cell? ⟨w6.heap.size, 3, none⟩ = some (.int .i64 (n0 + 1)) ∧ W.cell? ⟨w6.heap.size, 4, none⟩ = some (.bool true) from by
    refine ⟨HS6.out W _ (hb.trans HX4.out.2.1), ?_, ?_, ?_, ?_, ?_⟩ <;> rw [cell_of_blk (hp.trans h41)] <;> rfl))
  have hp4l := heap_lt h41
  clear hc4 hx3 hk4 hg2 h42 h43 h44 h45 h41 hs6 hpl hs4
  have hHeld := hSP.out w4.drew rfl rfl
  refine wp_region_n (n := 10) (S := fun w' => w'.cell? ⟨kb, 4, none⟩ = some (.slice TA ps.length tc) ∧ w'.cell? ⟨w6.heap.size, 0, none⟩ = some (.slice A l.length c) ∧ w'.cell? ⟨w6.heap.size, 1, none⟩ = some (.slice (some ⟨g2, 0, none⟩) (l.length + 64) gc2) ∧ w'.cell? ⟨w6.heap.size, 2, none⟩ = some (.slice none 0 0) ∧ w'.cell? ⟨w6.heap.size, 3, none⟩ = some (.int .i64 (n0 + 1)) ∧ w'.cell? ⟨w6.heap.size, 4, none⟩ = some (.bool true)) (by kernel_rfl) ?_
  refine wpAnyN_take (i := 0) (v := ?_) rfl (by kernel_rfl) (by kernel_rfl) (by kernel_rfl) (by kernel_rfl) (fun _ _ _ h => h) (Or.inl ⟨by kernel_rfl, ?y9⟩) hHeld ?_
  case y9 =>
    intro w0 hSw
    (try dsimp only at hSw)
    go_simp
    try with_reducible rfl
  try simp only [Act.put, qa12, qb12, qc12, qd12, qe12, qf12]
  refine wpAnyN_take (i := 1) (v := ?_) rfl (by kernel_rfl) (by kernel_rfl) (by kernel_rfl) (by kernel_rfl) (fun _ _ _ h => h) (Or.inl ⟨by kernel_rfl, ?y10⟩) hHeld ?_
  case y10 =>
    intro w0 hSw
    (try dsimp only at hSw)
    go_simp
    try with_reducible rfl
  try simp only [Act.put, qa12, qb12, qc12, qd12, qe12, qf12]
  refine wpAnyN_take (i := 2) (v := ?_) rfl (by kernel_rfl) (by kernel_rfl) (by kernel_rfl) (by kernel_rfl) (fun _ _ _ h => h) (Or.inl ⟨by kernel_rfl, ?y11⟩) hHeld ?_
  case y11 =>
    intro w0 hSw
    (try dsimp only at hSw)
    go_simp
    try with_reducible rfl
  try simp only [Act.put, qa12, qb12, qc12, qd12, qe12, qf12]
  refine wpAnyN_take (i := 3) (v := ?_) rfl (by kernel_rfl) (by kernel_rfl) (by kernel_rfl) (by kernel_rfl) (fun _ _ _ h => h) (Or.inl ⟨by kernel_rfl, ?y12⟩) hHeld ?_
  case y12 =>
    intro w0 hSw
    (try dsimp only at hSw)
    go_simp
    try with_reducible rfl
  try simp only [Act.put, qa12, qb12, qc12, qd12, qe12, qf12]
  refine wpAnyN_take (i := 4) (v := ?_) rfl (by kernel_rfl) (by kernel_rfl) (by kernel_rfl) (by kernel_rfl) (fun _ _ _ h => h) (Or.inl ⟨by kernel_rfl, ?y13⟩) hHeld ?_
  case y13 =>
    intro w0 hSw
    (try dsimp only at hSw)
    go_simp
    try with_reducible rfl
  try simp only [Act.put, qa12, qb12, qc12, qd12, qe12, qf12]
  refine wpAnyN_take (i := 5) (v := ?_) rfl (by kernel_rfl) (by kernel_rfl) (by kernel_rfl) (by kernel_rfl) (fun _ _ _ h => h) (Or.inl ⟨by kernel_rfl, ?y14⟩) hHeld ?_
  case y14 =>
    intro w0 hSw
    (try dsimp only at hSw)
    go_simp
    try with_reducible rfl
  try simp only [Act.put, qa12, qb12, qc12, qd12, qe12, qf12]
  refine wpAnyN_step (i := 6) (by kernel_rfl) rfl (fun K hK => ?_)
  have hb7 := bel1 w4.drew (.cells #[.slice A l.length c, .slice (some ⟨g2, 0, none⟩) (l.length + 64) gc2, .slice none 0 0, .int .i64 (n0 + 1), .bool true] 68)
  go_simp
  refine hK.out _ _ (fun _ => hSP.out _ (hb7.block kb hk4l) (hb7.block _ hp4l)) ?_
  clear hK K
  try simp only [Act.put, qa12, qb12, qc12, qd12, qe12, qf12]
  have hHeld := hSP.out _ (hb7.block kb hk4l) (hb7.block _ hp4l)
  have how7 : (w4.drew.alloc (.cells #[.slice A l.length c, .slice (some ⟨g2, 0, none⟩) (l.length + 64) gc2, .slice none 0 0, .int .i64 (n0 + 1), .bool true] 68)).ownsRow 0 68 5 (.slice TA ps.length tc) ps.length (ps.map Pg.cells).flatten := ownsRow_keep HB.out.pages.own fun q hq => by
    have hql := (HB.out.pages.own.lt q hq).2
    have hc4 := HX4.out.1
    have s4 := hc4.size
    rw [hb7.block q (Nat.lt_of_lt_of_le hql s4)]
    refine hc4.block q hql fun e => ?_
    rcases e with e | e
    · exact HTOP.out q hq e
    · exact (HLB.out q e).2.2 (.inl hq)
  refine wpAnyN_step (i := 7) (by kernel_rfl) rfl (fun K hK => ?_)
  refine step_append_keeps rfl _ _ 31 rfl 0 68 ip (.agg #[.slice none 0 0, .slice none 0 0, .slice none 0 0, .int .i64 0, .bool false]) 5 88 Tryz.underlying31 hip hip0 hip1 hip2 rfl (by decide) (.slice TA ps.length tc) ps.length (ps.map Pg.cells).flatten (by simp [Act.eval, Act.put]) how7 ⟨w4.heap.size, 0, none⟩ 1 1 [.slice A l.length c, .slice (some ⟨g2, 0, none⟩) (l.length + 64) gc2, .slice none 0 0, .int .i64 (n0 + 1), .bool true] (by simp [Act.eval, Act.put]) rfl (World.news_of_block (World.alloc_heap_new w4.drew _)) (page_one _ _ _ _ _ rfl rfl _ _) (by decide) HR.out.1 HR.out.2 (Nat.zero_le _) ?_
  intro g cap w8 hown8 hgrow8 hat8
  have hk8 := (hgrow8.block kb (Nat.lt_of_lt_of_le hk4l hb7.size) fun e => HTOP.out kb e.symm rfl).trans (hb7.block kb hk4l)
  have hp8 := (hgrow8.block w6.heap.size (Nat.lt_of_lt_of_le hp4l hb7.size) fun e => by
    have := (HB.out.pages.own.lt _ e.symm).2
    have hs6 := HS66.out
    omega).trans (hb7.block _ hp4l)
  have hHeld8 := hSP.out w8 hk8 hp8
  refine hK.out _ _ (fun _ => hHeld8) ?_
  clear hK K hHeld how7
  try simp only [Act.put, qa12, qb12, qc12, qd12, qe12, qf12]
  have hHeld := hHeld8
  clear hHeld8
  refine wpAnyN_step (i := 8) (by kernel_rfl) rfl (fun K hK => ?_)
  go_simp
  refine hK.out _ _ (fun _ => hHeld) ?_
  clear hK K
  try simp only [Act.put, qa12, qb12, qc12, qd12, qe12, qf12]
  refine wpAnyN_step (i := 9) (by kernel_rfl) rfl (fun K hK => ?_)
  go_simp
  refine hK.out _ _ (fun _ => hHeld) ?_
  clear hK K
  try simp only [Act.put, qa12, qb12, qc12, qd12, qe12, qf12]
  refine wpAnyN_step (i := 10) (by kernel_rfl) rfl (fun K hK => ?_)
  have f8 := frozen_blk (hk8.trans HX4.out.2.1) 4
  go_simp
  refine hK.out _ _ (fun h => absurd h (by decide)) ?_
  clear hK K
  try simp only [Act.put, qa12, qb12, qc12, qd12, qe12, qf12]
  refine wpAnyN_done (by kernel_rfl) ?_ _
  have HD := Lib.hid (write_done HB.out hn0 hps HL.out hlen HLB.out hkg HX4.out.1 HX4.out.2.1 HX4.out.2.2.1 HX4.out.2.2.2.1 HX4.out.2.2.2.2 hown8 hgrow8 hat8)
  clear hown8 hgrow8 hat8 hHeld
  go_wp2
  go_end0
  exact ⟨rfl, _, by as_aux_lemma => exact HD.out⟩
end Go.Proofs.YtplocldnklccfaaGreatDoor
