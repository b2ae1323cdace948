/- daybookref07.Copied: a base in memory of its own. Printed by gen_copied7.py; daybookref07.Same: two bases of one content are alike. Printed by gen_same7.py; The books' laws: from a walk to a row: what the arguments are, what the bound gives, that all reads as it did. -/
import Derived.Test.YtgocoofcelggcaaGreatDoorPack15
import Derived.Test.YtgocoofcelggcaaGreatDoorPack14
import Derived.Deep.QuietTactic
import Derived.Deep.RegionHeld3
import Derived.Test.YtgocoofcelggcaaGreatDoorRows
import Derived.ProofKit
import Derived.OpenShut
import Derived.Deep.Slices
import Derived.Deep.Fields
import Derived.ChangeSame
import Derived.Carry
namespace Go.Proofs.YtgocoofcelggcaaGreatDoor
open Go.RowKit
set_option linter.unusedVariables false
set_option linter.unusedSimpArgs false

theorem enc_len7_encStr (l : List ByteArray) : ∀ x ∈ l.map encStr, x.length = 1 := fun x hx => by obtain ⟨z, _, rfl⟩ := List.mem_map.1 hx; rfl
theorem enc_one7_encStr (l : List ByteArray) : ∀ x ∈ l.map encStr, ∀ u ∈ x, u.oneCell' = true := fun x hx u hu => by
  obtain ⟨z, _, rfl⟩ := List.mem_map.1 hx
  simp only [encStr, List.mem_cons, List.not_mem_nil, or_false] at hu
  rcases hu with rfl <;> rfl
theorem enc_len7_encA (l : List Acct) : ∀ x ∈ l.map encA, x.length = 4 := fun x hx => by obtain ⟨z, _, rfl⟩ := List.mem_map.1 hx; rfl
theorem enc_one7_encA (l : List Acct) : ∀ x ∈ l.map encA, ∀ u ∈ x, u.oneCell' = true := fun x hx u hu => by
  obtain ⟨z, _, rfl⟩ := List.mem_map.1 hx
  simp only [encA, List.mem_cons, List.not_mem_nil, or_false] at hu
  rcases hu with rfl | rfl | rfl | rfl <;> rfl
theorem enc_len7_encPost (l : List PostV) : ∀ x ∈ l.map encPost, x.length = 9 := fun x hx => by obtain ⟨z, _, rfl⟩ := List.mem_map.1 hx; rfl
theorem enc_one7_encPost (l : List PostV) : ∀ x ∈ l.map encPost, ∀ u ∈ x, u.oneCell' = true := fun x hx u hu => by
  obtain ⟨z, _, rfl⟩ := List.mem_map.1 hx
  simp only [encPost, List.mem_cons, List.not_mem_nil, or_false] at hu
  rcases hu with rfl | rfl | rfl | rfl | rfl | rfl | rfl | rfl | rfl <;> rfl
theorem enc_len7_encClaim (l : List ClaimV) : ∀ x ∈ l.map encClaim, x.length = 5 := fun x hx => by obtain ⟨z, _, rfl⟩ := List.mem_map.1 hx; rfl
theorem enc_one7_encClaim (l : List ClaimV) : ∀ x ∈ l.map encClaim, ∀ u ∈ x, u.oneCell' = true := fun x hx u hu => by
  obtain ⟨z, _, rfl⟩ := List.mem_map.1 hx
  simp only [encClaim, List.mem_cons, List.not_mem_nil, or_false] at hu
  rcases hu with rfl | rfl | rfl | rfl | rfl <;> rfl
theorem enc_len7_encAllot (l : List AllotV) : ∀ x ∈ l.map encAllot, x.length = 4 := fun x hx => by obtain ⟨z, _, rfl⟩ := List.mem_map.1 hx; rfl
theorem enc_one7_encAllot (l : List AllotV) : ∀ x ∈ l.map encAllot, ∀ u ∈ x, u.oneCell' = true := fun x hx u hu => by
  obtain ⟨z, _, rfl⟩ := List.mem_map.1 hx
  simp only [encAllot, List.mem_cons, List.not_mem_nil, or_false] at hu
  rcases hu with rfl | rfl | rfl | rfl <;> rfl
theorem info7_str : (Tryz.prog.info? 9).map (fun i => (i.zero, i.size, i.bytes)) = some (some (.string ByteArray.empty), 1, 16) := by kernel_rfl
theorem info7_acc : (Tryz.prog.info? 65).map (fun i => (i.zero, i.size, i.bytes)) = some (some (.agg #[.string ByteArray.empty, .int .i64 0, .int .i64 0, .bool false]), 4, 40) := by kernel_rfl
theorem info7_all : (Tryz.prog.info? 87).map (fun i => (i.zero, i.size, i.bytes)) = some (some (.agg #[.string ByteArray.empty, .string ByteArray.empty, .int .i64 0, .int .i64 0]), 4, 48) := by kernel_rfl
theorem own_ch {w w' : World} {b B e s n : Nat} {v : Value} {xs : List Value} (h : w.ownsRow B e s v n xs) (hc : Ch (fun q => q = b) w w') (hb : b < B) : w'.ownsRow B e s v n xs :=
  ownsRow_keep h fun k e => hc.block k (h.lt k e).2 fun e2 => by have := (h.lt k e).1; have e3 : k = b := e2; omega

/-- While the copy is made: the base, the answer's cells, the copy's. -/
structure CopSt (w : World) (oa oz cs : Array Value) (W : World) : Prop where
  bel : Below w.heap.size w W
  h1 : W.heap[w.heap.size]? = some (.cells oa 50 (0, 0))
  h2 : W.heap[w.heap.size + 1]? = some (.cells oz 50 (0, 0))
  h3 : W.heap[w.heap.size + 1 + 1]? = some (.cells cs 50 (0, 0))
section
variable {w W : World} {oa oz cs : Array Value}
theorem CopSt.le (h : CopSt w oa oz cs W) : w.heap.size + 3 ≤ W.heap.size := heap_lt h.h3
theorem CopSt.mid (h : CopSt w oa oz cs W) {w5 : World} {row : Option Nat} (hg : W.grownBy w5 row) (hr : ∀ k, row = some k → w.heap.size + 3 ≤ k) : CopSt w oa oz cs w5 := by
  have hl := h.le
  have hk : ∀ q, q < w.heap.size + 3 → w5.heap[q]? = W.heap[q]? := fun q hq => hg.block q (by omega) fun e => by have := hr q e.symm; omega
  exact ⟨h.bel.grown hg (by omega) fun k e => by have := hr k e; omega, (hk _ (by omega)).trans h.h1, (hk _ (by omega)).trans h.h2, (hk _ (by omega)).trans h.h3⟩
theorem CopSt.set (h : CopSt w oa oz cs W) (i : Nat) (v : Value) : CopSt w oa oz (cs.setIfInBounds i v) (W.setCell ⟨w.heap.size + 1 + 1, i, none⟩ v) :=
  ⟨h.bel.setCell (by show w.heap.size ≤ w.heap.size + 1 + 1; omega) v, (Below.heap_setCell _ _ _ _ (by show w.heap.size ≠ w.heap.size + 1 + 1; omega)).trans h.h1, (Below.heap_setCell _ _ _ _ (by show w.heap.size + 1 ≠ w.heap.size + 1 + 1; omega)).trans h.h2, heap_setCell_same h.h3 v⟩
theorem CopSt.ch (h : CopSt w oa oz cs W) {W' : World} {cs' : Array Value} (hc : Ch (fun q => q = w.heap.size + 1 + 1) W W') (h3 : W'.heap[w.heap.size + 1 + 1]? = some (.cells cs' 50 (0, 0))) : CopSt w oa oz cs' W' := by
  have hl := h.le
  have hk : ∀ q, q < w.heap.size + 1 + 1 → W'.heap[q]? = W.heap[q]? := fun q hq => hc.block q (by omega) fun e => by have e3 : q = w.heap.size + 1 + 1 := e; omega
  exact ⟨h.bel.trans (hc.toBelow (by omega) fun k e => by have e3 : k = w.heap.size + 1 + 1 := e; omega), (hk _ (by omega)).trans h.h1, (hk _ (by omega)).trans h.h2, h3⟩
end
structure CopInv (w : World) (oa oz : Array Value) (es : List EntryV) (cs : Value → Array Value) (X : World) (i : Value) (wr : World) (k : Nat) : Prop where
  le : k ≤ es.length
  at_ : i = .int .i64 (k : Int)
  ex : ∃ A c lv, CopSt w oa oz (cs (.slice A k c)) wr ∧ EntsAt X.heap.size es k (.slice A k c) lv wr
  ch : Ch (fun q => q = w.heap.size + 1 + 1) X wr
theorem copInv_open {w : World} {oa oz : Array Value} {es : List EntryV} {cs : Value → Array Value} {X : World} {i : Value} {wr : World} (h : ∃ k, CopInv w oa oz es cs X i wr k) : ∃ k, k ≤ es.length ∧ i = .int .i64 ((k : Nat) : Int) ∧ ∃ A c lv, CopSt w oa oz (cs (.slice A k c)) wr ∧ EntsAt X.heap.size es k (.slice A k c) lv wr ∧ Ch (fun q => q = w.heap.size + 1 + 1) X wr := by
  obtain ⟨k, h1, h2, ⟨A, c, lv, h3, h4⟩, h5⟩ := h
  exact ⟨k, h1, h2, A, c, lv, h3, h4, h5⟩

set_option maxRecDepth 100000 in
set_option maxHeartbeats 16000000 in
theorem Copied_all {w : World} {R : Nat → Prop} {kV aV rV eV iV pV lV : Value} {lv : Nat → Value} {S : BookS} (h : BaseP w R kV aV rV eV iV pV lV lv S) (hl : BaseLe S) :
    Calls Tryz.prog 18 #[baseV S kV aV rV eV iV pV lV] w fun en w' => ∃ kV aV rV eV iV pV lV lv, en = .returned (baseV S kV aV rV eV iV pV lV) ∧ BaseP w' (fun q => w.heap.size ≤ q) kV aV rV eV iV pV lV lv S ∧ Below w.heap.size w w' := by
  obtain ⟨is, his, his0, his1, his2⟩ := info_parts info7_str
  obtain ⟨ia, hia, hia0, hia1, hia2⟩ := info_parts info7_acc
  obtain ⟨ip, hip, hip0, hip1, hip2⟩ := info_parts info_post
  obtain ⟨ie, hie, hez0, hez1, hez2⟩ := info_parts info_entry
  obtain ⟨icl, hicl, hicl0, hicl1, hicl2⟩ := info_parts info_claim
  obtain ⟨il, hil, hil0, hil1, hil2⟩ := info_parts info7_all
  obtain ⟨iln, hiln, hiln0, hiln1, hiln2⟩ := info_parts info_line
  obtain ⟨kA, kc, hfk, _⟩ := h.keys.form
  obtain ⟨aA, ac, hfa, _⟩ := h.accs.form
  obtain ⟨rA, rc, hfr, _⟩ := h.rows.form
  obtain ⟨eA, ec, hfe, _⟩ := h.ents.form
  obtain ⟨iA, ic, hfi, _⟩ := h.invs.form
  obtain ⟨pA, pc, hfp, _⟩ := h.pays.form
  obtain ⟨lA, lc, hfl, _⟩ := h.alls.form
  rw [List.length_map] at hfk hfa hfr hfi hfp hfl
  rw [entC_len] at hfe
  subst hfk hfa hfr hfe hfi hfp hfl
  have HL := Lib.hid (And.intro hl.keys (And.intro hl.accs (And.intro hl.rows (And.intro hl.invs (And.intro hl.pays hl.alls)))))
  have HLL := Lib.hid hl
  have hle := hl.ents
  have HP := Lib.hid (fun W (hb : Below w.heap.size w W) => h.below hb)
  obtain ⟨W3, hW3⟩ : ∃ W3, ((w.alloc (.cells #[.int .i64 S.events, .slice kA S.keys.length kc, .slice aA S.chart.length ac, .slice rA S.rows.length rc, .slice eA S.entries.length ec, .slice iA (invs S).length ic, .slice pA (pays S).length pc, .slice lA S.allots.length lc, .int .i64 S.lock] 50)).alloc (.cells #[.int .i64 0, .slice none 0 0, .slice none 0 0, .slice none 0 0, .slice none 0 0, .slice none 0 0, .slice none 0 0, .slice none 0 0, .int .i64 0] 50)).alloc (.cells #[.int .i64 S.events, .slice kA S.keys.length kc, .slice aA S.chart.length ac, .slice rA S.rows.length rc, .slice eA S.entries.length ec, .slice iA (invs S).length ic, .slice pA (pays S).length pc, .slice lA S.allots.length lc, .int .i64 S.lock] 50) = W3 := ⟨_, rfl⟩
  have hS : CopSt w #[.int .i64 S.events, .slice kA S.keys.length kc, .slice aA S.chart.length ac, .slice rA S.rows.length rc, .slice eA S.entries.length ec, .slice iA (invs S).length ic, .slice pA (pays S).length pc, .slice lA S.allots.length lc, .int .i64 S.lock] #[.int .i64 0, .slice none 0 0, .slice none 0 0, .slice none 0 0, .slice none 0 0, .slice none 0 0, .slice none 0 0, .slice none 0 0, .int .i64 0] #[.int .i64 S.events, .slice kA S.keys.length kc, .slice aA S.chart.length ac, .slice rA S.rows.length rc, .slice eA S.entries.length ec, .slice iA (invs S).length ic, .slice pA (pays S).length pc, .slice lA S.allots.length lc, .int .i64 S.lock] W3 := by
    subst hW3
    have h1 := World.alloc_heap_new w (.cells #[.int .i64 S.events, .slice kA S.keys.length kc, .slice aA S.chart.length ac, .slice rA S.rows.length rc, .slice eA S.entries.length ec, .slice iA (invs S).length ic, .slice pA (pays S).length pc, .slice lA S.allots.length lc, .int .i64 S.lock] 50)
    have h2 := World.alloc_heap_new (w.alloc (.cells #[.int .i64 S.events, .slice kA S.keys.length kc, .slice aA S.chart.length ac, .slice rA S.rows.length rc, .slice eA S.entries.length ec, .slice iA (invs S).length ic, .slice pA (pays S).length pc, .slice lA S.allots.length lc, .int .i64 S.lock] 50)) (.cells #[.int .i64 0, .slice none 0 0, .slice none 0 0, .slice none 0 0, .slice none 0 0, .slice none 0 0, .slice none 0 0, .slice none 0 0, .int .i64 0] 50)
    have h3 := World.alloc_heap_new ((w.alloc (.cells #[.int .i64 S.events, .slice kA S.keys.length kc, .slice aA S.chart.length ac, .slice rA S.rows.length rc, .slice eA S.entries.length ec, .slice iA (invs S).length ic, .slice pA (pays S).length pc, .slice lA S.allots.length lc, .int .i64 S.lock] 50)).alloc (.cells #[.int .i64 0, .slice none 0 0, .slice none 0 0, .slice none 0 0, .slice none 0 0, .slice none 0 0, .slice none 0 0, .slice none 0 0, .int .i64 0] 50)) (.cells #[.int .i64 S.events, .slice kA S.keys.length kc, .slice aA S.chart.length ac, .slice rA S.rows.length rc, .slice eA S.entries.length ec, .slice iA (invs S).length ic, .slice pA (pays S).length pc, .slice lA S.allots.length lc, .int .i64 S.lock] 50)
    simp only [World.size_alloc] at h2 h3
    exact ⟨((bel1 w (.cells #[.int .i64 S.events, .slice kA S.keys.length kc, .slice aA S.chart.length ac, .slice rA S.rows.length rc, .slice eA S.entries.length ec, .slice iA (invs S).length ic, .slice pA (pays S).length pc, .slice lA S.allots.length lc, .int .i64 S.lock] 50)).alloc (by simp) (.cells #[.int .i64 0, .slice none 0 0, .slice none 0 0, .slice none 0 0, .slice none 0 0, .slice none 0 0, .slice none 0 0, .slice none 0 0, .int .i64 0] 50)).alloc (by simp; omega) (.cells #[.int .i64 S.events, .slice kA S.keys.length kc, .slice aA S.chart.length ac, .slice rA S.rows.length rc, .slice eA S.entries.length ec, .slice iA (invs S).length ic, .slice pA (pays S).length pc, .slice lA S.allots.length lc, .int .i64 S.lock] 50), (Below.heap_alloc _ _ _ (by simp; omega)).trans ((Below.heap_alloc _ _ _ (by simp)).trans h1), (Below.heap_alloc _ _ _ (by simp)).trans h2, h3⟩
  have a1 : W3.cell? ⟨w.heap.size, 1, none⟩ = some (.slice kA S.keys.length kc) := by rw [cell_of_blk hS.h1]; rfl
  have hn1 : ¬ (w.heap.size + 1 + 1 = w.heap.size) := by omega
  have hn2 : ¬ (w.heap.size = w.heap.size + 1 + 1) := by omega
  have hn3 : ¬ (w.heap.size + 1 + 1 = w.heap.size + 1) := by omega
  have hn4 : ¬ (w.heap.size + 1 = w.heap.size + 1 + 1) := by omega
  have hn5 : ¬ (w.heap.size = w.heap.size + 1) := by omega
  unfold baseV
  clear h hl
  go_enter Tryz.func18, Tryz.ntmps18
  go_wp2_with (at_builtin; refine wpList_append_row rfl _ _ 44 rfl (w.heap.size + 3) 9 is (.string ByteArray.empty) 1 16 Tryz.underlying44 his his0 his1 his2 rfl (by decide) _ _ _ rfl (World.ownsRow_nil _ _ _ _) (.slice kA S.keys.length kc) (S.keys.map encStr) rfl ((HP.out _ hS.bel).keys) (HP.out _ hS.bel).nils.1 (enc_len7_encStr _) (enc_one7_encStr _) ?l1 ?l2 ?l3 ?_)
  case l1 => rw [List.length_map]; have := HL.out; unfold maxLen; omega
  case l2 => rw [List.length_map]; have := HL.out; omega
  case l3 => exact hS.le
  intro vk wk hok hgk hak
  have hok : wk.ownsRow (w.heap.size + 3) 9 1 vk S.keys.length (S.keys.map encStr).flatten := by simpa using hok
  obtain ⟨nAk, nck, hfk⟩ := own_form hok
  subst hfk
  have hmk := hS.mid hgk (fun k e => by cases e)
  have hSk := hmk.set 1 (.slice nAk S.keys.length nck)
  have hCk := ((Ch.refl (fun q => q = w.heap.size + 1 + 1) _).grown hgk (fun k e => by cases e)).setCell (p := ⟨w.heap.size + 1 + 1, 1, none⟩) (.inl rfl) (.slice nAk S.keys.length nck)
  have q3k : wk.cell? ⟨w.heap.size + 1 + 1, 1, none⟩ = some (.slice kA S.keys.length kc) := by rw [cell_of_blk hmk.h3]; rfl
  have f3k := frozen_blk hmk.h3 1
  have hok := own_ch (ownsRow_keep (w' := (wk.setCell ⟨w.heap.size + 1 + 1, 1, none⟩ (.slice nAk S.keys.length nck))) hok fun q e => Below.heap_setCell _ _ _ _ (by have := (hok.lt q e).1; show q ≠ w.heap.size + 1 + 1; omega)) (Ch.refl _ _) (Nat.lt_succ_self _)
  have a2 : (wk.setCell ⟨w.heap.size + 1 + 1, 1, none⟩ (.slice nAk S.keys.length nck)).cell? ⟨w.heap.size, 2, none⟩ = some (.slice aA S.chart.length ac) := by rw [cell_of_blk hSk.h1]; rfl
  clear hmk hCk hgk hak
  go_wp2_with (at_builtin; refine wpList_append_row rfl _ _ 45 rfl (w.heap.size + 3) 65 ia (.agg #[.string ByteArray.empty, .int .i64 0, .int .i64 0, .bool false]) 4 40 Tryz.underlying45 hia hia0 hia1 hia2 rfl (by decide) _ _ _ rfl (World.ownsRow_nil _ _ _ _) (.slice aA S.chart.length ac) (S.chart.map encA) rfl ((HP.out _ hSk.bel).accs) (HP.out _ hSk.bel).nils.2.1 (enc_len7_encA _) (enc_one7_encA _) ?l1 ?l2 ?l3 ?_)
  case l1 => rw [List.length_map]; have := HL.out; unfold maxLen; omega
  case l2 => rw [List.length_map]; have := HL.out; omega
  case l3 => exact hSk.le
  intro va wa hoa hga haa
  have hoa : wa.ownsRow (w.heap.size + 3) 65 4 va S.chart.length (S.chart.map encA).flatten := by simpa using hoa
  obtain ⟨nAa, nca, hfa⟩ := own_form hoa
  subst hfa
  have hma := hSk.mid hga (fun k e => by cases e)
  have hSa := hma.set 2 (.slice nAa S.chart.length nca)
  have hCa := ((Ch.refl (fun q => q = w.heap.size + 1 + 1) _).grown hga (fun k e => by cases e)).setCell (p := ⟨w.heap.size + 1 + 1, 2, none⟩) (.inl rfl) (.slice nAa S.chart.length nca)
  have q3a : wa.cell? ⟨w.heap.size + 1 + 1, 2, none⟩ = some (.slice aA S.chart.length ac) := by rw [cell_of_blk hma.h3]; rfl
  have f3a := frozen_blk hma.h3 2
  have hoa := own_ch (ownsRow_keep (w' := (wa.setCell ⟨w.heap.size + 1 + 1, 2, none⟩ (.slice nAa S.chart.length nca))) hoa fun q e => Below.heap_setCell _ _ _ _ (by have := (hoa.lt q e).1; show q ≠ w.heap.size + 1 + 1; omega)) (Ch.refl _ _) (Nat.lt_succ_self _)
  have hok := own_ch hok hCa (Nat.lt_succ_self _)
  have a3 : (wa.setCell ⟨w.heap.size + 1 + 1, 2, none⟩ (.slice nAa S.chart.length nca)).cell? ⟨w.heap.size, 3, none⟩ = some (.slice rA S.rows.length rc) := by rw [cell_of_blk hSa.h1]; rfl
  clear hma hCa hga haa
  go_wp2_with (at_builtin; refine wpList_append_row rfl _ _ 29 rfl (w.heap.size + 3) 39 ip (.agg #[.int .i64 0, .int .i64 0, .int .i64 0, .int .i64 0, .string ByteArray.empty, .string ByteArray.empty, .int .i64 0, .string ByteArray.empty, .string ByteArray.empty]) 9 104 Tryz.underlying29 hip hip0 hip1 hip2 rfl (by decide) _ _ _ rfl (World.ownsRow_nil _ _ _ _) (.slice rA S.rows.length rc) (S.rows.map encPost) rfl ((HP.out _ hSa.bel).rows) (HP.out _ hSa.bel).nils.2.2.1 (enc_len7_encPost _) (enc_one7_encPost _) ?l1 ?l2 ?l3 ?_)
  case l1 => rw [List.length_map]; have := HL.out; unfold maxLen; omega
  case l2 => rw [List.length_map]; have := HL.out; omega
  case l3 => exact hSa.le
  intro vr wr hor hgr har
  have hor : wr.ownsRow (w.heap.size + 3) 39 9 vr S.rows.length (S.rows.map encPost).flatten := by simpa using hor
  obtain ⟨nAr, ncr, hfr⟩ := own_form hor
  subst hfr
  have hmr := hSa.mid hgr (fun k e => by cases e)
  have hSr := hmr.set 3 (.slice nAr S.rows.length ncr)
  have hCr := ((Ch.refl (fun q => q = w.heap.size + 1 + 1) _).grown hgr (fun k e => by cases e)).setCell (p := ⟨w.heap.size + 1 + 1, 3, none⟩) (.inl rfl) (.slice nAr S.rows.length ncr)
  have q3r : wr.cell? ⟨w.heap.size + 1 + 1, 3, none⟩ = some (.slice rA S.rows.length rc) := by rw [cell_of_blk hmr.h3]; rfl
  have f3r := frozen_blk hmr.h3 3
  have hor := own_ch (ownsRow_keep (w' := (wr.setCell ⟨w.heap.size + 1 + 1, 3, none⟩ (.slice nAr S.rows.length ncr))) hor fun q e => Below.heap_setCell _ _ _ _ (by have := (hor.lt q e).1; show q ≠ w.heap.size + 1 + 1; omega)) (Ch.refl _ _) (Nat.lt_succ_self _)
  have hok := own_ch hok hCr (Nat.lt_succ_self _)
  have hoa := own_ch hoa hCr (Nat.lt_succ_self _)
  clear hmr hCr hgr har
  have hS0 := hSr.set 4 (.slice none 0 0)
  have q34 : (wr.setCell ⟨w.heap.size + 1 + 1, 3, none⟩ (.slice nAr S.rows.length ncr)).cell? ⟨w.heap.size + 1 + 1, 4, none⟩ = some (.slice eA S.entries.length ec) := by rw [cell_of_blk hSr.h3]; rfl
  have f34 := frozen_blk hSr.h3 4
  have hC0 := (Ch.refl (fun q => q = w.heap.size + 1 + 1) (wr.setCell ⟨w.heap.size + 1 + 1, 3, none⟩ (.slice nAr S.rows.length ncr))).setCell (p := ⟨w.heap.size + 1 + 1, 4, none⟩) (.inl rfl) (.slice none 0 0)
  have hok := own_ch hok hC0 (Nat.lt_succ_self _)
  have hoa := own_ch hoa hC0 (Nat.lt_succ_self _)
  have hor := own_ch hor hC0 (Nat.lt_succ_self _)
  have HS0 := Lib.hid hS0
  have HOK := Lib.hid hok
  have HOA := Lib.hid hoa
  have HOR := Lib.hid hor
  clear hS0 hok hoa hor hC0
  have a40 : ((wr.setCell ⟨w.heap.size + 1 + 1, 3, none⟩ (.slice nAr S.rows.length ncr)).setCell ⟨w.heap.size + 1 + 1, 4, none⟩ (.slice none 0 0)).cell? ⟨w.heap.size, 4, none⟩ = some (.slice eA S.entries.length ec) := by rw [cell_of_blk HS0.out.h1]; rfl
  go_wp2
  generalize (wr.setCell ⟨w.heap.size + 1 + 1, 3, none⟩ (.slice nAr S.rows.length ncr)).setCell ⟨w.heap.size + 1 + 1, 4, none⟩ (.slice none 0 0) = X0 at HS0 HOK HOA HOR ⊢
  clear a40 q34 f34
  go_loopw [4] (fun i wr => ∃ k : Nat, CopInv w #[.int .i64 S.events, .slice kA S.keys.length kc, .slice aA S.chart.length ac, .slice rA S.rows.length rc, .slice eA S.entries.length ec, .slice iA (invs S).length ic, .slice pA (pays S).length pc, .slice lA S.allots.length lc, .int .i64 S.lock] #[.int .i64 0, .slice none 0 0, .slice none 0 0, .slice none 0 0, .slice none 0 0, .slice none 0 0, .slice none 0 0, .slice none 0 0, .int .i64 0] S.entries (fun ev => #[.int .i64 S.events, .slice nAk S.keys.length nck, .slice nAa S.chart.length nca, .slice nAr S.rows.length ncr, ev, .slice iA (invs S).length ic, .slice pA (pays S).length pc, .slice lA S.allots.length lc, .int .i64 S.lock]) X0 i wr k) (fun i _ => S.entries.length - (intOf i).toNat)
  case atStart => exact ⟨0, Nat.zero_le _, rfl, ⟨none, 0, fun _ => .slice none 0 0, HS0.out, EntsAt.zero _ _ _ _⟩, Ch.refl _ _⟩
  case round =>
    obtain ⟨k, hk, rfl, ⟨A, c, clv, hst0, hea, hch⟩⟩ := copInv_open hrel
    have hown := hea.own
    have HEA := Lib.hid hea
    have HST := Lib.hid hst0
    have hd := hst0.h3
    have hbel := hst0.bel
    have hcs0 : w.heap.size + 3 ≤ X0.heap.size := HS0.out.le
    have hcs1 : X0.heap.size ≤ wr.heap.size := hch.size
    have a4 : wr.cell? ⟨w.heap.size, 4, none⟩ = some (.slice eA S.entries.length ec) := by rw [cell_of_blk hst0.h1]; rfl
    clear hea hst0
    by_cases hlt : k < S.entries.length
    · have hpW := HP.out wr hbel
      obtain ⟨eA2, ec2, hev, hex⟩ := hpW.ents.form
      rw [entC_len] at hev
      cases hev
      obtain ⟨ad, had, hab, _, hcs⟩ := hex k (by rw [entC_len]; exact hlt)
      have hLk := hpW.lines k hlt
      have hnk := hpW.lnil k hlt
      rw [entC_get] at hcs
      obtain ⟨lA', lc', hlf⟩ := lines_form hLk
      have hll := HLL.out.lines _ (List.getElem_mem hlt)
      obtain ⟨x, hx⟩ : ∃ x, x = S.entries[k] := ⟨_, rfl⟩
      rw [← hx] at hcs hLk hlf hll
      have HXX := Lib.hid hx
      rw [hlf] at hcs hLk hnk
      cases had
      have g0 : wr.cell? (ad.add (k * 4)) = some (.string x.key) := hcs 0 _ rfl
      have g1 : wr.cell? ⟨(ad.add (k * 4)).block, (ad.add (k * 4)).off + 1, none⟩ = some (.int .i64 x.day) := hcs 1 _ rfl
      have g2 : wr.cell? ⟨(ad.add (k * 4)).block, (ad.add (k * 4)).off + 2, none⟩ = some (.slice lA' x.lines.length lc') := hcs 2 _ rfl
      have g3 : wr.cell? ⟨(ad.add (k * 4)).block, (ad.add (k * 4)).off + 3, none⟩ = some (.string x.void) := hcs 3 _ rfl
      have hbx := bel1 wr (.cells #[.string x.key, .int .i64 x.day, .slice lA' x.lines.length lc', .string x.void] 81)
      have hnx := World.alloc_heap_new wr (.cells #[.string x.key, .int .i64 x.day, .slice lA' x.lines.length lc', .string x.void] 81)
      have HLK := Lib.hid (hLk.below hbx)
      have HBX := Lib.hid hbx
      have HNX := Lib.hid hnx
      have HOWN := Lib.hid hown
      have HD := Lib.hid hd
      have HCH := Lib.hid hch
      have hBr := heap_lt hd
      have HNK := Lib.hid hnk
      clear hpW hcs hLk hlf hx hbx hnx hown hd hch hnk hex
      go_wp2_with (at_builtin; refine wpList_append_row rfl _ _ 23 rfl (wr.heap.size + 1) 90 iln (.agg #[.string ByteArray.empty, .int .i64 0, .string ByteArray.empty]) 3 40 Tryz.underlying23 hiln hiln0 hiln1 hiln2 rfl (by decide) _ _ _ rfl (World.ownsRow_nil _ _ _ _) (.slice lA' x.lines.length lc') (x.lines.map encLine) rfl HLK.out HNK.out (lines_len _) (lines_one _) ?m1 ?m2 ?m3 ?_)
      case m1 => rw [List.length_map]; unfold maxLen; omega
      case m2 => rw [List.length_map]; omega
      case m3 => simp
      intro cv wc hcv hgw hatw
      have hcv : wc.ownsRow (wr.heap.size + 1) 90 3 cv x.lines.length (x.lines.map encLine).flatten := by simpa using hcv
      have hbc := (Below.refl _ _).grown hgw (Nat.le_refl _) fun k e => by cases e
      clear hgw hatw
      obtain ⟨cA, cc, hcf⟩ := own_form hcv
      subst hcf
      have hcs2 := hbc.size
      rw [World.size_alloc] at hcs2
      have hx2 := (hbc.block wr.heap.size (by simp)).trans HNX.out
      have hd2 := (hbc.block (w.heap.size + 1 + 1) (by simp; omega)).trans ((Below.heap_alloc wr _ (w.heap.size + 1 + 1) hBr).trans HD.out)
      have x0 : wc.cell? ⟨wr.heap.size, 0, none⟩ = some (.string x.key) := by rw [cell_of_blk hx2]; rfl
      have x1 : wc.cell? ⟨wr.heap.size, 1, none⟩ = some (.int .i64 x.day) := by rw [cell_of_blk hx2]; rfl
      have x2 : wc.cell? ⟨wr.heap.size, 2, none⟩ = some (.slice lA' x.lines.length lc') := by rw [cell_of_blk hx2]; rfl
      have x3 : wc.cell? ⟨wr.heap.size, 3, none⟩ = some (.string x.void) := by rw [cell_of_blk hx2]; rfl
      have fx2 := frozen_blk hx2 2
      have d4 : wc.cell? ⟨w.heap.size + 1 + 1, 4, none⟩ = some (.slice A k c) := by rw [cell_of_blk hd2]; rfl
      have hn1 : ¬ ((w.heap.size + 1 + 1) = wr.heap.size) := by omega
      have hn2 : ¬ (wr.heap.size = (w.heap.size + 1 + 1)) := by omega
      have hbcW : Below wr.heap.size wr wc := HBX.out.trans (hbc.mono (by simp))
      have HCV := Lib.hid hcv
      have hcl9 := hcv.mono (base' := wr.heap.size + 1) (by simp)
      have HBC := Lib.hid hbcW
      have HD2 := Lib.hid hd2
      have hsw : (wc.setCell ⟨wr.heap.size, 2, none⟩ (.slice cA x.lines.length cc)).heap.size = wc.heap.size := by simp [World.setCell]
      have hO2 := ownsRow_keep (w' := wc.setCell ⟨wr.heap.size, 2, none⟩ (.slice cA x.lines.length cc)) (own_below HOWN.out hbcW) fun q e => Below.heap_setCell _ _ _ _ (by have := (HOWN.out.lt q e).2; show q ≠ wr.heap.size; omega)
      have HO2 := Lib.hid (hO2.alloc (.cells #[.string x.key, .int .i64 x.day, .slice cA x.lines.length cc, .string x.void] 81))
      clear hcv hbc hx2 hd2 g0 g1 g2 g3 hbcW hO2
      go_wp2_with (at_builtin; refine wpList_append_lies _ rfl _ _ 46 rfl X0.heap.size 81 ie (.agg #[.string ByteArray.empty, .int .i64 0, .slice none 0 0, .string ByteArray.empty]) 4 64 Tryz.underlying46 hie hez0 hez1 hez2 rfl (by decide) _ _ _ rfl HO2.out ⟨wc.heap.size, 0, none⟩ 1 1 [.string x.key, .int .i64 x.day, .slice cA x.lines.length cc, .string x.void] rfl rfl ?c1 ?c2 (by decide) ?c3 ?c4 ?c5 _ rfl ?_)
      case c1 =>
        have h := World.news_of_block (World.alloc_heap_new (wc.setCell ⟨wr.heap.size, 2, none⟩ (.slice cA x.lines.length cc)) (.cells #[.string x.key, .int .i64 x.day, .slice cA x.lines.length cc, .string x.void] 81))
        rw [hsw] at h
        exact h
      case c2 =>
        intro u hu
        simp at hu
        rcases hu with rfl | rfl | rfl | rfl <;> rfl
      case c3 => unfold maxLen; omega
      case c4 => omega
      case c5 => rw [World.size_alloc, hsw]; omega
      intro g cap w5 hown5 hgrow5 hat5 hlt5
      have hd5 : w5.heap[w.heap.size + 1 + 1]? = _ := (hgrow5.block (w.heap.size + 1 + 1) (by simp; omega) (fun e => by have := (HOWN.out.lt _ e.symm).1; omega)).trans ((Below.heap_alloc _ _ (w.heap.size + 1 + 1) (by rw [hsw]; omega)).trans ((Below.heap_setCell _ _ _ _ hn1).trans HD2.out))
      have d5 : w5.cell? ⟨w.heap.size + 1 + 1, 4, none⟩ = some (.slice A k c) := by rw [cell_of_blk hd5]; rfl
      have f5 := frozen_blk hd5 4
      have hg3 : g ≠ (w.heap.size + 1 + 1) := fun e => by
        subst e
        rcases hat5 with h | h
        · have := (HOWN.out.lt _ h).1; omega
        · (try simp at h)
          omega
      have hfin := heap_setCell_same (i := 4) hd5 (.slice (some ⟨g, 0, none⟩) (k + 1) cap)
      have hnew := ownsRow_keep (w' := w5.setCell ⟨w.heap.size + 1 + 1, 4, none⟩ (.slice (some ⟨g, 0, none⟩) (k + 1) cap)) hown5 fun q e => Below.heap_setCell _ _ _ _ (by obtain rfl : q = g := (Option.some.inj e).symm; exact hg3)
      have hc1 := (HCH.out.below HBC.out).setCell (p := ⟨wr.heap.size, 2, none⟩) (Or.inr hcs1) (.slice cA x.lines.length cc)
      have hc2 := (hc1.alloc (.cells #[.string x.key, .int .i64 x.day, .slice cA x.lines.length cc, .string x.void] 81)).grown hgrow5 fun q e => Or.inr (HOWN.out.lt q e).1
      have hc3 := hc2.setCell (p := ⟨w.heap.size + 1 + 1, 4, none⟩) (Or.inl rfl) (.slice (some ⟨g, 0, none⟩) (k + 1) cap)
      have hgc : (Value.slice cA x.lines.length cc).ownBlock ≠ some g := fun e => by
        have hq := hcl9.lt g e
        rcases hat5 with h | h
        · have := (HOWN.out.lt g h).2; omega
        · have h' : g = _ := h
          (try rw [World.size_alloc, hsw] at h')
          omega
      have hfr : ∀ q, q < wr.heap.size → X0.heap.size ≤ q → (Value.slice A k c).ownBlock ≠ some q → (w5.setCell ⟨w.heap.size + 1 + 1, 4, none⟩ (.slice (some ⟨g, 0, none⟩) (k + 1) cap)).heap[q]? = wr.heap[q]? := fun q h1 h2 h3 =>
        (Below.heap_setCell _ _ _ _ (by show q ≠ (w.heap.size + 1 + 1); omega)).trans ((hgrow5.block q (by rw [World.size_alloc, hsw]; omega) fun e => h3 e.symm).trans ((Below.heap_alloc _ _ q (by rw [hsw]; omega)).trans ((Below.heap_setCell _ _ _ _ (by show q ≠ wr.heap.size; omega)).trans (HBC.out.block q h1))))
      have hcv9 := ownsRow_keep (w' := w5.setCell ⟨w.heap.size + 1 + 1, 4, none⟩ (.slice (some ⟨g, 0, none⟩) (k + 1) cap)) hcl9 fun q e => by
        have hq := hcl9.lt q e
        exact (Below.heap_setCell _ _ _ _ (by show q ≠ (w.heap.size + 1 + 1); omega)).trans ((hgrow5.block q (by rw [World.size_alloc, hsw]; omega) fun e2 => by have := (HOWN.out.lt q e2.symm).2; omega).trans ((Below.heap_alloc _ _ q (by rw [hsw]; omega)).trans (Below.heap_setCell _ _ _ _ (by show q ≠ wr.heap.size; omega))))
      have hs9 : wr.heap.size ≤ (w5.setCell ⟨w.heap.size + 1 + 1, 4, none⟩ (.slice (some ⟨g, 0, none⟩) (k + 1) cap)).heap.size := by
        have h1 := hgrow5.size
        rw [World.size_alloc, hsw] at h1
        have e3 : (w5.setCell ⟨w.heap.size + 1 + 1, 4, none⟩ (.slice (some ⟨g, 0, none⟩) (k + 1) cap)).heap.size = w5.heap.size := by simp [World.setCell]
        omega
      have hgx : (Value.slice A k c).ownBlock = some g ∨ wr.heap.size ≤ g := by
        rcases hat5 with h | h
        · exact .inl h
        · right
          have h' : g = _ := h
          (try rw [World.size_alloc, hsw] at h')
          omega
      have hst := HEA.out.step hlt (cv := .slice cA x.lines.length cc) (g := g) (cap := cap) (w9 := w5.setCell ⟨w.heap.size + 1 + 1, 4, none⟩ (.slice (some ⟨g, 0, none⟩) (k + 1) cap)) hs9 hfr (by rw [← HXX.out]; exact hnew) hgx (by rw [← HXX.out]; exact hcv9.mono (by omega)) hgc hcs1
      have HF := Lib.hid (And.intro hfin (And.intro hst hc3))
      clear hfin hnew hc1 hc2 hc3 hgrow5 hown5 hat5 hgc hfr hcv9 hst hcl9 hs9 hgx
      go_wp2
      go_roundw
      case rel => exact ⟨k + 1, by omega, by go_num, ⟨some ⟨g, 0, none⟩, cap, _, HS0.out.ch HF.out.2.2 HF.out.1, HF.out.2.1⟩, HF.out.2.2⟩
      case measure => simp [intOf]; omega
    · obtain rfl : k = S.entries.length := by omega
      have hents := HEA.out
      have hsq := HST.out
      have hok := own_ch HOK.out hch (Nat.lt_succ_self _)
      have hoa := own_ch HOA.out hch (Nat.lt_succ_self _)
      have hor := own_ch HOR.out hch (Nat.lt_succ_self _)
      have a5 : wr.cell? ⟨w.heap.size, 5, none⟩ = some (.slice iA (invs S).length ic) := by rw [cell_of_blk hsq.h1]; rfl
      clear hown hd hch hrel
      go_wp2_with (at_builtin; refine wpList_append_row rfl _ _ 47 rfl (w.heap.size + 3) 92 icl (.agg #[.string ByteArray.empty, .string ByteArray.empty, .int .i64 0, .int .i64 0, .int .i64 0]) 5 56 Tryz.underlying47 hicl hicl0 hicl1 hicl2 rfl (by decide) _ _ _ rfl (World.ownsRow_nil _ _ _ _) (.slice iA (invs S).length ic) ((invs S).map encClaim) rfl ((HP.out _ hsq.bel).invs) (HP.out _ hsq.bel).nils.2.2.2.2.1 (enc_len7_encClaim _) (enc_one7_encClaim _) ?l1 ?l2 ?l3 ?_)
      case l1 => rw [List.length_map]; have := HL.out; unfold maxLen; omega
      case l2 => rw [List.length_map]; have := HL.out; omega
      case l3 => exact hsq.le
      intro vi wi hoi hgi hai
      have hoi : wi.ownsRow (w.heap.size + 3) 92 5 vi (invs S).length ((invs S).map encClaim).flatten := by simpa using hoi
      obtain ⟨nAi, nci, hfi⟩ := own_form hoi
      subst hfi
      have hmi := hsq.mid hgi (fun k e => by cases e)
      have hSi := hmi.set 5 (.slice nAi (invs S).length nci)
      have hCi := ((Ch.refl (fun q => q = w.heap.size + 1 + 1) _).grown hgi (fun k e => by cases e)).setCell (p := ⟨w.heap.size + 1 + 1, 5, none⟩) (.inl rfl) (.slice nAi (invs S).length nci)
      have q3i : wi.cell? ⟨w.heap.size + 1 + 1, 5, none⟩ = some (.slice iA (invs S).length ic) := by rw [cell_of_blk hmi.h3]; rfl
      have f3i := frozen_blk hmi.h3 5
      have hoi := own_ch (ownsRow_keep (w' := (wi.setCell ⟨w.heap.size + 1 + 1, 5, none⟩ (.slice nAi (invs S).length nci))) hoi fun q e => Below.heap_setCell _ _ _ _ (by have := (hoi.lt q e).1; show q ≠ w.heap.size + 1 + 1; omega)) (Ch.refl _ _) (Nat.lt_succ_self _)
      have hok := own_ch hok hCi (Nat.lt_succ_self _)
      have hoa := own_ch hoa hCi (Nat.lt_succ_self _)
      have hor := own_ch hor hCi (Nat.lt_succ_self _)
      have hents := hents.keep hCi.size fun q h1 h2 => hCi.block q h2 fun e => by have e3 : q = w.heap.size + 1 + 1 := e; omega
      have a6 : (wi.setCell ⟨w.heap.size + 1 + 1, 5, none⟩ (.slice nAi (invs S).length nci)).cell? ⟨w.heap.size, 6, none⟩ = some (.slice pA (pays S).length pc) := by rw [cell_of_blk hSi.h1]; rfl
      clear hmi hCi hgi hai
      go_wp2_with (at_builtin; refine wpList_append_row rfl _ _ 47 rfl (w.heap.size + 3) 92 icl (.agg #[.string ByteArray.empty, .string ByteArray.empty, .int .i64 0, .int .i64 0, .int .i64 0]) 5 56 Tryz.underlying47 hicl hicl0 hicl1 hicl2 rfl (by decide) _ _ _ rfl (World.ownsRow_nil _ _ _ _) (.slice pA (pays S).length pc) ((pays S).map encClaim) rfl ((HP.out _ hSi.bel).pays) (HP.out _ hSi.bel).nils.2.2.2.2.2.1 (enc_len7_encClaim _) (enc_one7_encClaim _) ?l1 ?l2 ?l3 ?_)
      case l1 => rw [List.length_map]; have := HL.out; unfold maxLen; omega
      case l2 => rw [List.length_map]; have := HL.out; omega
      case l3 => exact hSi.le
      intro vp wp hop hgp hap
      have hop : wp.ownsRow (w.heap.size + 3) 92 5 vp (pays S).length ((pays S).map encClaim).flatten := by simpa using hop
      obtain ⟨nAp, ncp, hfp⟩ := own_form hop
      subst hfp
      have hmp := hSi.mid hgp (fun k e => by cases e)
      have hSp := hmp.set 6 (.slice nAp (pays S).length ncp)
      have hCp := ((Ch.refl (fun q => q = w.heap.size + 1 + 1) _).grown hgp (fun k e => by cases e)).setCell (p := ⟨w.heap.size + 1 + 1, 6, none⟩) (.inl rfl) (.slice nAp (pays S).length ncp)
      have q3p : wp.cell? ⟨w.heap.size + 1 + 1, 6, none⟩ = some (.slice pA (pays S).length pc) := by rw [cell_of_blk hmp.h3]; rfl
      have f3p := frozen_blk hmp.h3 6
      have hop := own_ch (ownsRow_keep (w' := (wp.setCell ⟨w.heap.size + 1 + 1, 6, none⟩ (.slice nAp (pays S).length ncp))) hop fun q e => Below.heap_setCell _ _ _ _ (by have := (hop.lt q e).1; show q ≠ w.heap.size + 1 + 1; omega)) (Ch.refl _ _) (Nat.lt_succ_self _)
      have hok := own_ch hok hCp (Nat.lt_succ_self _)
      have hoa := own_ch hoa hCp (Nat.lt_succ_self _)
      have hor := own_ch hor hCp (Nat.lt_succ_self _)
      have hoi := own_ch hoi hCp (Nat.lt_succ_self _)
      have hents := hents.keep hCp.size fun q h1 h2 => hCp.block q h2 fun e => by have e3 : q = w.heap.size + 1 + 1 := e; omega
      have a7 : (wp.setCell ⟨w.heap.size + 1 + 1, 6, none⟩ (.slice nAp (pays S).length ncp)).cell? ⟨w.heap.size, 7, none⟩ = some (.slice lA S.allots.length lc) := by rw [cell_of_blk hSp.h1]; rfl
      clear hmp hCp hgp hap
      go_wp2_with (at_builtin; refine wpList_append_row rfl _ _ 48 rfl (w.heap.size + 3) 87 il (.agg #[.string ByteArray.empty, .string ByteArray.empty, .int .i64 0, .int .i64 0]) 4 48 Tryz.underlying48 hil hil0 hil1 hil2 rfl (by decide) _ _ _ rfl (World.ownsRow_nil _ _ _ _) (.slice lA S.allots.length lc) (S.allots.map encAllot) rfl ((HP.out _ hSp.bel).alls) (HP.out _ hSp.bel).nils.2.2.2.2.2.2 (enc_len7_encAllot _) (enc_one7_encAllot _) ?l1 ?l2 ?l3 ?_)
      case l1 => rw [List.length_map]; have := HL.out; unfold maxLen; omega
      case l2 => rw [List.length_map]; have := HL.out; omega
      case l3 => exact hSp.le
      intro vl wl hol hgl hal
      have hol : wl.ownsRow (w.heap.size + 3) 87 4 vl S.allots.length (S.allots.map encAllot).flatten := by simpa using hol
      obtain ⟨nAl, ncl, hfl⟩ := own_form hol
      subst hfl
      have hml := hSp.mid hgl (fun k e => by cases e)
      have hSl := hml.set 7 (.slice nAl S.allots.length ncl)
      have hCl := ((Ch.refl (fun q => q = w.heap.size + 1 + 1) _).grown hgl (fun k e => by cases e)).setCell (p := ⟨w.heap.size + 1 + 1, 7, none⟩) (.inl rfl) (.slice nAl S.allots.length ncl)
      have q3l : wl.cell? ⟨w.heap.size + 1 + 1, 7, none⟩ = some (.slice lA S.allots.length lc) := by rw [cell_of_blk hml.h3]; rfl
      have f3l := frozen_blk hml.h3 7
      have hol := own_ch (ownsRow_keep (w' := (wl.setCell ⟨w.heap.size + 1 + 1, 7, none⟩ (.slice nAl S.allots.length ncl))) hol fun q e => Below.heap_setCell _ _ _ _ (by have := (hol.lt q e).1; show q ≠ w.heap.size + 1 + 1; omega)) (Ch.refl _ _) (Nat.lt_succ_self _)
      have hok := own_ch hok hCl (Nat.lt_succ_self _)
      have hoa := own_ch hoa hCl (Nat.lt_succ_self _)
      have hor := own_ch hor hCl (Nat.lt_succ_self _)
      have hoi := own_ch hoi hCl (Nat.lt_succ_self _)
      have hop := own_ch hop hCl (Nat.lt_succ_self _)
      have hents := hents.keep hCl.size fun q h1 h2 => hCl.block q h2 fun e => by have e3 : q = w.heap.size + 1 + 1 := e; omega
      clear hml hCl hgl hal
      obtain ⟨W7, hW7⟩ : ∃ W7, W7 = (wl.setCell ⟨w.heap.size + 1 + 1, 7, none⟩ (.slice nAl S.allots.length ncl)) := ⟨_, rfl⟩
      have c30 : (wl.setCell ⟨w.heap.size + 1 + 1, 7, none⟩ (.slice nAl S.allots.length ncl)).cell? ⟨w.heap.size + 1 + 1, 0, none⟩ = some (.int .i64 S.events) := by rw [cell_of_blk hSl.h3]; rfl
      have z20 : (wl.setCell ⟨w.heap.size + 1 + 1, 7, none⟩ (.slice nAl S.allots.length ncl)).cell? ⟨w.heap.size + 1, 0, none⟩ = some (.int .i64 0) := by rw [cell_of_blk hSl.h2]; rfl
      have y20 := frozen_blk hSl.h2 0
      have c31 : (wl.setCell ⟨w.heap.size + 1 + 1, 7, none⟩ (.slice nAl S.allots.length ncl)).cell? ⟨w.heap.size + 1 + 1, 1, none⟩ = some (.slice nAk S.keys.length nck) := by rw [cell_of_blk hSl.h3]; rfl
      have z21 : (wl.setCell ⟨w.heap.size + 1 + 1, 7, none⟩ (.slice nAl S.allots.length ncl)).cell? ⟨w.heap.size + 1, 1, none⟩ = some (.slice none 0 0) := by rw [cell_of_blk hSl.h2]; rfl
      have y21 := frozen_blk hSl.h2 1
      have c32 : (wl.setCell ⟨w.heap.size + 1 + 1, 7, none⟩ (.slice nAl S.allots.length ncl)).cell? ⟨w.heap.size + 1 + 1, 2, none⟩ = some (.slice nAa S.chart.length nca) := by rw [cell_of_blk hSl.h3]; rfl
      have z22 : (wl.setCell ⟨w.heap.size + 1 + 1, 7, none⟩ (.slice nAl S.allots.length ncl)).cell? ⟨w.heap.size + 1, 2, none⟩ = some (.slice none 0 0) := by rw [cell_of_blk hSl.h2]; rfl
      have y22 := frozen_blk hSl.h2 2
      have c33 : (wl.setCell ⟨w.heap.size + 1 + 1, 7, none⟩ (.slice nAl S.allots.length ncl)).cell? ⟨w.heap.size + 1 + 1, 3, none⟩ = some (.slice nAr S.rows.length ncr) := by rw [cell_of_blk hSl.h3]; rfl
      have z23 : (wl.setCell ⟨w.heap.size + 1 + 1, 7, none⟩ (.slice nAl S.allots.length ncl)).cell? ⟨w.heap.size + 1, 3, none⟩ = some (.slice none 0 0) := by rw [cell_of_blk hSl.h2]; rfl
      have y23 := frozen_blk hSl.h2 3
      have c34 : (wl.setCell ⟨w.heap.size + 1 + 1, 7, none⟩ (.slice nAl S.allots.length ncl)).cell? ⟨w.heap.size + 1 + 1, 4, none⟩ = some (.slice A S.entries.length c) := by rw [cell_of_blk hSl.h3]; rfl
      have z24 : (wl.setCell ⟨w.heap.size + 1 + 1, 7, none⟩ (.slice nAl S.allots.length ncl)).cell? ⟨w.heap.size + 1, 4, none⟩ = some (.slice none 0 0) := by rw [cell_of_blk hSl.h2]; rfl
      have y24 := frozen_blk hSl.h2 4
      have c35 : (wl.setCell ⟨w.heap.size + 1 + 1, 7, none⟩ (.slice nAl S.allots.length ncl)).cell? ⟨w.heap.size + 1 + 1, 5, none⟩ = some (.slice nAi (invs S).length nci) := by rw [cell_of_blk hSl.h3]; rfl
      have z25 : (wl.setCell ⟨w.heap.size + 1 + 1, 7, none⟩ (.slice nAl S.allots.length ncl)).cell? ⟨w.heap.size + 1, 5, none⟩ = some (.slice none 0 0) := by rw [cell_of_blk hSl.h2]; rfl
      have y25 := frozen_blk hSl.h2 5
      have c36 : (wl.setCell ⟨w.heap.size + 1 + 1, 7, none⟩ (.slice nAl S.allots.length ncl)).cell? ⟨w.heap.size + 1 + 1, 6, none⟩ = some (.slice nAp (pays S).length ncp) := by rw [cell_of_blk hSl.h3]; rfl
      have z26 : (wl.setCell ⟨w.heap.size + 1 + 1, 7, none⟩ (.slice nAl S.allots.length ncl)).cell? ⟨w.heap.size + 1, 6, none⟩ = some (.slice none 0 0) := by rw [cell_of_blk hSl.h2]; rfl
      have y26 := frozen_blk hSl.h2 6
      have c37 : (wl.setCell ⟨w.heap.size + 1 + 1, 7, none⟩ (.slice nAl S.allots.length ncl)).cell? ⟨w.heap.size + 1 + 1, 7, none⟩ = some (.slice nAl S.allots.length ncl) := by rw [cell_of_blk hSl.h3]; rfl
      have z27 : (wl.setCell ⟨w.heap.size + 1 + 1, 7, none⟩ (.slice nAl S.allots.length ncl)).cell? ⟨w.heap.size + 1, 7, none⟩ = some (.slice none 0 0) := by rw [cell_of_blk hSl.h2]; rfl
      have y27 := frozen_blk hSl.h2 7
      have c38 : (wl.setCell ⟨w.heap.size + 1 + 1, 7, none⟩ (.slice nAl S.allots.length ncl)).cell? ⟨w.heap.size + 1 + 1, 8, none⟩ = some (.int .i64 S.lock) := by rw [cell_of_blk hSl.h3]; rfl
      have z28 : (wl.setCell ⟨w.heap.size + 1 + 1, 7, none⟩ (.slice nAl S.allots.length ncl)).cell? ⟨w.heap.size + 1, 8, none⟩ = some (.int .i64 0) := by rw [cell_of_blk hSl.h2]; rfl
      have y28 := frozen_blk hSl.h2 8
      have HE2 := Lib.hid hents
      have HO2 := Lib.hid (And.intro hok (And.intro hoa (And.intro hor (And.intro hoi (And.intro hop hol)))))
      have HS2 := Lib.hid hSl
      clear hents hok hoa hor hoi hop hol
      go_wp2
      rw [← hW7] at HE2 HO2 HS2 ⊢
      clear c30 z20 y20 c31 z21 y21 c32 z22 y22 c33 z23 y23 c34 z24 y24 c35 z25 y25 c36 z26 y26 c37 z27 y27 c38 z28 y28
      have h0 := HS2.out.h2
      have h1 : (W7.setCell ⟨w.heap.size + 1, 0, none⟩ (.int .i64 S.events)).heap[w.heap.size + 1]? = some (.cells #[.int .i64 S.events, .slice none 0 0, .slice none 0 0, .slice none 0 0, .slice none 0 0, .slice none 0 0, .slice none 0 0, .slice none 0 0, .int .i64 0] 50 (0, 0)) := heap_setCell_same (i := 0) h0 (.int .i64 S.events)
      have h2 : ((W7.setCell ⟨w.heap.size + 1, 0, none⟩ (.int .i64 S.events)).setCell ⟨w.heap.size + 1, 1, none⟩ (.slice nAk S.keys.length nck)).heap[w.heap.size + 1]? = some (.cells #[.int .i64 S.events, .slice nAk S.keys.length nck, .slice none 0 0, .slice none 0 0, .slice none 0 0, .slice none 0 0, .slice none 0 0, .slice none 0 0, .int .i64 0] 50 (0, 0)) := heap_setCell_same (i := 1) h1 (.slice nAk S.keys.length nck)
      have h3 : (((W7.setCell ⟨w.heap.size + 1, 0, none⟩ (.int .i64 S.events)).setCell ⟨w.heap.size + 1, 1, none⟩ (.slice nAk S.keys.length nck)).setCell ⟨w.heap.size + 1, 2, none⟩ (.slice nAa S.chart.length nca)).heap[w.heap.size + 1]? = some (.cells #[.int .i64 S.events, .slice nAk S.keys.length nck, .slice nAa S.chart.length nca, .slice none 0 0, .slice none 0 0, .slice none 0 0, .slice none 0 0, .slice none 0 0, .int .i64 0] 50 (0, 0)) := heap_setCell_same (i := 2) h2 (.slice nAa S.chart.length nca)
      have h4 : ((((W7.setCell ⟨w.heap.size + 1, 0, none⟩ (.int .i64 S.events)).setCell ⟨w.heap.size + 1, 1, none⟩ (.slice nAk S.keys.length nck)).setCell ⟨w.heap.size + 1, 2, none⟩ (.slice nAa S.chart.length nca)).setCell ⟨w.heap.size + 1, 3, none⟩ (.slice nAr S.rows.length ncr)).heap[w.heap.size + 1]? = some (.cells #[.int .i64 S.events, .slice nAk S.keys.length nck, .slice nAa S.chart.length nca, .slice nAr S.rows.length ncr, .slice none 0 0, .slice none 0 0, .slice none 0 0, .slice none 0 0, .int .i64 0] 50 (0, 0)) := heap_setCell_same (i := 3) h3 (.slice nAr S.rows.length ncr)
      have h5 : (((((W7.setCell ⟨w.heap.size + 1, 0, none⟩ (.int .i64 S.events)).setCell ⟨w.heap.size + 1, 1, none⟩ (.slice nAk S.keys.length nck)).setCell ⟨w.heap.size + 1, 2, none⟩ (.slice nAa S.chart.length nca)).setCell ⟨w.heap.size + 1, 3, none⟩ (.slice nAr S.rows.length ncr)).setCell ⟨w.heap.size + 1, 4, none⟩ (.slice A S.entries.length c)).heap[w.heap.size + 1]? = some (.cells #[.int .i64 S.events, .slice nAk S.keys.length nck, .slice nAa S.chart.length nca, .slice nAr S.rows.length ncr, .slice A S.entries.length c, .slice none 0 0, .slice none 0 0, .slice none 0 0, .int .i64 0] 50 (0, 0)) := heap_setCell_same (i := 4) h4 (.slice A S.entries.length c)
      have h6 : ((((((W7.setCell ⟨w.heap.size + 1, 0, none⟩ (.int .i64 S.events)).setCell ⟨w.heap.size + 1, 1, none⟩ (.slice nAk S.keys.length nck)).setCell ⟨w.heap.size + 1, 2, none⟩ (.slice nAa S.chart.length nca)).setCell ⟨w.heap.size + 1, 3, none⟩ (.slice nAr S.rows.length ncr)).setCell ⟨w.heap.size + 1, 4, none⟩ (.slice A S.entries.length c)).setCell ⟨w.heap.size + 1, 5, none⟩ (.slice nAi (invs S).length nci)).heap[w.heap.size + 1]? = some (.cells #[.int .i64 S.events, .slice nAk S.keys.length nck, .slice nAa S.chart.length nca, .slice nAr S.rows.length ncr, .slice A S.entries.length c, .slice nAi (invs S).length nci, .slice none 0 0, .slice none 0 0, .int .i64 0] 50 (0, 0)) := heap_setCell_same (i := 5) h5 (.slice nAi (invs S).length nci)
      have h7 : (((((((W7.setCell ⟨w.heap.size + 1, 0, none⟩ (.int .i64 S.events)).setCell ⟨w.heap.size + 1, 1, none⟩ (.slice nAk S.keys.length nck)).setCell ⟨w.heap.size + 1, 2, none⟩ (.slice nAa S.chart.length nca)).setCell ⟨w.heap.size + 1, 3, none⟩ (.slice nAr S.rows.length ncr)).setCell ⟨w.heap.size + 1, 4, none⟩ (.slice A S.entries.length c)).setCell ⟨w.heap.size + 1, 5, none⟩ (.slice nAi (invs S).length nci)).setCell ⟨w.heap.size + 1, 6, none⟩ (.slice nAp (pays S).length ncp)).heap[w.heap.size + 1]? = some (.cells #[.int .i64 S.events, .slice nAk S.keys.length nck, .slice nAa S.chart.length nca, .slice nAr S.rows.length ncr, .slice A S.entries.length c, .slice nAi (invs S).length nci, .slice nAp (pays S).length ncp, .slice none 0 0, .int .i64 0] 50 (0, 0)) := heap_setCell_same (i := 6) h6 (.slice nAp (pays S).length ncp)
      have h8 : ((((((((W7.setCell ⟨w.heap.size + 1, 0, none⟩ (.int .i64 S.events)).setCell ⟨w.heap.size + 1, 1, none⟩ (.slice nAk S.keys.length nck)).setCell ⟨w.heap.size + 1, 2, none⟩ (.slice nAa S.chart.length nca)).setCell ⟨w.heap.size + 1, 3, none⟩ (.slice nAr S.rows.length ncr)).setCell ⟨w.heap.size + 1, 4, none⟩ (.slice A S.entries.length c)).setCell ⟨w.heap.size + 1, 5, none⟩ (.slice nAi (invs S).length nci)).setCell ⟨w.heap.size + 1, 6, none⟩ (.slice nAp (pays S).length ncp)).setCell ⟨w.heap.size + 1, 7, none⟩ (.slice nAl S.allots.length ncl)).heap[w.heap.size + 1]? = some (.cells #[.int .i64 S.events, .slice nAk S.keys.length nck, .slice nAa S.chart.length nca, .slice nAr S.rows.length ncr, .slice A S.entries.length c, .slice nAi (invs S).length nci, .slice nAp (pays S).length ncp, .slice nAl S.allots.length ncl, .int .i64 0] 50 (0, 0)) := heap_setCell_same (i := 7) h7 (.slice nAl S.allots.length ncl)
      have h9 : (((((((((W7.setCell ⟨w.heap.size + 1, 0, none⟩ (.int .i64 S.events)).setCell ⟨w.heap.size + 1, 1, none⟩ (.slice nAk S.keys.length nck)).setCell ⟨w.heap.size + 1, 2, none⟩ (.slice nAa S.chart.length nca)).setCell ⟨w.heap.size + 1, 3, none⟩ (.slice nAr S.rows.length ncr)).setCell ⟨w.heap.size + 1, 4, none⟩ (.slice A S.entries.length c)).setCell ⟨w.heap.size + 1, 5, none⟩ (.slice nAi (invs S).length nci)).setCell ⟨w.heap.size + 1, 6, none⟩ (.slice nAp (pays S).length ncp)).setCell ⟨w.heap.size + 1, 7, none⟩ (.slice nAl S.allots.length ncl)).setCell ⟨w.heap.size + 1, 8, none⟩ (.int .i64 S.lock)).heap[w.heap.size + 1]? = some (.cells #[.int .i64 S.events, .slice nAk S.keys.length nck, .slice nAa S.chart.length nca, .slice nAr S.rows.length ncr, .slice A S.entries.length c, .slice nAi (invs S).length nci, .slice nAp (pays S).length ncp, .slice nAl S.allots.length ncl, .int .i64 S.lock] 50 (0, 0)) := heap_setCell_same (i := 8) h8 (.int .i64 S.lock)
      have hkp : ∀ q, q ≠ w.heap.size + 1 → (((((((((W7.setCell ⟨w.heap.size + 1, 0, none⟩ (.int .i64 S.events)).setCell ⟨w.heap.size + 1, 1, none⟩ (.slice nAk S.keys.length nck)).setCell ⟨w.heap.size + 1, 2, none⟩ (.slice nAa S.chart.length nca)).setCell ⟨w.heap.size + 1, 3, none⟩ (.slice nAr S.rows.length ncr)).setCell ⟨w.heap.size + 1, 4, none⟩ (.slice A S.entries.length c)).setCell ⟨w.heap.size + 1, 5, none⟩ (.slice nAi (invs S).length nci)).setCell ⟨w.heap.size + 1, 6, none⟩ (.slice nAp (pays S).length ncp)).setCell ⟨w.heap.size + 1, 7, none⟩ (.slice nAl S.allots.length ncl)).setCell ⟨w.heap.size + 1, 8, none⟩ (.int .i64 S.lock)).heap[q]? = W7.heap[q]? := fun q hq => by
        repeat (refine (Below.heap_setCell _ _ _ _ hq).trans ?_)
        rfl
      have hb9 := (((((((((HS2.out.bel.setCell (p := ⟨w.heap.size + 1, 0, none⟩) (by show w.heap.size ≤ w.heap.size + 1; omega) (.int .i64 S.events)).setCell (p := ⟨w.heap.size + 1, 1, none⟩) (by show w.heap.size ≤ w.heap.size + 1; omega) (.slice nAk S.keys.length nck)).setCell (p := ⟨w.heap.size + 1, 2, none⟩) (by show w.heap.size ≤ w.heap.size + 1; omega) (.slice nAa S.chart.length nca)).setCell (p := ⟨w.heap.size + 1, 3, none⟩) (by show w.heap.size ≤ w.heap.size + 1; omega) (.slice nAr S.rows.length ncr)).setCell (p := ⟨w.heap.size + 1, 4, none⟩) (by show w.heap.size ≤ w.heap.size + 1; omega) (.slice A S.entries.length c)).setCell (p := ⟨w.heap.size + 1, 5, none⟩) (by show w.heap.size ≤ w.heap.size + 1; omega) (.slice nAi (invs S).length nci)).setCell (p := ⟨w.heap.size + 1, 6, none⟩) (by show w.heap.size ≤ w.heap.size + 1; omega) (.slice nAp (pays S).length ncp)).setCell (p := ⟨w.heap.size + 1, 7, none⟩) (by show w.heap.size ≤ w.heap.size + 1; omega) (.slice nAl S.allots.length ncl)).setCell (p := ⟨w.heap.size + 1, 8, none⟩) (by show w.heap.size ≤ w.heap.size + 1; omega) (.int .i64 S.lock))
      have hs9 : (((((((((W7.setCell ⟨w.heap.size + 1, 0, none⟩ (.int .i64 S.events)).setCell ⟨w.heap.size + 1, 1, none⟩ (.slice nAk S.keys.length nck)).setCell ⟨w.heap.size + 1, 2, none⟩ (.slice nAa S.chart.length nca)).setCell ⟨w.heap.size + 1, 3, none⟩ (.slice nAr S.rows.length ncr)).setCell ⟨w.heap.size + 1, 4, none⟩ (.slice A S.entries.length c)).setCell ⟨w.heap.size + 1, 5, none⟩ (.slice nAi (invs S).length nci)).setCell ⟨w.heap.size + 1, 6, none⟩ (.slice nAp (pays S).length ncp)).setCell ⟨w.heap.size + 1, 7, none⟩ (.slice nAl S.allots.length ncl)).setCell ⟨w.heap.size + 1, 8, none⟩ (.int .i64 S.lock)).heap.size = W7.heap.size := by simp [World.setCell]
      generalize (((((((((W7.setCell ⟨w.heap.size + 1, 0, none⟩ (.int .i64 S.events)).setCell ⟨w.heap.size + 1, 1, none⟩ (.slice nAk S.keys.length nck)).setCell ⟨w.heap.size + 1, 2, none⟩ (.slice nAa S.chart.length nca)).setCell ⟨w.heap.size + 1, 3, none⟩ (.slice nAr S.rows.length ncr)).setCell ⟨w.heap.size + 1, 4, none⟩ (.slice A S.entries.length c)).setCell ⟨w.heap.size + 1, 5, none⟩ (.slice nAi (invs S).length nci)).setCell ⟨w.heap.size + 1, 6, none⟩ (.slice nAp (pays S).length ncp)).setCell ⟨w.heap.size + 1, 7, none⟩ (.slice nAl S.allots.length ncl)).setCell ⟨w.heap.size + 1, 8, none⟩ (.int .i64 S.lock)) = W9 at h9 hkp hb9 hs9 ⊢
      clear h0 h1 h2 h3 h4 h5 h6 h7 h8
      (try simp only [Exit.inBlock, Exit.then])
      refine bodyPost_ret (results_cell_row rfl _ _ (w.heap.size + 1) 50 _ (0, 0) _ rfl h9 Tryz.underlying50 rfl (by kernel_rfl)) rfl ?_
      obtain ⟨hok, hoa, hor, hoi, hop, hol⟩ := HO2.out
      have hen := HE2.out
      have hge : ∀ q, w.heap.size + 3 ≤ q → q ≠ w.heap.size + 1 := fun q hq => by omega
      have hok9 := ownsRow_keep (w' := W9) hok fun q e => hkp q (hge q (hok.lt q e).1)
      have hoa9 := ownsRow_keep (w' := W9) hoa fun q e => hkp q (hge q (hoa.lt q e).1)
      have hor9 := ownsRow_keep (w' := W9) hor fun q e => hkp q (hge q (hor.lt q e).1)
      have hoi9 := ownsRow_keep (w' := W9) hoi fun q e => hkp q (hge q (hoi.lt q e).1)
      have hop9 := ownsRow_keep (w' := W9) hop fun q e => hkp q (hge q (hop.lt q e).1)
      have hol9 := ownsRow_keep (w' := W9) hol fun q e => hkp q (hge q (hol.lt q e).1)
      have hen9 := hen.keep (w9 := W9) (by omega) fun q g1 g2 => hkp q (hge q (by omega))
      refine ⟨_, _, _, _, _, _, _, clv, rfl, ?_, hb9⟩
      exact {
        keys := row_own (enc := encStr) hok9 (fun _ => rfl) fun q g _ => by omega
        accs := row_own (enc := encA) hoa9 (fun _ => rfl) fun q g _ => by omega
        rows := row_own (enc := encPost) hor9 (fun _ => rfl) fun q g _ => by omega
        ents := by
          have ho := hen9.own
          rw [List.take_length] at ho
          exact RowAt.of_own (by rw [entC_len]; exact ho) (entCells_four _ _) fun q e => by have := (ho.lt q e).1; omega
        lines := fun i hi => (hen9.lines i hi hi).mono fun q hq => by have := hq.1; omega
        lnil := fun i hi => hen9.nil i hi
        invs := row_own (enc := encClaim) hoi9 (fun _ => rfl) fun q g _ => by omega
        pays := row_own (enc := encClaim) hop9 (fun _ => rfl) fun q g _ => by omega
        alls := row_own (enc := encAllot) hol9 (fun _ => rfl) fun q g _ => by omega
        nils := ⟨NilOk.own hok9, NilOk.own hoa9, NilOk.own hor9, NilOk.own hen9.own, NilOk.own hoi9, NilOk.own hop9, NilOk.own hol9⟩ }
end Go.Proofs.YtgocoofcelggcaaGreatDoor
namespace Go.Proofs.YtgocoofcelggcaaGreatDoor
open Go.RowKit
set_option linter.unusedVariables false
set_option linter.unusedSimpArgs false

set_option maxRecDepth 100000 in
set_option maxHeartbeats 8000000 in
theorem same_at {w : World} {R R' : Nat → Prop} {kV aV rV eV iV pV lV kV' aV' rV' eV' iV' pV' lV' : Value} {lv lv' : Nat → Value} {S : BookS} (h : BaseP w R kV aV rV eV iV pV lV lv S) (h' : BaseP w R' kV' aV' rV' eV' iV' pV' lV' lv' S) (hl : BaseLe S) :
    Calls Tryz.prog 24 #[baseV S kV aV rV eV iV pV lV, baseV S kV' aV' rV' eV' iV' pV' lV'] w fun en w' => en = .returned (.bool true) ∧ Below w.heap.size w w' := by
  obtain ⟨W, hW⟩ : ∃ W, (w.alloc (.cells #[.int .i64 S.events, kV, aV, rV, eV, iV, pV, lV, .int .i64 S.lock] 50)).alloc (.cells #[.int .i64 S.events, kV', aV', rV', eV', iV', pV', lV', .int .i64 S.lock] 50) = W := ⟨_, rfl⟩
  have hb2 : Below w.heap.size w W := by rw [← hW]; exact (bel1 w (.cells #[.int .i64 S.events, kV, aV, rV, eV, iV, pV, lV, .int .i64 S.lock] 50)).alloc (by simp) (.cells #[.int .i64 S.events, kV', aV', rV', eV', iV', pV', lV', .int .i64 S.lock] 50)
  have hp := h.below hb2
  have hp' := h'.below hb2
  have hBA : W.heap[w.heap.size]? = some (.cells #[.int .i64 S.events, kV, aV, rV, eV, iV, pV, lV, .int .i64 S.lock] 50 (0, 0)) := by rw [← hW]; exact (Below.heap_alloc _ _ _ (by simp)).trans (World.alloc_heap_new w _)
  have hBB : W.heap[w.heap.size + 1]? = some (.cells #[.int .i64 S.events, kV', aV', rV', eV', iV', pV', lV', .int .i64 S.lock] 50 (0, 0)) := by
    have h := World.alloc_heap_new (w.alloc (.cells #[.int .i64 S.events, kV, aV, rV, eV, iV, pV, lV, .int .i64 S.lock] 50)) (.cells #[.int .i64 S.events, kV', aV', rV', eV', iV', pV', lV', .int .i64 S.lock] 50)
    rw [World.size_alloc] at h
    rw [← hW]; exact h
  have a0 : W.cell? ⟨w.heap.size, 0, none⟩ = some (.int .i64 S.events) := by rw [cell_of_blk hBA]; rfl
  have a1 : W.cell? ⟨w.heap.size, 1, none⟩ = some (kV) := by rw [cell_of_blk hBA]; rfl
  have a2 : W.cell? ⟨w.heap.size, 2, none⟩ = some (aV) := by rw [cell_of_blk hBA]; rfl
  have a3 : W.cell? ⟨w.heap.size, 3, none⟩ = some (rV) := by rw [cell_of_blk hBA]; rfl
  have a4 : W.cell? ⟨w.heap.size, 4, none⟩ = some (eV) := by rw [cell_of_blk hBA]; rfl
  have a5 : W.cell? ⟨w.heap.size, 5, none⟩ = some (iV) := by rw [cell_of_blk hBA]; rfl
  have a6 : W.cell? ⟨w.heap.size, 6, none⟩ = some (pV) := by rw [cell_of_blk hBA]; rfl
  have a7 : W.cell? ⟨w.heap.size, 7, none⟩ = some (lV) := by rw [cell_of_blk hBA]; rfl
  have a8 : W.cell? ⟨w.heap.size, 8, none⟩ = some (.int .i64 S.lock) := by rw [cell_of_blk hBA]; rfl
  have b0 : W.cell? ⟨w.heap.size + 1, 0, none⟩ = some (.int .i64 S.events) := by rw [cell_of_blk hBB]; rfl
  have b1 : W.cell? ⟨w.heap.size + 1, 1, none⟩ = some (kV') := by rw [cell_of_blk hBB]; rfl
  have b2 : W.cell? ⟨w.heap.size + 1, 2, none⟩ = some (aV') := by rw [cell_of_blk hBB]; rfl
  have b3 : W.cell? ⟨w.heap.size + 1, 3, none⟩ = some (rV') := by rw [cell_of_blk hBB]; rfl
  have b4 : W.cell? ⟨w.heap.size + 1, 4, none⟩ = some (eV') := by rw [cell_of_blk hBB]; rfl
  have b5 : W.cell? ⟨w.heap.size + 1, 5, none⟩ = some (iV') := by rw [cell_of_blk hBB]; rfl
  have b6 : W.cell? ⟨w.heap.size + 1, 6, none⟩ = some (pV') := by rw [cell_of_blk hBB]; rfl
  have b7 : W.cell? ⟨w.heap.size + 1, 7, none⟩ = some (lV') := by rw [cell_of_blk hBB]; rfl
  have b8 : W.cell? ⟨w.heap.size + 1, 8, none⟩ = some (.int .i64 S.lock) := by rw [cell_of_blk hBB]; rfl
  obtain ⟨kA, kc, hkf, hkx⟩ := hp.keys.form
  obtain ⟨kA', kc', hkf', hkx'⟩ := hp'.keys.form
  obtain ⟨aA, ac, haf, hax⟩ := hp.accs.form
  obtain ⟨aA', ac', haf', hax'⟩ := hp'.accs.form
  obtain ⟨eA, ec, hef, hex⟩ := hp.ents.form
  obtain ⟨eA', ec', hef', hex'⟩ := hp'.ents.form
  rw [List.length_map] at hkf hkf' haf haf'
  rw [entC_len] at hef hef'
  have hsr := fun m => (sameRows_at (w := W.drewN m) S.rows (hp.rows.below (below_drewN (Below.refl _ _) m)) (hp'.rows.below (below_drewN (Below.refl _ _) m)) hl.rows)
  have hsi := fun m => (sameClaims_at (w := W.drewN m) (invs S) (hp.invs.below (below_drewN (Below.refl _ _) m)) (hp'.invs.below (below_drewN (Below.refl _ _) m)) hl.invs)
  have hsp := fun m => (sameClaims_at (w := W.drewN m) (pays S) (hp.pays.below (below_drewN (Below.refl _ _) m)) (hp'.pays.below (below_drewN (Below.refl _ _) m)) hl.pays)
  have hsl := fun m => (sameAllots_at (w := W.drewN m) S.allots (hp.alls.below (below_drewN (Below.refl _ _) m)) (hp'.alls.below (below_drewN (Below.refl _ _) m)) hl.alls)
  have hsn := fun i (hi : i < S.entries.length) m => (sameLines_at (w := W.drewN m) S.entries[i].lines ((hp.lines i hi).below (below_drewN (Below.refl _ _) m)) ((hp'.lines i hi).below (below_drewN (Below.refl _ _) m)) (hl.lines _ (List.getElem_mem hi)))
  subst hkf hkf' haf haf' hef hef'
  have HKX := Lib.hid hkx
  have HKX' := Lib.hid hkx'
  have HAX := Lib.hid hax
  have HAX' := Lib.hid hax'
  have HEX := Lib.hid hex
  have HEX' := Lib.hid hex'
  have HSN := Lib.hid hsn
  have HB := Lib.hid hb2
  have HL := Lib.hid hl
  have hle1 := hl.keys
  have hle2 := hl.accs
  have hle3 := hl.ents
  unfold baseV
  clear h h' hp hp' hBA hBB hkx hkx' hax hax' hex hex' hsn hb2 hl
  go_enter Tryz.func24, Tryz.ntmps24
  go_wp2
  (try rw [hW])
  clear hW
  go_loopw [5] (fun i wr => ∃ k : Nat, i = .int .i64 (k : Int) ∧ k ≤ S.keys.length ∧ ∃ m, wr = W.drewN m) (fun i _ => S.keys.length - (intOf i).toNat)
  case atStart => exact ⟨0, rfl, Nat.zero_le _, 0, rfl⟩
  case round =>
    obtain ⟨k, rfl, hk, m, rfl⟩ := hrel
    by_cases hlt : k < S.keys.length
    · obtain ⟨ad, rfl, _, _, hcs⟩ := HKX.out k (by rw [List.length_map]; exact hlt)
      obtain ⟨ad', rfl, _, _, hcs'⟩ := HKX'.out k (by rw [List.length_map]; exact hlt)
      rw [List.getElem_map] at hcs hcs'
      obtain ⟨r, hr⟩ : ∃ r, r = S.keys[k] := ⟨_, rfl⟩
      rw [← hr] at hcs hcs'
      have c0 : W.cell? (ad.add k) = some (.string r) := by have := hcs 0 _ rfl; rw [Nat.mul_one] at this; exact this
      have d0 : W.cell? (ad'.add k) = some (.string r) := by have := hcs' 0 _ rfl; rw [Nat.mul_one] at this; exact this
      have hmu := meas_up S.keys.length k hlt
      clear hcs hcs' hr hsr hsi hsp hsl
      as_aux_lemma =>
        go_wp2
        go_quiet (fail)
        go_wp2
        go_roundw
        case rel => exact ⟨k + 1, by go_num, by omega, m + nq, by first | rfl | rw [World.drewN_drewN]⟩
        case measure => simpa [intOf] using hmu
    · clear HKX HKX'
      go_wp2
      obtain ⟨m5, hm5⟩ : ∃ m5, m5 = m := ⟨_, rfl⟩
      subst hm5
      go_loopw [6] (fun i wr => ∃ k : Nat, i = .int .i64 (k : Int) ∧ k ≤ S.chart.length ∧ ∃ m, wr = W.drewN m) (fun i _ => S.chart.length - (intOf i).toNat)
      case atStart => exact ⟨0, rfl, Nat.zero_le _, m5, rfl⟩
      case round =>
        obtain ⟨k, rfl, hk, m, rfl⟩ := hrel
        by_cases hlt : k < S.chart.length
        · obtain ⟨ad, rfl, _, _, hcs⟩ := HAX.out k (by rw [List.length_map]; exact hlt)
          obtain ⟨ad', rfl, _, _, hcs'⟩ := HAX'.out k (by rw [List.length_map]; exact hlt)
          rw [List.getElem_map] at hcs hcs'
          obtain ⟨r, hr⟩ : ∃ r, r = S.chart[k] := ⟨_, rfl⟩
          rw [← hr] at hcs hcs'
          have c0 : W.cell? (ad.add (k * 4)) = some (.string r.name) := hcs 0 _ rfl
          have c1 : W.cell? ⟨(ad.add (k * 4)).block, (ad.add (k * 4)).off + 1, none⟩ = some (.int .i64 r.typ) := hcs 1 _ rfl
          have c2 : W.cell? ⟨(ad.add (k * 4)).block, (ad.add (k * 4)).off + 2, none⟩ = some (.int .i64 r.opened) := hcs 2 _ rfl
          have c3 : W.cell? ⟨(ad.add (k * 4)).block, (ad.add (k * 4)).off + 3, none⟩ = some (.bool r.closed) := hcs 3 _ rfl
          have d0 : W.cell? (ad'.add (k * 4)) = some (.string r.name) := hcs' 0 _ rfl
          have d1 : W.cell? ⟨(ad'.add (k * 4)).block, (ad'.add (k * 4)).off + 1, none⟩ = some (.int .i64 r.typ) := hcs' 1 _ rfl
          have d2 : W.cell? ⟨(ad'.add (k * 4)).block, (ad'.add (k * 4)).off + 2, none⟩ = some (.int .i64 r.opened) := hcs' 2 _ rfl
          have d3 : W.cell? ⟨(ad'.add (k * 4)).block, (ad'.add (k * 4)).off + 3, none⟩ = some (.bool r.closed) := hcs' 3 _ rfl
          have hmu := meas_up S.chart.length k hlt
          clear hcs hcs' hr hsr hsi hsp hsl
          as_aux_lemma =>
            go_wp2
            go_quiet (fail)
            go_wp2
            go_roundw
            case rel => exact ⟨k + 1, by go_num, by omega, m + nq, by first | rfl | rw [World.drewN_drewN]⟩
            case measure => simpa [intOf] using hmu
        · clear HAX HAX'
          go_wp2
          obtain ⟨m6, hm6⟩ : ∃ m6, m6 = m := ⟨_, rfl⟩
          subst hm6
          go_loopw [7] (fun i wr => ∃ k : Nat, i = .int .i64 (k : Int) ∧ k ≤ S.entries.length ∧ ∃ m, wr = W.drewN m) (fun i _ => S.entries.length - (intOf i).toNat)
          case atStart => exact ⟨0, rfl, Nat.zero_le _, m6, rfl⟩
          case round =>
            obtain ⟨k, rfl, hk, m, rfl⟩ := hrel
            by_cases hlt : k < S.entries.length
            · obtain ⟨ad, rfl, _, _, hcs⟩ := HEX.out k (by rw [entC_len]; exact hlt)
              obtain ⟨ad', rfl, _, _, hcs'⟩ := HEX'.out k (by rw [entC_len]; exact hlt)
              have hsn := HSN.out k hlt
              rw [entC_get] at hcs hcs'
              obtain ⟨r, hr⟩ : ∃ r, r = S.entries[k] := ⟨_, rfl⟩
              rw [← hr] at hcs hcs'
              have c0 : W.cell? (ad.add (k * 4)) = some (.string r.key) := hcs 0 _ rfl
              have c1 : W.cell? ⟨(ad.add (k * 4)).block, (ad.add (k * 4)).off + 1, none⟩ = some (.int .i64 r.day) := hcs 1 _ rfl
              have c2 : W.cell? ⟨(ad.add (k * 4)).block, (ad.add (k * 4)).off + 2, none⟩ = some (lv k) := hcs 2 _ rfl
              have c3 : W.cell? ⟨(ad.add (k * 4)).block, (ad.add (k * 4)).off + 3, none⟩ = some (.string r.void) := hcs 3 _ rfl
              have d0 : W.cell? (ad'.add (k * 4)) = some (.string r.key) := hcs' 0 _ rfl
              have d1 : W.cell? ⟨(ad'.add (k * 4)).block, (ad'.add (k * 4)).off + 1, none⟩ = some (.int .i64 r.day) := hcs' 1 _ rfl
              have d2 : W.cell? ⟨(ad'.add (k * 4)).block, (ad'.add (k * 4)).off + 2, none⟩ = some (lv' k) := hcs' 2 _ rfl
              have d3 : W.cell? ⟨(ad'.add (k * 4)).block, (ad'.add (k * 4)).off + 3, none⟩ = some (.string r.void) := hcs' 3 _ rfl
              have hmu := meas_up S.entries.length k hlt
              clear hcs hcs' hr hsr hsi hsp hsl
              as_aux_lemma =>
                go_wp2
                go_quiet ((go_at_call 43; with_reducible refine (hsn _).mono ?_; rintro en w2 ⟨rfl, m', rfl⟩; exact ⟨rfl, _, by first | rw [World.drewN_drewN, Nat.add_assoc] | rw [World.drewN_drewN]⟩))
                go_wp2
                go_roundw
                case rel => exact ⟨k + 1, by go_num, by omega, m + nq, by first | rfl | rw [World.drewN_drewN]⟩
                case measure => simpa [intOf] using hmu
            · clear HEX HEX' HSN
              go_wp2_with (go_at_call 27; refine (hsr m).mono ?_)
              rintro en wx ⟨rfl, m1, rfl⟩
              clear hsr
              rw [World.drewN_drewN]
              generalize m + m1 = m8
              go_wp2_with (go_at_call 44; refine (hsi m8).mono ?_)
              rintro en wx ⟨rfl, m2, rfl⟩
              clear hsi
              rw [World.drewN_drewN]
              generalize m8 + m2 = m9
              go_wp2_with (go_at_call 44; refine (hsp m9).mono ?_)
              rintro en wx ⟨rfl, m3, rfl⟩
              clear hsp
              rw [World.drewN_drewN]
              generalize m9 + m3 = mA
              go_wp2_with (go_at_call 45; refine (hsl mA).mono ?_)
              rintro en wx ⟨rfl, m4, rfl⟩
              clear hsl
              rw [World.drewN_drewN]
              go_wp2
              go_ret
              exact ⟨rfl, below_drewN HB.out _⟩
end Go.Proofs.YtgocoofcelggcaaGreatDoor
namespace Go.Proofs.YtgocoofcelggcaaGreatDoor
open Go.ChangeShapes Go.WideShapes Go.ChangeAt Go.RowKit Go.Deep
set_option linter.unusedVariables false
set_option linter.unusedSimpArgs false

theorem laidOut : laidOutB Tryz.prog = true := by kernel_rfl

section
variable {H : Type} {enc : TypeId × Value → H} {P : Program}

theorem trodAll_stays {W W' : World} {sp : Nat → Bool} (hl : laidOutB P = true) (hb : Below W.heap.size W W') : ∀ (ts : List TypeId) (vs : List Value) (ds : List (DataW H)) (ps : List MemPlace),
    (∀ t ∈ ts, P.readableRec t = true ∧ t < P.types.size) → DataW.TrodAll enc P W 0 (fun _ => true) true ts vs ds ps → (∀ x ∈ ps, x.block < W.heap.size ∧ sp x.block = true) → DataW.TrodAll enc P W' 0 sp true ts vs ds ps
  | [], vs, ds, ps, _, h, _ => by
    obtain ⟨rfl, rfl, rfl⟩ := trodAll_nil h
    exact trodAll_mk0
  | t :: ts, vs, ds, ps, hr, h, hx => by
    obtain ⟨v, vs', d, ds', p, p', rfl, rfl, rfl, h1, h2⟩ := trodAll_cons h
    obtain ⟨hr1, hr2⟩ := hr t (by simp)
    exact trodAll_cons_mk (WideElems.Trod_stays hl hr1 hr2 h1 (fun x hm => hb.same (hx x (by simp [hm])).1) (fun x hm => (hx x (by simp [hm])).2))
      (trodAll_stays hl hb ts vs' ds' p' (fun t ht => hr t (by simp [ht])) h2 (fun x hm => hx x (by simp [hm])))

/-- A law's row, from its walk: it returns true and nothing of what was there has turned. -/
theorem post_true {f : Func} {s : ChangeSpec} {W W' : World} {args : Array Value} {ds gs : List (DataW H)} {before : List MemPlace} {tb : TypeId}
    (hW : DataW.Whole enc P f.params.toList s.vars false W args.toList ds gs before) (hvn : s.vars = [])
    (hfn : s.fn H ds = { results := [.lit (.bool true)], args := ds, vars := [] }) (hrt : f.resultTypes = #[tb]) (htb : P.underlying tb = some .bool)
    (hl : laidOutB P = true) (hread : ∀ t ∈ f.params.toList, P.readableRec t = true ∧ t < P.types.size) (hb : Below W.heap.size W W') :
    s.post enc P f false true false false W args (.bool true) W' := by
  have hlt : ∀ p ∈ before, p.block < W.heap.size := fun p hp => by simpa using hW.lt p hp
  have hW' := hW
  obtain ⟨p, q, hA, hV, rfl, hz, hn⟩ := hW'
  rw [hvn] at hV
  obtain ⟨rfl, rfl⟩ := trodVars_none hV
  have hargs : ∀ sp : Nat → Bool, (∀ x ∈ p ++ [], sp x.block = true) → DataW.TrodAll enc P W' 0 sp true f.params.toList args.toList (s.fn H (ds ++ [])).args p := fun sp hsp => by
    rw [List.append_nil, hfn]
    exact trodAll_stays hl hb _ _ _ _ hread hA fun x hx => ⟨hlt x (by simpa using hx), hsp x (by simpa using hx)⟩
  have hres : ∀ (b : Nat) (sp : Nat → Bool) (hd : Bool), DataW.TrodAll enc P W' b sp hd f.resultTypes.toList ((Value.bool true).resultList f.resultTypes.size) (s.fn H (ds ++ [])).results [] := fun b sp hd => by
    rw [List.append_nil, hfn, hrt]
    exact trodAll_cons_mk (shut_bool htb true) trodAll_mk0
  have hvars : ∀ sp : Nat → Bool, DataW.TrodVars enc P W' sp s.vars (s.fn H (ds ++ [])).vars [] := fun sp => by
    rw [List.append_nil, hfn, hvn]
    rfl
  have hold : ∀ x ∈ p ++ [], (fun b => decide (b < W.heap.size)) x.block = true := fun x hx => by simpa using hlt x hx
  refine ⟨ds, [], p ++ [], [], p, [], hW, hres _ _ _, hargs _ hold, hvars _, hb.frame _, fun _ => ?_⟩
  refine ⟨?_, _, _, ([] ++ p) ++ [], ⟨[] ++ p, [], trodAll_append (hargs _ (fun _ _ => rfl)) (hres _ _ _), hvars _, rfl, ?_, ?_⟩, ?_⟩
  · exact ok_one hrt rfl (okWide_bool_mk htb true)
  · intro b off hp
    have hm : MemPlace.cell b off ∈ p ++ [] := by simpa using hp
    rw [hb.frozen (p := ⟨b, off, none⟩) (hlt _ hm)]
    exact hz b off hm
  · intro ha
    cases ha
  · intro x hx _
    simpa using hx
end

/-! ### A slice of structs -/
section
variable {H : Type} {enc : TypeId × Value → H} {P : Program} {w : World} {base : Nat} {spare : Nat → Bool} {held : Bool}
theorem open_slice_fields {t e : TypeId} {fs : Array Field} {fuel : Nat} {cs : List Value} {x : DataW H × List MemPlace} (ht : P.underlying t = some (.slice e)) (he : P.underlying e = some (.struct fs))
    (hone : oneCellFields P fs = true) (hC : P.cellsOf e = fs.size) (h : DataW.trod enc P w base spare held fuel t cs = some x) :
    (cs = [.slice none 0 0] ∧ x = (.nil, [])) ∨
    ∃ (a : Addr) (len cap m : Nat) (D : Nat → DataW H) (Pl : Nat → List MemPlace), cs = [.slice (some a) len cap] ∧ base ≤ a.block ∧ len ≤ cap ∧ cap ≤ maxLen ∧ m = (if spare a.block then cap else len) ∧
      x = (.slice ((List.range len).map D) ((List.range (m - len)).map fun j => D (len + j)), MemPlace.row a (m * fs.size) ++ (List.range m).flatMap Pl) ∧
      ∀ i, i < m → ∃ (ys : List (DataW H × List MemPlace)) (n : Nat), D i = .agg (ys.map (·.1)) ∧ Pl i = ys.flatMap (·.2) ∧ ys.length = fs.size ∧
        ∀ (j : Nat) (f : Field), fs[j]? = some f → ∃ (v : Value) (y : DataW H × List MemPlace), w.cell? (a.add (i * fs.size + j)) = some v ∧ ys[j]? = some y ∧ DataW.trod enc P w base spare held n f.type [v] = some y := by
  rcases open_slice ht h with h0 | ⟨a, len, cap, m, n, D, Pl, hcs, hb, hl, hm, hmm, hx, hi⟩
  · exact .inl h0
  · refine .inr ⟨a, len, cap, m, D, Pl, hcs, hb, hl, hm, hmm, by rw [hC] at hx; exact hx, fun i him => ?_⟩
    obtain ⟨cs', hc, ht'⟩ := hi i him
    rw [hC] at hc
    obtain ⟨ys, n', hn', hy, hlen, hyl, hf⟩ := DataW.trod_struct he ht'
    obtain ⟨_, hcl, hat⟩ := World.cells?_some hc
    simp only [Prod.mk.injEq] at hy
    refine ⟨ys, n', hy.1, hy.2, hyl, fun j f hj => ?_⟩
    obtain ⟨ho, hk⟩ := hone_of hone j f hj
    have hjl : j < fs.size := (Array.getElem?_eq_some_iff.1 hj).1
    have hcell := hat j hjl
    have hv : cs'[j]? = some (cs'[j]'(by omega)) := List.getElem?_eq_getElem (by omega)
    have h1 := hf j f hj
    rw [ho, hk] at h1
    have hone' : (cs'.drop j).take 1 = [cs'[j]'(by omega)] := by
      rw [List.drop_eq_getElem_cons (by omega)]
      rfl
    rw [hone'] at h1
    have hys : ys[j]? = some (ys[j]'(by omega)) := List.getElem?_eq_getElem (by omega)
    refine ⟨_, _, ?_, hys, h1.trans hys⟩
    rw [← Go.Deep.add_add, hcell, hv]
end

theorem list_choice {α : Type} {n : Nat} {R : Nat → α → Prop} (h : ∀ i, i < n → ∃ x, R i x) : ∃ l : List α, l.length = n ∧ ∀ i (hi : i < l.length), R i l[i] := by
  induction n with
  | zero => exact ⟨[], rfl, fun i hi => by simp at hi⟩
  | succ n ih =>
    obtain ⟨l, hl, hR⟩ := ih fun i hi => h i (by omega)
    obtain ⟨x, hx⟩ := h n (by omega)
    refine ⟨l ++ [x], by simp [hl], fun i hi => ?_⟩
    by_cases hin : i < l.length
    · rw [List.getElem_append_left hin]
      exact hR i hin
    · have : i = l.length := by simp at hi; omega
      subst this
      rw [List.getElem_append_right (by omega)]
      simp
      rw [hl]
      exact hx

/-! ### What the bound gives -/
theorem bulk_pos {H : Type} (d : DataW H) : 1 ≤ Rows.uptoBulk d := by
  cases d with
  | lit l => cases l <;> simp [Rows.uptoBulk]
  | nil => simp [Rows.uptoBulk]
  | ptr d => simp [Rows.uptoBulk]
  | slice elems spare => simp [Rows.uptoBulk]
  | agg parts => simp [Rows.uptoBulk]
  | iface t d => simp [Rows.uptoBulk]
  | map entries => simp [Rows.uptoBulk]
  | held h => simp [Rows.uptoBulk]
theorem bulk_part {H : Type} {d : DataW H} {l : List (DataW H)} (h : d ∈ l) : Rows.uptoBulk d ≤ Rows.uptoBulkAll l := by
  induction l with
  | nil => cases h
  | cons x r ih =>
    simp only [Rows.uptoBulkAll]
    cases List.mem_cons.1 h with
    | inl e => subst e; omega
    | inr e => have := ih e; omega
theorem bulk_length {H : Type} (l : List (DataW H)) : l.length ≤ Rows.uptoBulkAll l := by
  induction l with
  | nil => simp [Rows.uptoBulkAll]
  | cons x r ih => have := bulk_pos x; simp only [Rows.uptoBulkAll, List.length_cons]; omega
theorem bulk_elems {H : Type} (elems spare : List (DataW H)) : Rows.uptoBulkAll elems + 1 ≤ Rows.uptoBulk (.slice elems spare) := by
  simp only [Rows.uptoBulk]
  omega
theorem bulk_agg {H : Type} (ps : List (DataW H)) : Rows.uptoBulkAll ps + 1 ≤ Rows.uptoBulk (.agg ps) := by
  simp only [Rows.uptoBulk]
  omega
theorem bulk_text {H : Type} (bytes : List UInt8) : Rows.uptoBulk (DataW.lit (H := H) (.string bytes)) = bytes.length + 1 := by
  simp [Rows.uptoBulk]

theorem bulk_bound {H : Type} {l : List (DataW H)} (hk : Rows.uptoSmall H l = true) : Rows.uptoBulkAll l ≤ 1048576 := by
  simpa [Rows.uptoSmall] using hk


theorem wf_i64 {n : Int} (h : (Lit.int .i64 n).wf = true) : -maxA - 1 ≤ n ∧ n ≤ maxA := by
  have e1 : IntKind.i64.min = -9223372036854775808 := by decide
  have e2 : IntKind.i64.max = 9223372036854775807 := by decide
  simp only [Lit.wf, Bool.and_eq_true, decide_eq_true_eq, e1, e2] at h
  unfold maxA
  omega

theorem trod_line {H : Type} {enc : TypeId × Value → H} {W : World} {base n : Nat} {v : Value} {y : DataW H × List MemPlace}
    (h : DataW.trod enc Tryz.prog W base (fun _ => true) true n 23 [v] = some y) (hk : Rows.uptoBulk y.1 ≤ 1048576) :
    ∃ l : List LineV, LinesAt W (fun k => k < W.heap.size) v l ∧ NilOk v ∧ l.length ≤ 1048576 ∧ (∀ x ∈ l, x.account.size ≤ 1048576 ∧ x.tag.size ≤ 1048576) ∧ ∀ x ∈ l, -maxA - 1 ≤ x.amount ∧ x.amount ≤ maxA := by
  rcases open_slice_fields Tryz.underlying23 Tryz.underlying90 (by kernel_rfl) (by kernel_rfl) h with ⟨hc, hx⟩ | ⟨a, len, cap, m, D, Pl, hc, hb, hl, hm, hmm, hx, hi⟩
  · injection hc with hc _
    subst hc
    exact ⟨[], RowAt.nil _ _ _, fun n c e => by cases e; exact ⟨rfl, rfl⟩, by simp, by simp, by simp⟩
  · injection hc with hc _
    subst hc
    subst hx
    have hmc : len ≤ m := by rw [hmm]; split <;> omega
    have hb1 := bulk_elems ((List.range len).map D) ((List.range (m - len)).map fun j => D (len + j))
    have hln := bulk_length ((List.range len).map D)
    rw [List.length_map, List.length_range] at hln
    simp only at hk
    obtain ⟨ls, hal, hR⟩ := list_choice (n := len) (R := fun j (x : LineV) => a.block < W.heap.size ∧ x.account.size ≤ 1048576 ∧ x.tag.size ≤ 1048576 ∧ (-maxA - 1 ≤ x.amount ∧ x.amount ≤ maxA) ∧
        ∀ i u, (encLine x)[i]? = some u → W.cell? ((a.add (j * 3)).add i) = some u) (fun j hj => by
      obtain ⟨ys, n, hD, hPl, hyl, hfd⟩ := hi j (by omega)
      obtain ⟨v0, y0, c0, e0, t0⟩ := hfd 0 _ rfl
      obtain ⟨v1, y1, c1, e1, t1⟩ := hfd 1 _ rfl
      obtain ⟨v2, y2, c2, e2, t2⟩ := hfd 2 _ rfl
      obtain ⟨acc, q0, z0, _⟩ := DataW.trod_string Tryz.underlying9 t0
      obtain ⟨amt, q1, _, w1⟩ := DataW.trod_int Tryz.underlying2 t1
      obtain ⟨tag, q2, z2, _⟩ := DataW.trod_string Tryz.underlying9 t2
      injection q0 with q0 _
      injection q1 with q1 _
      injection q2 with q2 _
      subst q0 q1 q2
      have h3 : D j ∈ (List.range len).map D := List.mem_map.2 ⟨j, by simpa using hj, rfl⟩
      have h4 := bulk_part h3
      rw [hD] at h4
      have h5 := bulk_agg (ys.map (·.1))
      have txt : ∀ (s : ByteArray) (y : DataW H × List MemPlace) (i : Nat), ys[i]? = some y → y.1 = .lit (.string s.data.toList) → s.size ≤ 1048576 := fun s y i e z => by
        have h1 : y.1 ∈ ys.map (·.1) := List.mem_map.2 ⟨y, List.mem_of_getElem? e, rfl⟩
        have h2 := bulk_part h1
        rw [z, bulk_text] at h2
        have h6 : s.data.toList.length = s.size := rfl
        omega
      refine ⟨⟨acc, amt, tag⟩, by have := World.block_lt_of_cell? W _ c0; rwa [block_add] at this, txt acc y0 0 e0 (by rw [z0]), txt tag y2 2 e2 (by rw [z2]), wf_i64 w1, ?_⟩
      intro i u hu
      rw [Go.Deep.add_add]
      match i, hu with
      | 0, hu => injection hu with hu; subst hu; exact c0
      | 1, hu => injection hu with hu; subst hu; exact c1
      | 2, hu => injection hu with hu; subst hu; exact c2
      | i + 3, hu => simp [encLine] at hu)
    refine ⟨ls, ⟨some a, cap, by rw [List.length_map, hal], fun j hj => ?_⟩, fun n c e => (by cases e), by omega, fun x hx => ?_, fun x hx => ?_⟩
    · have hj : j < ls.length := by simpa using hj
      obtain ⟨h1, _, _, _, h3⟩ := hR j hj
      rw [List.getElem_map]
      exact ⟨a, rfl, h1, h1, h3⟩
    · obtain ⟨j, hj, rfl⟩ := List.getElem_of_mem hx
      obtain ⟨_, h1, h2, _⟩ := hR j hj
      exact ⟨h1, h2⟩
    · obtain ⟨j, hj, rfl⟩ := List.getElem_of_mem hx
      obtain ⟨_, _, _, h1, _⟩ := hR j hj
      exact h1
set_option maxRecDepth 100000 in
theorem trod_event {H : Type} {enc : TypeId × Value → H} {W : World} {base : Nat} {C : Nat → Value → Prop} {D : DataW H} {ys : List (DataW H × List MemPlace)} {n : Nat} {fs : Array Field} (hfs : Tryz.prog.underlying 25 = some (.struct fs)) (hD : D = .agg (ys.map (·.1)))
    (hfd : ∀ (i : Nat) (f : Field), fs[i]? = some f → ∃ (v : Value) (y : DataW H × List MemPlace), C i v ∧ ys[i]? = some y ∧ DataW.trod enc Tryz.prog W base (fun _ => true) true n f.type [v] = some y) (hk : Rows.uptoBulk D ≤ 1048576) :
    ∃ (x : EventV) (lv : Value), (∀ i u, (evCs x lv).toList[i]? = some u → C i u) ∧ LinesAt W (fun k => k < W.heap.size) lv x.lines ∧ NilOk lv ∧ SmallEv x ∧ InEv x := by
  have hfs' := Tryz.underlying25
  rw [hfs] at hfs'
  injection hfs' with hfs'
  injection hfs' with hfs'
  subst hfs'
  obtain ⟨v0, y0, c0, e0, t0⟩ := hfd 0 _ rfl
  obtain ⟨v1, y1, c1, e1, t1⟩ := hfd 1 _ rfl
  obtain ⟨v2, y2, c2, e2, t2⟩ := hfd 2 _ rfl
  obtain ⟨v3, y3, c3, e3, t3⟩ := hfd 3 _ rfl
  obtain ⟨v4, y4, c4, e4, t4⟩ := hfd 4 _ rfl
  obtain ⟨v5, y5, c5, e5, t5⟩ := hfd 5 _ rfl
  obtain ⟨v6, y6, c6, e6, t6⟩ := hfd 6 _ rfl
  obtain ⟨v7, y7, c7, e7, t7⟩ := hfd 7 _ rfl
  obtain ⟨v8, y8, c8, e8, t8⟩ := hfd 8 _ rfl
  obtain ⟨v9, y9, c9, e9, t9⟩ := hfd 9 _ rfl
  obtain ⟨v10, y10, c10, e10, t10⟩ := hfd 10 _ rfl
  obtain ⟨v11, y11, c11, e11, t11⟩ := hfd 11 _ rfl
  obtain ⟨kind, q0, _, w0⟩ := DataW.trod_int Tryz.underlying3 t0
  obtain ⟨day, q1, _, w1⟩ := DataW.trod_int Tryz.underlying3 t1
  obtain ⟨key, q2, z2, _⟩ := DataW.trod_string Tryz.underlying9 t2
  obtain ⟨account, q3, z3, _⟩ := DataW.trod_string Tryz.underlying9 t3
  obtain ⟨other, q4, z4, _⟩ := DataW.trod_string Tryz.underlying9 t4
  obtain ⟨ref, q5, z5, _⟩ := DataW.trod_string Tryz.underlying9 t5
  obtain ⟨ref2, q6, z6, _⟩ := DataW.trod_string Tryz.underlying9 t6
  obtain ⟨typ, q7, _, w7⟩ := DataW.trod_int Tryz.underlying3 t7
  obtain ⟨due, q8, _, w8⟩ := DataW.trod_int Tryz.underlying3 t8
  obtain ⟨amount, q9, _, w9⟩ := DataW.trod_int Tryz.underlying2 t9
  obtain ⟨memo, q10, z10, _⟩ := DataW.trod_string Tryz.underlying9 t10
  injection q0 with q0 _
  injection q1 with q1 _
  injection q2 with q2 _
  injection q3 with q3 _
  injection q4 with q4 _
  injection q5 with q5 _
  injection q6 with q6 _
  injection q7 with q7 _
  injection q8 with q8 _
  injection q9 with q9 _
  injection q10 with q10 _
  subst q0 q1 q2 q3 q4 q5 q6 q7 q8 q9 q10
  rw [hD] at hk
  have h5 := bulk_agg (ys.map (·.1))
  have part : ∀ (y : DataW H × List MemPlace) (i : Nat), ys[i]? = some y → Rows.uptoBulk y.1 ≤ 1048576 := fun y i e => by
    have h1 : y.1 ∈ ys.map (·.1) := List.mem_map.2 ⟨y, List.mem_of_getElem? e, rfl⟩
    have h2 := bulk_part h1
    omega
  have txt : ∀ (s : ByteArray) (y : DataW H × List MemPlace) (i : Nat), ys[i]? = some y → y.1 = .lit (.string s.data.toList) → s.size ≤ 1048576 := fun s y i e z => by
    have h2 := part y i e
    rw [z, bulk_text] at h2
    have h6 : s.data.toList.length = s.size := rfl
    omega
  obtain ⟨ls, hL, hnil, hln, hsz, hin⟩ := trod_line t11 (part y11 11 e11)
  refine ⟨⟨kind, day, key, account, other, ref, ref2, typ, due, amount, memo, ls⟩, v11, ?_, hL, hnil, ?_, wf_i64 w9, hin⟩
  · intro i u hu
    have hu : [Value.int .i64 kind, .int .i64 day, .string key, .string account, .string other, .string ref, .string ref2, .int .i64 typ, .int .i64 due, .int .i64 amount, .string memo, v11][i]? = some u := hu
    match i, hu with
    | 0, hu => injection hu with hu; subst hu; exact c0
    | 1, hu => injection hu with hu; subst hu; exact c1
    | 2, hu => injection hu with hu; subst hu; exact c2
    | 3, hu => injection hu with hu; subst hu; exact c3
    | 4, hu => injection hu with hu; subst hu; exact c4
    | 5, hu => injection hu with hu; subst hu; exact c5
    | 6, hu => injection hu with hu; subst hu; exact c6
    | 7, hu => injection hu with hu; subst hu; exact c7
    | 8, hu => injection hu with hu; subst hu; exact c8
    | 9, hu => injection hu with hu; subst hu; exact c9
    | 10, hu => injection hu with hu; subst hu; exact c10
    | 11, hu => injection hu with hu; subst hu; exact c11
    | i + 12, hu => simp at hu
  · exact ⟨txt key y2 2 e2 (by rw [z2]), txt account y3 3 e3 (by rw [z3]), txt other y4 4 e4 (by rw [z4]), txt ref y5 5 e5 (by rw [z5]), txt ref2 y6 6 e6 (by rw [z6]), txt memo y10 10 e10 (by rw [z10]), hln, hsz⟩

/-- A slice of events that is handed in. -/
theorem events_open {H : Type} {enc : TypeId × Value → H} {W : World} {base : Nat} {v : Value} {d : DataW H} {p : List MemPlace}
    (h : DataW.Trod enc Tryz.prog W base (fun _ => true) true 22 v d p) (hone : v.cells.toList = [v]) (hk : Rows.uptoBulk d ≤ 1048576) : ∃ l, EventsAt W v l := by
  obtain ⟨fuel, hf⟩ := h
  rw [hone] at hf
  rcases open_slice_fields Tryz.underlying22 Tryz.underlying25 (by kernel_rfl) (by kernel_rfl) hf with ⟨hc, hx⟩ | ⟨a, len, cap, m, D, Pl, hc, hb, hl, hm, hmm, hx, hi⟩
  · injection hc with hc _
    subst hc
    exact ⟨[], ⟨none, 0, rfl, fun j hj => by simp at hj⟩, by simp, by simp⟩
  · injection hc with hc _
    subst hc
    injection hx with hx _
    subst hx
    have hmc : len ≤ m := by rw [hmm]; split <;> omega
    have hb1 := bulk_elems ((List.range len).map D) ((List.range (m - len)).map fun j => D (len + j))
    have hln := bulk_length ((List.range len).map D)
    rw [List.length_map, List.length_range] at hln
    obtain ⟨ls, hal, hR⟩ := list_choice (n := len) (R := fun j (x : EventV) => ∃ lv : Value, a.block < W.heap.size ∧ (∀ i u, (evCs x lv).toList[i]? = some u → W.cell? ((a.add (j * 12)).add i) = some u) ∧ LinesAt W (fun k => k < W.heap.size) lv x.lines ∧ NilOk lv ∧ SmallEv x ∧ InEv x) (fun j hj => by
      obtain ⟨ys, n, hD, hPl, hyl, hfd⟩ := hi j (by omega)
      have h3 : D j ∈ (List.range len).map D := List.mem_map.2 ⟨j, by simpa using hj, rfl⟩
      have h4 := bulk_part h3
      obtain ⟨x, lv, h1, h2⟩ := trod_event (C := fun i v => W.cell? ((a.add (j * 12)).add i) = some v) Tryz.underlying25 hD (fun i f hif => by
        obtain ⟨v, y, c, e, t⟩ := hfd i f hif
        exact ⟨v, y, by rw [Go.Deep.add_add]; exact c, e, t⟩) (by omega)
      exact ⟨x, lv, by have := World.block_lt_of_cell? W _ (h1 0 _ rfl); rwa [block_add, block_add] at this, h1, h2⟩)
    refine ⟨ls, ⟨some a, cap, by rw [hal], fun j hj => ?_⟩, by omega, fun e he => ?_⟩
    · obtain ⟨lv, h1, h2, h3, h4, _⟩ := hR j hj
      exact ⟨a, lv, rfl, h1, h2, h3, h4⟩
    · obtain ⟨j, hj, rfl⟩ := List.getElem_of_mem he
      obtain ⟨lv, _, _, _, _, h5⟩ := hR j hj
      exact h5

theorem list_ext12 {l m : List Value} (hl : l.length = m.length) (h : ∀ (i : Nat) (u : Value), m[i]? = some u → l[i]? = some u) : l = m := by
  apply List.ext_getElem hl
  intro i h1 h2
  have := h i m[i] (List.getElem?_eq_getElem h2)
  rw [List.getElem?_eq_getElem h1] at this
  exact Option.some.inj this

set_option maxRecDepth 100000 in
/-- An event that is handed in. -/
theorem event_open {H : Type} {enc : TypeId × Value → H} {W : World} {base : Nat} {v : Value} {d : DataW H} {p : List MemPlace}
    (hv : Value.okWide Tryz.prog W .any base 25 v) {b0 : Nat} (h : DataW.Trod enc Tryz.prog W b0 (fun _ => true) true 25 v d p) (hk : Rows.uptoBulk d ≤ 1048576) : ∃ x lv, v = evV x lv ∧ EventAt1 W lv x := by
  obtain ⟨cs, rfl, hcs⟩ := okWide_struct Tryz.underlying25 hv
  obtain ⟨fuel, hf⟩ := h
  have he := Tryz.underlying25
  obtain ⟨ys, n', hn', hy, hlen, hyl, hfd⟩ := DataW.trod_struct he hf
  have hone : oneCellFields Tryz.prog _ = true := (by kernel_rfl : oneCellFields Tryz.prog (match Tryz.prog.underlying 25 with | some (.struct fs) => fs | _ => #[]) = true)
  rw [he] at hone
  have hsz : cs.size = 12 := by rw [hcs]; kernel_rfl
  have hl12 : (Value.agg cs).cells.toList.length = 12 := by show cs.toList.length = 12; simpa using hsz
  injection hy with hy1 hy2
  obtain ⟨x, lv, h1, h2, h3, h4, h5⟩ := trod_event (W := W) (C := fun i u => cs.toList[i]? = some u) he hy1 (fun j f hj => by
    obtain ⟨ho, hk1⟩ := hone_of hone j f hj
    have hjl := (Array.getElem?_eq_some_iff.1 hj).1
    have hj12 : j < cs.toList.length := by
      have : cs.toList.length = 12 := hl12
      rw [this]
      exact Nat.lt_of_lt_of_le hjl (by decide)
    have h1 := hfd j f hj
    rw [ho, hk1] at h1
    have hone' : ((Value.agg cs).cells.toList.drop j).take 1 = [cs.toList[j]'hj12] := by
      show (cs.toList.drop j).take 1 = _
      rw [List.drop_eq_getElem_cons hj12]
      rfl
    rw [hone'] at h1
    have hys : ys[j]? = some (ys[j]'(by rw [hyl]; exact hjl)) := List.getElem?_eq_getElem _
    exact ⟨_, _, List.getElem?_eq_getElem hj12, hys, h1.trans hys⟩) hk
  refine ⟨x, lv, ?_, ⟨h2, h3, h4, h5⟩⟩
  unfold evV
  congr 1
  have : cs.toList = (evCs x lv).toList := list_ext12 (by rw [show cs.toList.length = 12 from hl12]; rfl) h1
  exact Array.toList_inj.1 this
end Go.Proofs.YtgocoofcelggcaaGreatDoor
