/- For what invoices, payments, postings, voids and allotments are refused; For what voids and allotments are refused; For what allotments are refused; the rows of postings and voids. Printed by gen_allot.py; What an event changes in the books: keys, rows, balances; What an event changes in the books: locks, keys, balances; count: a row taken into balances and last days; Openings and closings in the books; An entry made void; A claim taken; Claims and allotments. -/
import Derived.Test.YtgocoofcelggcaaGreatDoorPack7
namespace Go.Proofs.YtgocoofcelggcaaGreatDoor
open Go.RowKit
set_option linter.unusedVariables false
set_option linter.unusedSimpArgs false
section
variable {w : World} {F : Nat → Prop} {bb eb : Nat} {S : BookS} {e : EventV} {lv : Value}

theorem mayInvoice_any (h : BookAt w F bb S) (hE : EvAt w eb e lv) :
    Calls Tryz.prog 67 #[ptrV bb, ptrV eb] w fun en w' => en = .returned (.int .i64 (mayTradeE S e 4)) ∧ Below w.heap.size w w' := by
  have ht := mayTrade_any h hE 4
  clear h hE
  unfold ptrV at *
  go_enter Tryz.func67, Tryz.ntmps67
  go_wp2_with (go_at_call 98; refine ht.mono ?_; rintro en w1 ⟨rfl, hb⟩; clear ht)
  go_ret
  exact ⟨rfl, hb⟩
theorem mayPay_any (h : BookAt w F bb S) (hE : EvAt w eb e lv) :
    Calls Tryz.prog 70 #[ptrV bb, ptrV eb] w fun en w' => en = .returned (.int .i64 (mayTradeE S e 1)) ∧ Below w.heap.size w w' := by
  have ht := mayTrade_any h hE 1
  clear h hE
  unfold ptrV at *
  go_enter Tryz.func70, Tryz.ntmps70
  go_wp2_with (go_at_call 98; refine ht.mono ?_; rintro en w1 ⟨rfl, hb⟩; clear ht)
  go_ret
  exact ⟨rfl, hb⟩

/-! ### mayPost -/
theorem info_i64 : (Tryz.prog.info? 2).map (fun i => (i.zero, i.size, i.bytes)) = some (some (.int .i64 0), 1, 8) := by kernel_rfl
def numsV (l : List LineV) : List Value := l.map fun x => .int .i64 x.amount
theorem numsV_take (l : List LineV) (k : Nat) (h : k < l.length) : numsV (l.take (k + 1)) = numsV (l.take k) ++ [.int .i64 l[k].amount] := by
  rw [List.take_succ_eq_append_getElem h]
  simp only [numsV, List.map_append, List.map_cons, List.map_nil]
structure NumsInv (w : World) (l : List LineV) (v i : Value) (wr : World) (k : Nat) : Prop where
  le : k ≤ l.length
  at_ : i = .int .i64 (k : Int)
  own : wr.ownsRow w.heap.size 2 1 v k (numsV (l.take k))
  bel : Below w.heap.size w wr

theorem nums_flat (l : List LineV) : numsV l = ((l.map (·.amount)).map fun a => [Value.int .i64 a]).flatten := by
  induction l with
  | nil => rfl
  | cons x l ih => simp only [numsV, List.map_cons, List.flatten_cons, List.singleton_append] at ih ⊢; rw [ih]

set_option maxRecDepth 100000 in
set_option maxHeartbeats 4000000 in
theorem mayPost_any (h : BookAt w F bb S) (hE : EvAt w eb e lv) (R : Nat → Prop) (hL : LinesAt w R lv e.lines) (hl : e.lines.length ≤ 12) (ham : ∀ x ∈ e.lines, -9223372036854775808 < x.amount ∧ x.amount ≤ 9223372036854775807) :
    Calls Tryz.prog 61 #[ptrV bb, ptrV eb] w fun en w' => en = .returned (.int .i64 (mayPostE S e)) ∧ Below w.heap.size w w' := by
  obtain ⟨i0, hi, hz0, hz1, hz2⟩ := info_parts info_i64
  have hel := heap_lt hE.blk
  have hL' := hL
  obtain ⟨A, c, hv, hcl⟩ := hL'
  rw [List.length_map] at hv
  have hall := fun W (hb : Below w.heap.size w W) => mayAll_any (h.below hb) R lv e.lines e.day (by omega) (hL.below hb)
  subst hv
  have HC := Lib.hid hcl
  have HAM := Lib.hid ham
  have hkeep : ∀ W, Below w.heap.size w W → W.cell? ⟨eb, 1, none⟩ = some (.int .i64 e.day) ∧ W.cell? ⟨eb, 11, none⟩ = some (.slice A e.lines.length c) ∧ Below w.heap.size w W := fun W hb => by
    have hE' := hE.below hb
    exact ⟨hE'.e1, hE'.e11, hb⟩
  have HK := Lib.hid hkeep
  obtain ⟨RV, hRV⟩ : ∃ RV, RV = mayPostE S e := ⟨_, rfl⟩
  rw [← hRV]
  unfold mayPostE at hRV
  obtain ⟨M, hM⟩ : ∃ M, M = mayAllE S.chart e.day e.lines := ⟨_, rfl⟩
  rw [← hM] at hall hRV
  have HRV := Lib.hid hRV
  obtain ⟨g0, g1, g2⟩ := hkeep w.drew (Below.refl _ _).drew
  unfold ptrV at hall ⊢
  clear hcl ham h hE hL hkeep hRV hM
  by_cases hm : M = 0
  · subst hm
    go_enter Tryz.func61, Tryz.ntmps61
    go_wp2
    go_region_held3 (fun w' => w'.cell? ⟨eb, 1, none⟩ = some (.int .i64 e.day) ∧ w'.cell? ⟨eb, 11, none⟩ = some (.slice A e.lines.length c) ∧ Below w.heap.size w w')
      (first | with_reducible exact ⟨g0, g1, g2⟩ | with_reducible exact ⟨k0, k1, k2⟩)
      (first | (go_at_call 95; refine (hall _ (by with_reducible exact g2)).mono ?_; rintro en w1 ⟨rfl, hb1⟩; have g3' : Below w.heap.size w w1 := (by with_reducible exact grow_plain (V := w) (Below.refl _ _) (Nat.le_refl _) hb1); obtain ⟨k0, k1, k2⟩ := HK.out w1 g3'; clear g3' hall))
    have HB1 := Lib.hid k2
    have hs1 := k2.size
    clear g0 g1 g2
    go_wp2
    go_loopw [6, 29] (fun v i wr => ∃ k, NumsInv w1 e.lines v i wr k) (fun _ i _ => e.lines.length - (intOf i).toNat)
    case atStart => exact ⟨0, Nat.zero_le _, rfl, World.ownsRow_nil _ _ _ _, Below.refl _ _⟩
    case round =>
      obtain ⟨k, hk, rfl, hown, hbel⟩ := hrel
      by_cases hlt : k < e.lines.length
      · obtain ⟨ad, rfl, hab, _, hcs⟩ := HC.out k (by rw [List.length_map]; exact hlt)
        rw [List.getElem_map] at hcs
        have htk := numsV_take e.lines k hlt
        obtain ⟨x, hx⟩ : ∃ x, x = e.lines[k] := ⟨_, rfl⟩
        rw [← hx] at hcs htk
        have HTK := Lib.hid htk
        clear hx htk
        have hbw := HB1.out.trans (hbel.mono HB1.out.size)
        have hcw := fun i u hu => (hbw.cell (p := (ad.add (k * 3)).add i) (by rw [block_add, block_add]; exact hab)).trans (hcs i u hu)
        have c0 : wr.cell? (ad.add (k * 3)) = some (.string x.account) := hcw 0 _ rfl
        have c1 : wr.cell? ⟨(ad.add (k * 3)).block, (ad.add (k * 3)).off + 1, none⟩ = some (.int .i64 x.amount) := hcw 1 _ rfl
        have c2 : wr.cell? ⟨(ad.add (k * 3)).block, (ad.add (k * 3)).off + 2, none⟩ = some (.string x.tag) := hcw 2 _ rfl
        have hn0 := hbel.size
        have HO2 := Lib.hid (hown.alloc (.cells #[.string x.account, .int .i64 x.amount, .string x.tag] 90))
        have HLT := Lib.hid (fun k' hk' => (hown.lt k' hk').1)
        clear hcw hcs hown
        go_wp2_with (at_builtin; refine wpList_append_own _ rfl _ _ 167 rfl w1.heap.size 2 i0 (.int .i64 0) 1 8 Tryz.underlying167 hi hz0 hz1 hz2 rfl (by decide) _ _ _ rfl (HO2.out.alloc _) ⟨wr.heap.size + 1, 0, none⟩ 1 1 [.int .i64 x.amount] rfl rfl ?c1 ?c2 ?c3 ?c4 ?c5 ?_)
        case c1 =>
          have := cell_one_new (wr.alloc (.cells #[.string x.account, .int .i64 x.amount, .string x.tag] 90)) (.int .i64 x.amount) 2
          rw [World.size_alloc] at this
          exact this
        case c2 => simp [Value.oneCell']
        case c3 => unfold maxLen; omega
        case c4 => omega
        case c5 => simp; omega
        intro v' w2 hown' hgrow _
        have hb2 : Below w1.heap.size w1 w2 := ((hbel.alloc hn0 _).alloc (by simp; omega) _).grown hgrow (by simp; omega) HLT.out
        have HO1 := Lib.hid hown'
        clear hown' hgrow
        go_wp2
        go_roundw
        case rel => exact ⟨k + 1, by omega, by go_num, by
          have := HO1.out
          rw [HTK.out]
          exact this, hb2⟩
        case measure => simp [intOf]; omega
      · obtain rfl : k = e.lines.length := by omega
        rw [List.take_length] at hown
        have hrow : RowAt wr (fun _ => True) 1 u6 ((e.lines.map (·.amount)).map fun a => [Value.int .i64 a]) := by
          refine RowAt.of_own (B := w1.heap.size) (e := 2) ?_ (fun x hx => by obtain ⟨a, _, rfl⟩ := List.mem_map.1 hx; rfl) (fun _ _ => trivial)
          rw [← nums_flat]
          simpa using hown
        have hsum := Sum_any (fun _ => True) u6 (e.lines.map (·.amount)) wr (by rw [List.length_map]; omega) hrow (fun x hx => by obtain ⟨y, hy, rfl⟩ := List.mem_map.1 hx; exact HAM.out y hy)
        have hbw := HB1.out.trans (hbel.mono HB1.out.size)
        have HR := Lib.hid (show RV = if sumL e.lines = 0 then 0 else 72 by rw [HRV.out, if_pos trivial])
        rw [show (e.lines.map (·.amount)).sum = sumL e.lines from rfl] at hsum
        clear hown hrow HRV
        generalize sumL e.lines = T at *
        unfold sumV at hsum
        by_cases hf : -9223372036854775807 ≤ T ∧ T ≤ 9223372036854775807
        · simp only [if_pos hf] at hsum
          by_cases h0 : T = 0
          · have HR2 := Lib.hid (show RV = 0 by rw [HR.out, if_pos h0])
            have hb0 : (T != 0) = false := by simp [h0]
            clear h0 hf HR
            go_wp2_with (go_at_call 96; refine hsum.mono ?_; rintro en w3 ⟨rfl, hw⟩; subst hw; clear hsum)
            go_ret
            exact ⟨by rw [HR2.out]; rfl, hbw⟩
          · have HR2 := Lib.hid (show RV = 72 by rw [HR.out, if_neg h0])
            have hb0 : (T != 0) = true := by rw [bne_iff_ne]; exact h0
            clear h0 hf HR
            go_wp2_with (go_at_call 96; refine hsum.mono ?_; rintro en w3 ⟨rfl, hw⟩; subst hw; clear hsum)
            go_ret
            exact ⟨by rw [HR2.out]; rfl, hbw⟩
        · simp only [if_neg hf] at hsum
          have HR2 := Lib.hid (show RV = 72 by rw [HR.out, if_neg (fun h => hf (by omega))])
          clear hf HR
          go_wp2_with (go_at_call 96; refine hsum.mono ?_; rintro en w3 ⟨rfl, hw⟩; subst hw; clear hsum)
          go_ret
          exact ⟨by rw [HR2.out]; rfl, hbw⟩
  · have he : (M != 0) = true := by rw [bne_iff_ne]; exact hm
    have HR := Lib.hid (show RV = M by rw [HRV.out, if_neg hm])
    clear hm
    go_enter Tryz.func61, Tryz.ntmps61
    go_wp2
    go_region_held3 (fun w' => w'.cell? ⟨eb, 1, none⟩ = some (.int .i64 e.day) ∧ w'.cell? ⟨eb, 11, none⟩ = some (.slice A e.lines.length c) ∧ Below w.heap.size w w')
      (first | with_reducible exact ⟨g0, g1, g2⟩ | with_reducible exact ⟨k0, k1, k2⟩)
      (first | (go_at_call 95; refine (hall _ (by with_reducible exact g2)).mono ?_; rintro en w1 ⟨rfl, hb1⟩; have g3' : Below w.heap.size w w1 := (by with_reducible exact grow_plain (V := w) (Below.refl _ _) (Nat.le_refl _) hb1); obtain ⟨k0, k1, k2⟩ := HK.out w1 g3'; clear g3' hall))
    go_wp2
    go_ret
    exact ⟨by rw [HR.out]; rfl, k2⟩
end
end Go.Proofs.YtgocoofcelggcaaGreatDoor
namespace Go.Proofs.YtgocoofcelggcaaGreatDoor
open Go.RowKit
set_option linter.unusedVariables false
set_option linter.unusedSimpArgs false

theorem run_lookup_strmap_ok {P : Program} {w : World} {b : Nat} {ps : List (ByteArray × Value)} (h : StrMap w b ps) {T K E : TypeId} (hT : P.underlying T = some (.map K E)) (hK : P.underlying K = some .string)
    {z : Value} (hz : ∀ w, (zeroValue E).run P w = .ok z w) (k : ByteArray) :
    Sem.run P (Instr.lookup T (.map (some b)) (.string k) true) w = .ok (.tuple #[(getP k ps).getD z, .bool (getP k ps).isSome]) w := by
  obtain ⟨es, c, h1, h2⟩ := h
  obtain ⟨r, hr, hl⟩ := findNow_str k ps es.toList 0 h2
  have hck := fun e => checkKey_str hK e k w
  unfold Instr.lookup
  cases r with
  | none =>
    have hl' : getP k ps = none := by simpa using hl.symm
    simp [run_underlying hT, run_underlying hK, MapKept.run_getObj_map h1, hck, Instr.findKey, hr, hl', hz]
  | some x =>
    have hl' : getP k ps = some x.2 := by simpa using hl.symm
    simp [run_underlying hT, run_underlying hK, MapKept.run_getObj_map h1, hck, Instr.findKey, hr, hl']

theorem StrMap.drewN {w : World} {b : Nat} {ps : List (ByteArray × Value)} (h : StrMap w b ps) (n : Nat) : StrMap (w.drewN n) b ps := h

theorem entCells_get (es : List EntryV) (lv : Nat → Value) (i : Nat) (h : i < es.length) : (entCells es lv)[i]? = some (encEntry es[i] (lv i)) := by
  unfold entCells
  rw [List.getElem?_mapIdx, List.getElem?_eq_getElem h]
  rfl
theorem entCells_len (es : List EntryV) (lv : Nat → Value) : (entCells es lv).length = es.length := by simp [entCells]
theorem entCells_four (es : List EntryV) (lv : Nat → Value) : ∀ x ∈ entCells es lv, x.length = 4 := by
  intro x hx
  obtain ⟨i, hi, rfl⟩ := List.getElem_of_mem hx
  simp [entCells, encEntry]

/-- An entry's cells. -/
theorem BookP.entCell {w : World} {ρ : Nat → Nat} {bb : Nat} {S : BookS} {p : Pl} (h : BookP w ρ bb S p) (i : Nat) (hi : i < S.entries.length) :
    ∃ g cap, p.eV = .slice (some ⟨g, 0, none⟩) S.entries.length cap ∧ g < w.heap.size ∧ ρ g = 8 ∧ ∀ j u, (encEntry S.entries[i] (p.lv i))[j]? = some u → w.cell? ⟨g, i * 4 + j, none⟩ = some u := by
  have ho := h.entries.own
  rcases ho.2 with ⟨_, h0⟩ | ⟨g, cap, cur, hv, _, hg, _⟩
  · omega
  · refine ⟨g, cap, hv, heap_lt hg, h.entries.role g (by rw [hv]; rfl), fun j u hu => ?_⟩
    have h1 := flat_get (entCells S.entries p.lv) (entCells_four _ _) i (by rw [entCells_len]; exact hi) j u (by
      have := entCells_get S.entries p.lv i hi
      rw [List.getElem?_eq_getElem (by rw [entCells_len]; exact hi)] at this
      injection this with this
      rw [this]
      exact hu)
    have h2 := ho.cells (g := g) (by rw [hv]; rfl) (i * 4 + j) u h1
    rw [Addr.add_lit] at h2
    simpa using h2

theorem BookP.lookE {w : World} {ρ : Nat → Nat} {bb : Nat} {S : BookS} {p : Pl} (h : BookP w ρ bb S p) (k : ByteArray) :
    (∃ i, ∃ hi : i < S.entries.length, entryOf S k = some S.entries[i] ∧ ∀ n, Sem.run Tryz.prog (Instr.lookup 73 (.map (some p.mE)) (.string k) true) (w.drewN n) = .ok (.tuple #[.int .i64 (i : Int), .bool true]) (w.drewN n)) ∨
    (entryOf S k = none ∧ ∀ n, Sem.run Tryz.prog (Instr.lookup 73 (.map (some p.mE)) (.string k) true) (w.drewN n) = .ok (.tuple #[.int .i64 0, .bool false]) (w.drewN n)) := by
  obtain ⟨ps, hs, hi⟩ := h.entry.ex
  have hl := fun n => run_lookup_strmap_ok (hs.drewN n) Tryz.underlying73 Tryz.underlying9 Tryz.zeroValue3 k
  rw [hi k] at hl
  rcases find_at (fun x : EntryV => decide (x.key = k)) S.entries with ⟨i, hi, h1, h2, _⟩ | ⟨h1, h2, _⟩
  · rw [h1] at hl
    exact .inl ⟨i, hi, h2, hl⟩
  · rw [h1] at hl
    exact .inr ⟨h2, hl⟩

section
variable {w : World} {F : Nat → Prop} {bb eb : Nat} {S : BookS} {e : EventV} {lv : Value}

set_option maxRecDepth 100000 in
set_option maxHeartbeats 4000000 in
theorem mayVoid_any (h : BookAt w F bb S) (ho : OkS S) (hE : EvAt w eb e lv) :
    Calls Tryz.prog 64 #[ptrV bb, ptrV eb] w fun en w' => en = .returned (.int .i64 (mayVoidE S e)) ∧ Below w.heap.size w w' := by
  have hbk := h
  obtain ⟨ρ, p, h, _⟩ := h
  have hbl := heap_lt h.head
  have hel := heap_lt hE.blk
  have c8 := h.c8
  have e5 := hE.e5
  unfold mayVoidE
  rcases h.lookE e.ref with ⟨i, hi, hent, hlk⟩ | ⟨hent, hlk⟩
  · rw [hent]
    simp only
    obtain ⟨g, cap, hv, hgl, _, hcs⟩ := h.entCell i hi
    have c7 := h.c7
    rw [hv] at c7
    have hln := h.lines i hi
    have hle := ho.entLe
    have hfit := ho.entFit _ (List.getElem_mem hi)
    have hev := ho.ev1
    have hl12 : S.entries[i].lines.length ≤ 12 := by
      unfold fitB at hfit
      simp at hfit
      exact hfit.2.2
    have hall := fun W (hb : Below w.heap.size w W) => mayAll_any (hbk.below hb) _ (p.lv i) S.entries[i].lines e.day (by omega) (hln.below hb)
    obtain ⟨x, hx⟩ : ∃ x, x = S.entries[i] := ⟨_, rfl⟩
    rw [← hx] at hcs hall ⊢
    obtain ⟨n, hn⟩ : ∃ n, n = S.entries.length := ⟨_, rfl⟩
    rw [← hn] at c7 hi
    have hin : (i : Int) < (n : Int) := by omega
    have hk : ∀ W, Below w.heap.size w W → W.cell? ⟨bb, 7, none⟩ = some (.slice (some ⟨g, 0, none⟩) n cap) ∧ W.cell? ⟨eb, 1, none⟩ = some (.int .i64 e.day) ∧ W.cell? ⟨g, i * 4, none⟩ = some (.string x.key) ∧ W.cell? ⟨g, i * 4 + 1, none⟩ = some (.int .i64 x.day) ∧ W.cell? ⟨g, i * 4 + 2, none⟩ = some (p.lv i) ∧ W.cell? ⟨g, i * 4 + 3, none⟩ = some (.string x.void) ∧ Below w.heap.size w W := fun W hb => by
      have hE' := hE.below hb
      exact ⟨(hb.cell (p := ⟨bb, 7, none⟩) hbl).trans c7, hE'.e1, (hb.cell (p := ⟨g, i * 4, none⟩) hgl).trans (hcs 0 _ rfl), (hb.cell (p := ⟨g, i * 4 + 1, none⟩) hgl).trans (hcs 1 _ rfl), (hb.cell (p := ⟨g, i * 4 + 2, none⟩) hgl).trans (hcs 2 _ rfl), (hb.cell (p := ⟨g, i * 4 + 3, none⟩) hgl).trans (hcs 3 _ rfl), hb⟩
    have HK := Lib.hid hk
    obtain ⟨A, cc, hlv, _⟩ := hln
    rw [List.length_map, ← hx] at hlv
    generalize p.lv i = lw at *
    generalize p.mE = mE at *
    obtain ⟨L, hL⟩ : ∃ L, L = S.chart := ⟨_, rfl⟩
    rw [← hL] at hall ⊢
    obtain ⟨M, hM⟩ : ∃ M, M = mayAllE L e.day x.lines := ⟨_, rfl⟩
    rw [← hM] at hall ⊢
    have hnil := nil_isEmpty x.void
    subst hlv
    unfold ptrV at hall ⊢
    clear hk hcs hbk h hE hent ho hx hn hfit hL hM c7 hle hev hv
    cases hvd : nilB x.void with
    | false =>
      rw [hvd] at hnil
      simp only [Bool.not_false, if_true]
      clear hvd
      go_enter Tryz.func64, Tryz.ntmps64
      go_wp2
      go_quiet (fail)
      obtain ⟨r0, r1, r2, r3, r4, r5, r6⟩ := HK.out (w.drewN nq) (below_drewN (Below.refl _ _) _)
      generalize w.drewN nq = V at r0 r1 r2 r3 r4 r5 r6 ⊢
      have helV : eb < V.heap.size := by have := r6.size; omega
      have hglV : g < V.heap.size := by have := r6.size; omega
      go_wp2
      go_ret
      exact ⟨rfl, r6.alloc r6.size _⟩
    | true =>
      rw [hvd] at hnil
      simp only [Bool.not_true, Bool.false_eq_true, if_false]
      clear hvd
      by_cases hd : e.day < x.day
      · rw [if_pos hd]
        go_enter Tryz.func64, Tryz.ntmps64
        go_wp2
        go_quiet (fail)
        obtain ⟨r0, r1, r2, r3, r4, r5, r6⟩ := HK.out (w.drewN nq) (below_drewN (Below.refl _ _) _)
        generalize w.drewN nq = V at r0 r1 r2 r3 r4 r5 r6 ⊢
        have helV : eb < V.heap.size := by have := r6.size; omega
        have hglV : g < V.heap.size := by have := r6.size; omega
        go_wp2
        go_quiet (fail)
        go_wp2
        go_ret
        exact ⟨rfl, below_drewN (r6.alloc r6.size _) _⟩
      · rw [if_neg hd]
        have hd' : x.day ≤ e.day := by omega
        have hd2 : decide (e.day < x.day) = false := decide_eq_false hd
        clear hd
        go_enter Tryz.func64, Tryz.ntmps64
        go_wp2
        go_quiet (fail)
        obtain ⟨r0, r1, r2, r3, r4, r5, r6⟩ := HK.out (w.drewN nq) (below_drewN (Below.refl _ _) _)
        generalize w.drewN nq = V at r0 r1 r2 r3 r4 r5 r6 ⊢
        have helV : eb < V.heap.size := by have := r6.size; omega
        have hglV : g < V.heap.size := by have := r6.size; omega
        go_wp2
        go_quiet (fail)
        have hb3 := below_drewN (r6.alloc r6.size (.cells #[.string x.key, .int .i64 x.day, .slice A x.lines.length cc, .string x.void] 81)) nq
        have hx3 : ((V.alloc (.cells #[.string x.key, .int .i64 x.day, .slice A x.lines.length cc, .string x.void] 81)).drewN nq).heap[V.heap.size]? = some (.cells #[.string x.key, .int .i64 x.day, .slice A x.lines.length cc, .string x.void] 81 (0, 0)) := World.alloc_heap_new V _
        have hvl := r6.size
        obtain ⟨vb, hvb⟩ : ∃ vb, V.heap.size = vb := ⟨_, rfl⟩
        generalize (V.alloc (.cells #[.string x.key, .int .i64 x.day, .slice A x.lines.length cc, .string x.void] 81)).drewN nq = V2 at hb3 hx3 ⊢
        simp only [hvb] at hx3 ⊢
        clear hvb
        have y2 : V2.cell? ⟨vb, 2, none⟩ = some (.slice A x.lines.length cc) := by rw [cell_of_blk hx3]; rfl
        obtain ⟨_, z1, _⟩ := HK.out V2 hb3
        have hk2 : ∀ W, Below w.heap.size w W → Below V2.heap.size V2 W → W.cell? ⟨vb, 2, none⟩ = some (.slice A x.lines.length cc) ∧ W.cell? ⟨eb, 1, none⟩ = some (.int .i64 e.day) ∧ Below w.heap.size w W := fun W hb hbV => ⟨(hbV.cell (p := ⟨vb, 2, none⟩) (heap_lt hx3)).trans y2, (HK.out W hb).2.1, hb⟩
        have HK2 := Lib.hid hk2
        obtain ⟨g0, g1, g2⟩ := hk2 V2.drew hb3.drew (Below.refl _ _).drew
        clear hk2 hx3 r0 r1 r2 r3 r4 r5
        go_wp2
        go_region_held3 (fun w' => w'.cell? ⟨vb, 2, none⟩ = some (.slice A x.lines.length cc) ∧ w'.cell? ⟨eb, 1, none⟩ = some (.int .i64 e.day) ∧ Below w.heap.size w w')
          (first | with_reducible exact ⟨g0, g1, g2⟩ | with_reducible exact ⟨k0, k1, k2⟩)
          (first | (go_at_call 95; refine (hall _ (by with_reducible exact g2)).mono ?_; rintro en w1 ⟨rfl, hb1⟩; have hbV : Below V2.heap.size V2 w1 := (by with_reducible exact grow_plain (V := V2) (Below.refl _ _) (Nat.le_refl _) hb1); obtain ⟨k0, k1, k2⟩ := HK2.out w1 (hb3.trans (hbV.mono hb3.size)) hbV; clear hbV hall))
        go_wp2
        go_ret
        exact ⟨rfl, k2⟩
  · rw [hent]
    simp only
    unfold ptrV
    clear h hE hent ho hbk
    generalize p.mE = mE at *
    go_enter Tryz.func64, Tryz.ntmps64
    go_wp2
    go_quiet (fail)
    go_wp2
    go_ret
    exact ⟨rfl, below_drewN (Below.refl _ _) _⟩
end
end Go.Proofs.YtgocoofcelggcaaGreatDoor
namespace Go.Proofs.YtgocoofcelggcaaGreatDoor
open Go.RowKit
set_option linter.unusedVariables false
set_option linter.unusedSimpArgs false

theorem BookP.lookCn {w : World} {ρ : Nat → Nat} {bb : Nat} {S : BookS} {p : Pl} (h : BookP w ρ bb S p) (k : ByteArray) :
    (∃ i, ∃ hi : i < S.claims.length, claimOf S k = some S.claims[i] ∧ S.claims[i].key = k ∧ ∀ n, Sem.run Tryz.prog (Instr.lookup 75 (.map (some p.mC)) (.string k) false) (w.drewN n) = .ok (.pointer (some ⟨p.cl i, 0, none⟩)) (w.drewN n)) ∨
    (claimOf S k = none ∧ ∀ n, Sem.run Tryz.prog (Instr.lookup 75 (.map (some p.mC)) (.string k) false) (w.drewN n) = .ok (.pointer none) (w.drewN n)) := by
  obtain ⟨ps, hs, hi⟩ := h.claims.ex
  have hl := fun n => run_lookup_strmap (hs.drewN n) Tryz.underlying75 Tryz.underlying9 Tryz.zeroValue79 k
  rw [hi k] at hl
  rcases find_at (fun x : ClaimV => decide (x.key = k)) S.claims with ⟨i, hi, h1, h2, h3⟩ | ⟨h1, h2, _⟩
  · rw [h1] at hl
    exact .inl ⟨i, hi, h2, by simpa using h3, hl⟩
  · rw [h1] at hl
    exact .inr ⟨h2, hl⟩

theorem left_quiet (b : Nat) (am us : Int) (w : World) (h4 : w.cell? ⟨b, 4, none⟩ = some (.int .i64 am)) (h5 : w.cell? ⟨b, 5, none⟩ = some (.int .i64 us)) (hr : 0 ≤ am - us ∧ am - us ≤ 9223372036854775807) (n : Nat) :
    Calls Tryz.prog 32 #[.pointer (some ⟨b, 0, none⟩)] (w.drewN n) fun e w' => e = .returned (.int .i64 (am - us)) ∧ ∃ m, w' = (w.drewN n).drewN m :=
  left_any b am us (w.drewN n) h4 h5 hr

section
variable {w : World} {F : Nat → Prop} {bb eb : Nat} {S : BookS} {e : EventV} {lv : Value}
set_option maxRecDepth 100000 in
set_option maxHeartbeats 8000000 in
theorem mayAllot_any (h : BookAt w F bb S) (ho : OkS S) (hE : EvAt w eb e lv) :
    Calls Tryz.prog 72 #[ptrV bb, ptrV eb] w fun en w' => en = .returned (.int .i64 (mayAllotE S e)) ∧ Below w.heap.size w w' := by
  obtain ⟨ρ, p, h, _⟩ := h
  have c9 := h.c9
  have e5 := hE.e5
  have e6 := hE.e6
  have e1 := hE.e1
  have e9 := hE.e9
  unfold mayAllotE ptrV
  have hrp := h.lookCn e.ref
  have hri := h.lookCn e.ref2
  have cell := fun i hi j => (cell_of_blk (i := j) (h.claim i hi).1 : w.cell? ⟨p.cl i, j, none⟩ = (claimCs S.claims[i])[j]?)
  have amt := fun i (hi : i < S.claims.length) => ho.claAmt _ (List.getElem_mem hi)
  rcases hrp with ⟨ip, hip, hcp, hkp, hlp⟩ | ⟨hcp, hlp⟩
  · rw [hcp]
    have p1 := cell ip hip 1
    have p2 := cell ip hip 2
    have p4 := cell ip hip 4
    have p5 := cell ip hip 5
    have p6 := cell ip hip 6
    have pr := amt ip hip
    have p1' : w.cell? ⟨p.cl ip, 1, none⟩ = some (.string S.claims[ip].account) := p1
    have p2' : w.cell? ⟨p.cl ip, 2, none⟩ = some (.int .i64 S.claims[ip].day) := p2
    have p4' : w.cell? ⟨p.cl ip, 4, none⟩ = some (.int .i64 S.claims[ip].amount) := p4
    have p5' : w.cell? ⟨p.cl ip, 5, none⟩ = some (.int .i64 S.claims[ip].used) := p5
    have p6' : w.cell? ⟨p.cl ip, 6, none⟩ = some (.bool S.claims[ip].pay) := p6
    clear p1 p2 p4 p5 p6
    obtain ⟨P, hP⟩ : ∃ P, P = S.claims[ip] := ⟨_, rfl⟩
    obtain ⟨pb, hpb⟩ : ∃ pb, pb = p.cl ip := ⟨_, rfl⟩
    rw [← hP] at p1' p2' p4' p5' p6' pr ⊢
    rw [← hpb] at p1' p2' p4' p5' p6' hlp
    rcases hri with ⟨ii, hii, hci, hki, hli⟩ | ⟨hci, hli⟩
    · rw [hci]
      have i1 : w.cell? ⟨p.cl ii, 1, none⟩ = some (.string S.claims[ii].account) := cell ii hii 1
      have i2 : w.cell? ⟨p.cl ii, 2, none⟩ = some (.int .i64 S.claims[ii].day) := cell ii hii 2
      have i4 : w.cell? ⟨p.cl ii, 4, none⟩ = some (.int .i64 S.claims[ii].amount) := cell ii hii 4
      have i5 : w.cell? ⟨p.cl ii, 5, none⟩ = some (.int .i64 S.claims[ii].used) := cell ii hii 5
      have i6 : w.cell? ⟨p.cl ii, 6, none⟩ = some (.bool S.claims[ii].pay) := cell ii hii 6
      have ir := amt ii hii
      obtain ⟨I, hI⟩ : ∃ I, I = S.claims[ii] := ⟨_, rfl⟩
      obtain ⟨ib, hib⟩ : ∃ ib, ib = p.cl ii := ⟨_, rfl⟩
      rw [← hI] at i1 i2 i4 i5 i6 ir ⊢
      rw [← hib] at i1 i2 i4 i5 i6 hli
      simp only
      have p1 := p1'
      have p2 := p2'
      have p4 := p4'
      have p5 := p5'
      have p6 := p6'
      clear p1' p2' p4' p5' p6'
      have hp : 0 ≤ P.amount - P.used ∧ P.amount - P.used ≤ 9223372036854775807 := by unfold maxA at pr; omega
      have hi : 0 ≤ I.amount - I.used ∧ I.amount - I.used ≤ 9223372036854775807 := by unfold maxA at ir; omega
      generalize p.mC = mC at *
      clear cell amt h hE ho hP hI hpb hib hcp hci hkp hki pr ir
      cases hpp : P.pay with
      | false =>
        rw [hpp] at p6
        clear hpp
        go_enter Tryz.func72, Tryz.ntmps72
        go_wp2
        go_quiet (fail)
        go_wp2
        go_ret
        exact ⟨rfl, by repeat (first | exact Below.refl _ _ | refine below_drewN ?_ _)⟩
      | true =>
        rw [hpp] at p6
        clear hpp
        cases hii2 : I.pay with
        | true =>
          rw [hii2] at i6
          clear hii2
          go_enter Tryz.func72, Tryz.ntmps72
          go_wp2
          go_quiet (fail)
          go_wp2
          go_ret
          exact ⟨rfl, by repeat (first | exact Below.refl _ _ | refine below_drewN ?_ _)⟩
        | false =>
          rw [hii2] at i6
          clear hii2
          simp only [Bool.not_false, Bool.and_self, if_true]
          by_cases hac : P.account = I.account
          · rw [if_pos hac]
            have a1 : (P.account.toList == I.account.toList) = true := by rw [hac]; simp
            clear hac
            by_cases d1 : e.day < P.day
            · rw [if_pos (Or.inl d1)]
              go_enter Tryz.func72, Tryz.ntmps72
              go_wp2
              go_quiet (fail)
              go_wp2
              go_quiet (fail)
              go_wp2
              go_quiet (fail)
              go_wp2
              go_ret
              exact ⟨rfl, by repeat (first | exact Below.refl _ _ | refine below_drewN ?_ _)⟩
            · have d1' : P.day ≤ e.day := by omega
              have d1b : decide (e.day < P.day) = false := decide_eq_false d1
              by_cases d2 : e.day < I.day
              · rw [if_pos (Or.inr d2)]
                clear d1
                go_enter Tryz.func72, Tryz.ntmps72
                go_wp2
                go_quiet (fail)
                go_wp2
                go_quiet (fail)
                go_wp2
                go_quiet (fail)
                go_wp2
                go_ret
                exact ⟨rfl, by repeat (first | exact Below.refl _ _ | refine below_drewN ?_ _)⟩
              · rw [if_neg (by rintro (h | h); exact d1 h; exact d2 h)]
                have d2' : I.day ≤ e.day := by omega
                have d2b : decide (e.day < I.day) = false := decide_eq_false d2
                clear d1 d2
                by_cases l1 : P.amount - P.used < e.amount
                · rw [if_pos (Or.inl l1)]
                  have l1b : decide (P.amount - P.used < e.amount) = true := decide_eq_true l1
                  clear l1
                  go_enter Tryz.func72, Tryz.ntmps72
                  go_wp2
                  go_quiet (fail)
                  go_wp2
                  go_quiet (fail)
                  go_wp2
                  go_quiet (fail)
                  go_wp2
                  go_quiet ((first | (go_at_call 32; with_reducible refine (left_quiet pb _ _ _ p4 p5 hp _).mono ?_; rintro en w2 ⟨rfl, m, rfl⟩; exact ⟨rfl, _, by rw [World.drewN_drewN, Nat.add_assoc]⟩) | (go_at_call 32; with_reducible refine (left_quiet ib _ _ _ i4 i5 hi _).mono ?_; rintro en w2 ⟨rfl, m, rfl⟩; exact ⟨rfl, _, by rw [World.drewN_drewN, Nat.add_assoc]⟩)))
                  go_wp2
                  go_ret
                  exact ⟨rfl, by repeat (first | exact Below.refl _ _ | refine below_drewN ?_ _)⟩
                · have l1' : e.amount ≤ P.amount - P.used := by omega
                  have l1b : decide (P.amount - P.used < e.amount) = false := decide_eq_false l1
                  by_cases l2 : I.amount - I.used < e.amount
                  · rw [if_pos (Or.inr l2)]
                    have l2b : decide (I.amount - I.used < e.amount) = true := decide_eq_true l2
                    clear l1
                    go_enter Tryz.func72, Tryz.ntmps72
                    go_wp2
                    go_quiet (fail)
                    go_wp2
                    go_quiet (fail)
                    go_wp2
                    go_quiet (fail)
                    go_wp2
                    go_quiet ((first | (go_at_call 32; with_reducible refine (left_quiet pb _ _ _ p4 p5 hp _).mono ?_; rintro en w2 ⟨rfl, m, rfl⟩; exact ⟨rfl, _, by rw [World.drewN_drewN, Nat.add_assoc]⟩) | (go_at_call 32; with_reducible refine (left_quiet ib _ _ _ i4 i5 hi _).mono ?_; rintro en w2 ⟨rfl, m, rfl⟩; exact ⟨rfl, _, by rw [World.drewN_drewN, Nat.add_assoc]⟩)))
                    go_wp2
                    go_ret
                    exact ⟨rfl, by repeat (first | exact Below.refl _ _ | refine below_drewN ?_ _)⟩
                  · rw [if_neg (by rintro (h | h); exact l1 h; exact l2 h)]
                    have l2' : e.amount ≤ I.amount - I.used := by omega
                    have l2b : decide (I.amount - I.used < e.amount) = false := decide_eq_false l2
                    clear l1 l2
                    go_enter Tryz.func72, Tryz.ntmps72
                    go_wp2
                    go_quiet (fail)
                    go_wp2
                    go_quiet (fail)
                    go_wp2
                    go_quiet (fail)
                    go_wp2
                    go_quiet ((first | (go_at_call 32; with_reducible refine (left_quiet pb _ _ _ p4 p5 hp _).mono ?_; rintro en w2 ⟨rfl, m, rfl⟩; exact ⟨rfl, _, by rw [World.drewN_drewN, Nat.add_assoc]⟩) | (go_at_call 32; with_reducible refine (left_quiet ib _ _ _ i4 i5 hi _).mono ?_; rintro en w2 ⟨rfl, m, rfl⟩; exact ⟨rfl, _, by rw [World.drewN_drewN, Nat.add_assoc]⟩)))
                    go_wp2
                    go_ret
                    exact ⟨rfl, by repeat (first | exact Below.refl _ _ | refine below_drewN ?_ _)⟩
          · rw [if_neg hac]
            have a1 : (P.account.toList == I.account.toList) = false := by
              rw [ByteArray.toList_eq, ByteArray.toList_eq]
              exact beq_eq_false_iff_ne.2 fun h => hac (Go.WideShapes.bytes_inj h)
            clear hac
            go_enter Tryz.func72, Tryz.ntmps72
            go_wp2
            go_quiet (fail)
            go_wp2
            go_quiet (fail)
            go_wp2
            go_ret
            exact ⟨rfl, by repeat (first | exact Below.refl _ _ | refine below_drewN ?_ _)⟩
    · rw [hci]
      simp only
      have p6 := p6'
      generalize p.mC = mC at *
      clear cell amt h hE ho hP hpb hcp hci hkp pr p1' p2' p4' p5' p6'
      cases hpp : P.pay with
      | false =>
        rw [hpp] at p6
        clear hpp
        go_enter Tryz.func72, Tryz.ntmps72
        go_wp2
        go_quiet (fail)
        go_wp2
        go_ret
        exact ⟨rfl, by repeat (first | exact Below.refl _ _ | refine below_drewN ?_ _)⟩
      | true =>
        rw [hpp] at p6
        clear hpp
        go_enter Tryz.func72, Tryz.ntmps72
        go_wp2
        go_quiet (fail)
        go_wp2
        go_ret
        exact ⟨rfl, by repeat (first | exact Below.refl _ _ | refine below_drewN ?_ _)⟩
  · rw [hcp]
    simp only
    generalize p.mC = mC at *
    rcases hri with ⟨ii, hii, hci, hki, hli⟩ | ⟨hci, hli⟩
    · clear cell amt h hE ho hcp hci hki
      go_enter Tryz.func72, Tryz.ntmps72
      go_wp2
      go_quiet (fail)
      go_wp2
      go_ret
      exact ⟨rfl, by repeat (first | exact Below.refl _ _ | refine below_drewN ?_ _)⟩
    · clear cell amt h hE ho hcp hci
      go_enter Tryz.func72, Tryz.ntmps72
      go_wp2
      go_quiet (fail)
      go_wp2
      go_ret
      exact ⟨rfl, by repeat (first | exact Below.refl _ _ | refine below_drewN ?_ _)⟩
end
end Go.Proofs.YtgocoofcelggcaaGreatDoor
namespace Go.Proofs.YtgocoofcelggcaaGreatDoor
open Go.RowKit
set_option linter.unusedVariables false
set_option linter.unusedSimpArgs false

/-! ### Maps: a key's value laid anew -/
def setP (k : ByteArray) (v : Value) : List (ByteArray × Value) → List (ByteArray × Value)
  | [] => [(k, v)]
  | p :: ps => if k = p.1 then (p.1, v) :: ps else p :: setP k v ps
theorem getP_setP (k k' : ByteArray) (v : Value) (ps : List (ByteArray × Value)) : getP k' (setP k v ps) = if k' = k then some v else getP k' ps := by
  induction ps with
  | nil => simp [setP, getP]
  | cons p ps ih =>
    unfold setP
    by_cases h : k = p.1
    · rw [if_pos h]
      simp only [getP]
      by_cases h2 : k' = p.1
      · rw [if_pos h2, if_pos (by rw [h2, h])]
      · rw [if_neg h2, if_neg h2, if_neg (by rw [h]; exact h2)]
    · rw [if_neg h]
      simp only [getP, ih]
      by_cases h2 : k' = p.1
      · rw [if_pos h2, if_pos h2, if_neg (by rw [h2]; exact fun e => h e.symm)]
      · rw [if_neg h2, if_neg h2]
theorem getP_none_push (k : ByteArray) (v : Value) (ps : List (ByteArray × Value)) (h : getP k ps = none) : setP k v ps = ps ++ [(k, v)] := by
  induction ps with
  | nil => rfl
  | cons p ps ih =>
    simp only [getP] at h
    unfold setP
    by_cases h2 : k = p.1
    · rw [if_pos h2] at h; cases h
    · rw [if_neg h2] at h ⊢
      rw [ih h]
      rfl

theorem findNow_at (k : ByteArray) (v : Value) : ∀ (ps : List (ByteArray × Value)) (es : List MapEntry) (i : Nat), es.map (fun e => (e.key, e.val)) = ps.map (fun p => (Value.string p.1, p.2)) → ∀ r, Instr.findNow .string (.string k) es i = some (some r) →
    ∃ j, ∃ hj : j < es.length, r = (i + j, es[j].val) ∧ es[j].key = .string k ∧ (es.modify j fun e => { e with key := .string k, val := v }).map (fun e => (e.key, e.val)) = (setP k v ps).map fun p => (Value.string p.1, p.2)
  | [], es, i, h, r, hf => by
    have : es = [] := by simpa using h
    subst this
    cases hf
  | p :: ps, [], i, h, r, hf => by simp at h
  | p :: ps, e :: es, i, h, r, hf => by
    simp only [List.map_cons, List.cons.injEq, Prod.mk.injEq] at h
    obtain ⟨⟨h1, h2⟩, h3⟩ := h
    by_cases hk : k = p.1
    · refine ⟨0, by simp, ?_, ?_, ?_⟩
      · simp [Instr.findNow, h1, Instr.sameNow, beq_bytes, hk] at hf
        simp [← hf]
      · simp [h1, hk]
      · unfold setP
        rw [if_pos hk]
        simp [h3, hk]
    · have hf' : Instr.findNow .string (.string k) es (i + 1) = some (some r) := by
        simpa [Instr.findNow, h1, Instr.sameNow, beq_bytes, hk] using hf
      obtain ⟨j, hj, e1, e2, e3⟩ := findNow_at k v ps es (i + 1) h3 r hf'
      refine ⟨j + 1, by simp; omega, ?_, by simpa using e2, ?_⟩
      · rw [e1]
        simp
        omega
      · unfold setP
        rw [if_neg hk]
        simp only [List.modify_succ_cons, List.map_cons, e3, h1, h2]

theorem run_set_strmap {P : Program} {w : World} {b : Nat} {ps : List (ByteArray × Value)} (h : StrMap w b ps) {T K E : TypeId} (hT : P.underlying T = some (.map K E)) (hK : P.underlying K = some .string) (k : ByteArray) (v : Value) :
    ∃ o, Sem.run P (Instr.mapUpdate T (.map (some b)) (.string k) v) w = .ok () (w.putObj b o) ∧ StrMap (w.putObj b o) b (setP k v ps) := by
  have h0 := h
  obtain ⟨es, c, h1, h2⟩ := h
  obtain ⟨r, hr, hl⟩ := findNow_str k ps es.toList 0 h2
  have hck := fun e => checkKey_str hK e k w
  cases r with
  | none =>
    have hl' : getP k ps = none := by simpa using hl.symm
    rw [getP_none_push k v ps hl']
    exact run_update_strmap h0 hT hK k v hl'
  | some x =>
    obtain ⟨j, hj, e1, e2, e3⟩ := findNow_at k v ps es.toList 0 h2 x hr
    have hjs : j < es.size := by simpa using hj
    have hkey : es[j]? = some es[j] := Array.getElem?_eq_getElem hjs
    refine ⟨.map (es.modify j fun e => { e with key := .string k, val := v }) c, ?_, es.modify j (fun e => { e with key := .string k, val := v }), c, heap_putObj_same h1 _, ?_⟩
    · unfold Instr.mapUpdate
      have e2' : es[j].key = .string k := by simpa using e2
      have hsb : Instr.sameBits 10000 (.string k) (.string k) = true := by simp [Instr.sameBits, beq_bytes]
      simp [run_underlying hT, run_underlying hK, MapKept.run_getObj_map h1, hck, Instr.findKey, hr, World.putObj, MapKept.run_setObj_map _ h1, e1, hkey, e2', Instr.keyThatStays, hsb]
    · rw [← e3]
      simp [Array.toList_modify]
end Go.Proofs.YtgocoofcelggcaaGreatDoor
namespace Go.Proofs.YtgocoofcelggcaaGreatDoor
open Go.RowKit
set_option linter.unusedVariables false
set_option linter.unusedSimpArgs false

/-- A role for one block more. -/
def putR (ρ : Nat → Nat) (g n : Nat) : Nat → Nat := fun k => if k = g then n else ρ k
theorem putR_eq (ρ : Nat → Nat) (g n : Nat) : putR ρ g n g = n := by unfold putR; rw [if_pos rfl]
theorem putR_ne (ρ : Nat → Nat) {g n k : Nat} (h : k ≠ g) : putR ρ g n k = ρ k := by unfold putR; rw [if_neg h]
theorem SameR.put {ρ : Nat → Nat} {w W : World} {r g n : Nat} (hn : n ≠ r) (hg : ρ g = n ∨ w.heap.size ≤ g) (hk : ∀ k, k < w.heap.size → ρ k = r → W.heap[k]? = w.heap[k]?) : SameR ρ (putR ρ g n) w W r := by
  intro k hl hr
  refine ⟨hk k hl hr, ?_⟩
  by_cases e : k = g
  · subst e
    rcases hg with hg | hg
    · omega
    · omega
  · rw [putR_ne ρ e, hr]
theorem SameR.refl {ρ : Nat → Nat} {w W : World} {r : Nat} (hk : ∀ k, k < w.heap.size → ρ k = r → W.heap[k]? = w.heap[k]?) : SameR ρ ρ w W r := fun k hl hr => ⟨hk k hl hr, hr⟩
theorem putR_lt {ρ : Nat → Nat} {w W : World} {g n : Nat} (h : ∀ k, ρ k ≠ 0 → k < w.heap.size) (hs : w.heap.size ≤ W.heap.size) (hg : g < W.heap.size) : ∀ k, putR ρ g n k ≠ 0 → k < W.heap.size := by
  intro k hk
  by_cases e : k = g
  · subst e; exact hg
  · rw [putR_ne ρ e] at hk
    have := h k hk
    omega
theorem putR_old {ρ : Nat → Nat} {F : Nat → Prop} {w W : World} {g n : Nat} (hF : ∀ k, F k ↔ ρ k ≠ 0) (hn : n ≠ 0) (hg : ρ g = n ∨ w.heap.size ≤ g) (hl : g < W.heap.size) : ∀ k, putR ρ g n k ≠ 0 → F k ∨ (w.heap.size ≤ k ∧ k < W.heap.size) := by
  intro k hk
  by_cases e : k = g
  · subst e
    rcases hg with hg | hg
    · exact .inl ((hF k).2 (by omega))
    · exact .inr ⟨hg, hl⟩
  · rw [putR_ne ρ e] at hk
    exact .inl ((hF k).2 hk)

/-- The head's numbers alone turn. -/
theorem BookP.nums {w w' : World} {ρ : Nat → Nat} {bb : Nat} {S : BookS} {p : Pl} (h : BookP w ρ bb S p) (n l t : Int) (hs : w.heap.size ≤ w'.heap.size) (hh : w'.heap[bb]? = some (.cells (p.cells { S with events := n, lock := l, turnover := t }) 78 (0, 0)))
    (hk : ∀ k, k < w.heap.size → k ≠ bb → w'.heap[k]? = w.heap[k]?) : BookP w' ρ bb { S with events := n, lock := l, turnover := t } p := by
  have hS : ∀ r, r ≠ 1 → SameR ρ ρ w w' r := fun r hr => SameR.refl fun k hl he => hk k hl (fun e => by subst e; have := h.rH; omega)
  have hlt : ∀ k, ρ k ≠ 0 → k < w'.heap.size := fun k hr => by have := h.lt k hr; omega
  exact {
    head := hh
    rH := h.rH
    chart := chart_keep h.chart (hS 2 (by decide)) hs
    keys := h.keys.keep (hS 3 (by decide))
    known := h.known.keep (hS 4 (by decide))
    rows := h.rows.keep (hS 5 (by decide))
    own := h.own.keep (hS 6 (by decide))
    last := h.last.keep (hS 7 (by decide))
    entries := h.entries.keep (hS 8 (by decide))
    lines := lines_keep h.lines (hS 9 (by decide))
    entry := h.entry.keep (hS 10 (by decide))
    claims := h.claims.keep (hS 11 (by decide))
    order := h.order.keep (hS 12 (by decide))
    claim := claim_keep h.claim (hS 13 (by decide))
    inj := h.inj
    allots := h.allots.keep (hS 14 (by decide))
    lt := hlt }

section
variable {w : World} {F : Nat → Prop} {bb eb : Nat} {S : BookS} {e : EventV} {lv : Value}

theorem locks_any (h : BookAt w F bb S) (hE : EvAt w eb e lv) :
    Calls Tryz.prog 75 #[ptrV bb, ptrV eb] w (BookPost F bb { S with lock := e.day } (.tuple #[]) w) := by
  obtain ⟨ρ, p, h, hF⟩ := h
  have c12 := h.c12
  have f12 := frozen_blk h.head 12
  have e1 := hE.e1
  have H := Lib.hid h
  have HF := Lib.hid hF
  unfold ptrV
  clear h hE hF
  go_enter Tryz.func75, Tryz.ntmps75
  go_wp2
  go_end0
  have h := H.out
  have hF := HF.out
  refine ⟨rfl, F, ⟨ρ, p, h.nums S.events e.day S.turnover (by simp [World.setCell]) (heap_setCell_same h.head _) fun k hk hn => Below.heap_setCell _ _ _ _ hn, hF⟩, (Ch.refl F w).setCell (.inl ((hF bb).2 (by have := h.rH; omega))) _, fun k hk => .inl hk⟩

/-! ### learn -/
theorem KnownI.snoc {keys : List ByteArray} {ps : List (ByteArray × Value)} (h : KnownI keys ps) (key : ByteArray) (n : Int) (hn : 0 < n) : KnownI (keys ++ [key]) (setP key (.int .i64 n) ps) := by
  intro k
  rw [getP_setP]
  by_cases e : k = key
  · rw [if_pos e]
    exact ⟨fun hk => absurd (by simp [e]) hk, fun _ => ⟨n, hn, rfl⟩⟩
  · rw [if_neg e]
    exact ⟨fun hk => (h k).1 fun hm => hk (by simp [hm]), fun hk => (h k).2 (by simpa [e] using hk)⟩

set_option maxRecDepth 100000 in
set_option maxHeartbeats 1000000 in
theorem learn_any (h : BookAt w F bb S) (hlen : S.keys.length ≤ 1000) (key : ByteArray) :
    Calls Tryz.prog 41 #[ptrV bb, .string key] w (BookPost F bb { S with keys := S.keys ++ [key] } (.tuple #[]) w) := by
  obtain ⟨i0, hi, hz0, hz1, hz2⟩ := info_parts info_str
  obtain ⟨ρ, p, h, hF⟩ := h
  have c2 := h.c2
  have hown := h.keys.own
  have hbl := heap_lt h.head
  have H := Lib.hid h
  have HF := Lib.hid hF
  have HO := Lib.hid hown
  have hkb : ∀ k, p.kV.ownBlock = some k → ρ k = 3 := h.keys.role
  have hH := h.head
  have hrb := h.rH
  obtain ⟨ps, hm, hI⟩ := h.known.ex
  have hrm := h.known.role
  have HM := Lib.hid hm
  have HI := Lib.hid hI
  have HKB := Lib.hid hkb
  unfold ptrV
  clear h hF hown hm hI hkb
  go_enter Tryz.func41, Tryz.ntmps41
  go_wp2_with (at_builtin; refine wpList_append_lies _ rfl _ _ 44 rfl 0 9 i0 (.string ByteArray.empty) 1 16 Tryz.underlying44 hi hz0 hz1 hz2 rfl (by decide) _ _ _ rfl (HO.out.alloc _) ⟨w.heap.size, 0, none⟩ 1 1 [.string key] rfl rfl ?c1 ?c2 (by decide) ?c3 ?c4 (Nat.zero_le _) _ rfl ?_)
  case c1 => exact World.news_of_block (World.alloc_heap_new w _)
  case c2 => intro u hu; simp at hu; subst hu; rfl
  case c3 => unfold maxLen; omega
  case c4 => omega
  intro g cap w1 hown' hgrow hat hlt
  have hbk : ∀ k, k < w.heap.size → p.kV.ownBlock ≠ some k → w1.heap[k]? = w.heap[k]? := fun k hk hn => (hgrow.block k (by simp; omega) (fun e => hn e.symm)).trans (Below.heap_alloc _ _ _ hk)
  have hg : ρ g = 3 ∨ w.heap.size ≤ g := by
    rcases hat with hat | hat
    · exact .inl (HKB.out g hat)
    · right; subst hat; simp
  have hgb : bb ≠ g := fun e => by subst e; rcases hg with hg | hg <;> omega
  have hgm : p.mK ≠ g := fun e => by have := HM.out.lt; subst e; rcases hg with hg | hg <;> omega
  have hH1 := (hbk bb hbl fun e => by have := HKB.out bb e; omega).trans hH
  have c2' : w1.cell? ⟨bb, 2, none⟩ = some p.kV := by rw [cell_of_blk hH1]; rfl
  have f2' := frozen_blk hH1 2
  have hM1 := HM.out.keep (hbk p.mK HM.out.lt fun e => by have := HKB.out _ e; omega)
  have hc1 : Ch F w w1 := ((Ch.refl F w).alloc _).grown hgrow fun k hk => .inl ((HF.out k).2 (by have := HKB.out k hk; omega))
  have HB := Lib.hid hbk
  have HC1 := Lib.hid hc1
  have HW := Lib.hid hown'
  have hs1 := hc1.size
  have HM1 := Lib.hid hM1
  clear hbk hc1 hown' hgrow hat c2 hM1
  go_wp2
  have hH2 := heap_setCell_same (i := 2) hH1 (.slice (some ⟨g, 0, none⟩) (S.keys.length + 1) cap)
  have hM2 := HM1.out.keep (w' := w1.setCell ⟨bb, 2, none⟩ (.slice (some ⟨g, 0, none⟩) (S.keys.length + 1) cap)) (Below.heap_setCell _ _ _ _ fun e => by have e' : p.mK = bb := e; rw [e'] at hrm; omega)
  have hC2 := HC1.out.setCell (p := ⟨bb, 2, none⟩) (.inl ((HF.out bb).2 (by omega))) (.slice (some ⟨g, 0, none⟩) (S.keys.length + 1) cap)
  have hO2 : (w1.setCell ⟨bb, 2, none⟩ (.slice (some ⟨g, 0, none⟩) (S.keys.length + 1) cap)).heap[g]? = w1.heap[g]? := Below.heap_setCell _ _ _ _ fun e => hgb e.symm
  have hK2 : ∀ k, k < w.heap.size → k ≠ bb → p.kV.ownBlock ≠ some k → (w1.setCell ⟨bb, 2, none⟩ (.slice (some ⟨g, 0, none⟩) (S.keys.length + 1) cap)).heap[k]? = w.heap[k]? := fun k hk hn hv => (Below.heap_setCell _ _ _ _ hn).trans (HB.out k hk hv)
  have hl2 : g < (w1.setCell ⟨bb, 2, none⟩ (.slice (some ⟨g, 0, none⟩) (S.keys.length + 1) cap)).heap.size := by simpa [World.setCell] using hlt
  generalize w1.setCell ⟨bb, 2, none⟩ (.slice (some ⟨g, 0, none⟩) (S.keys.length + 1) cap) = W at *
  have d2 : W.cell? ⟨bb, 2, none⟩ = some (.slice (some ⟨g, 0, none⟩) (S.keys.length + 1) cap) := by rw [cell_of_blk hH2]; rfl
  have d3 : W.cell? ⟨bb, 3, none⟩ = some (.map (some p.mK)) := by rw [cell_of_blk hH2]; rfl
  obtain ⟨o, hset⟩ : ∃ o : Int → Obj, ∀ n, Sem.run Tryz.prog (Instr.mapUpdate 73 (.map (some p.mK)) (.string key) (.int .i64 n)) W.drew = .ok () (W.drew.putObj p.mK (o n)) ∧ StrMap (W.drew.putObj p.mK (o n)) p.mK (setP key (.int .i64 n) ps) :=
    ⟨fun n => (run_set_strmap (w := W.drew) hM2 Tryz.underlying73 Tryz.underlying9 key (.int .i64 n)).choose, fun n => (run_set_strmap (w := W.drew) hM2 Tryz.underlying73 Tryz.underlying9 key (.int .i64 n)).choose_spec⟩
  have hrun := fun n => (hset n).1
  have HSM := Lib.hid fun n => (hset n).2
  have HH2 := Lib.hid hH2
  have HK2 := Lib.hid hK2
  have HC2 := Lib.hid hC2
  have HO2 := Lib.hid hO2
  clear hset hH1 c2' f2' hM2 hH2 hK2 hC2 hO2 hH
  refine still_tail (W := W.drew) 10 (by kernel_rfl) (by kernel_rfl) rfl ?_
  simp only [List.take_succ_cons, List.take_zero, List.drop_succ_cons, List.drop_zero]
  repeat still_step
  refine wpStill_nil ?_
  go_wp2
  go_end0
  have h := H.out
  have hF := HF.out
  have hs : w.heap.size ≤ (W.drew.putObj p.mK (o ((S.keys.length + 1 : Nat) : Int))).heap.size := by have := HC2.out.size; simpa [World.putObj] using this
  have hlt : g < (W.drew.putObj p.mK (o ((S.keys.length + 1 : Nat) : Int))).heap.size := by simpa [World.putObj] using hl2
  have hS : ∀ r, r ≠ 1 ∧ r ≠ 3 ∧ r ≠ 4 → SameR ρ (putR ρ g 3) w (W.drew.putObj p.mK (o ((S.keys.length + 1 : Nat) : Int))) r := fun r ⟨h1, h3, h4⟩ => SameR.put (fun e => h3 e.symm) hg fun k hl he =>
    (heap_putObj_other _ fun e => by rw [e] at he; omega).trans (HK2.out k hl (fun e => by rw [e] at he; omega) fun e => by have := HKB.out k e; omega)
  have hlt' := putR_lt (n := 3) h.lt hs hlt
  have hgo := putR_old (n := 3) hF (by decide) hg hlt
  have hch : Ch F w (W.drew.putObj p.mK (o ((S.keys.length + 1 : Nat) : Int))) := HC2.out.drew.putObj (.inl ((hF p.mK).2 (by omega))) _
  have hkn := HI.out.snoc key ((S.keys.length + 1 : Nat) : Int) (by omega)
  have hsm := HSM.out ((S.keys.length + 1 : Nat) : Int)
  have hhd : (W.drew.putObj p.mK (o ((S.keys.length + 1 : Nat) : Int))).heap[bb]? = _ := (heap_putObj_other _ (fun e => by rw [← e] at hrm; omega)).trans HH2.out
  have hgk : (W.drew.putObj p.mK (o ((S.keys.length + 1 : Nat) : Int))).heap[g]? = w1.heap[g]? := (heap_putObj_other _ (fun e => hgm e.symm)).trans HO2.out
  refine ⟨rfl, fun k => putR ρ g 3 k ≠ 0, ⟨putR ρ g 3, { p with kV := .slice (some ⟨g, 0, none⟩) (S.keys.length + 1) cap }, ?_, fun k => Iff.rfl⟩, hch, hgo⟩
  exact {
    head := hhd
    rH := by rw [putR_ne ρ hgb]; exact h.rH
    chart := chart_keep h.chart (hS 2 (by decide)) hs
    keys := ⟨by simpa using ownsRow_keep HW.out (fun k e => by cases e; exact hgk), fun k e => by cases e; exact putR_eq ρ g 3⟩
    known := ⟨⟨_, hsm, hkn⟩, by rw [putR_ne ρ hgm]; exact h.known.role⟩
    rows := h.rows.keep (hS 5 (by decide))
    own := h.own.keep (hS 6 (by decide))
    last := h.last.keep (hS 7 (by decide))
    entries := h.entries.keep (hS 8 (by decide))
    lines := lines_keep h.lines (hS 9 (by decide))
    entry := h.entry.keep (hS 10 (by decide))
    claims := h.claims.keep (hS 11 (by decide))
    order := h.order.keep (hS 12 (by decide))
    claim := claim_keep h.claim (hS 13 (by decide))
    inj := h.inj
    allots := h.allots.keep (hS 14 (by decide))
    lt := hlt' }
end
end Go.Proofs.YtgocoofcelggcaaGreatDoor
namespace Go.Proofs.YtgocoofcelggcaaGreatDoor
open Go.RowKit
set_option linter.unusedVariables false
set_option linter.unusedSimpArgs false

/-- Map updates at a world, for any value. -/
theorem set_any {P : Program} {w : World} {b : Nat} {ps : List (ByteArray × Value)} (h : StrMap w b ps) {T K E : TypeId} (hT : P.underlying T = some (.map K E)) (hK : P.underlying K = some .string) (k : ByteArray) :
    ∃ o : Value → Obj, ∀ v, Sem.run P (Instr.mapUpdate T (.map (some b)) (.string k) v) w = .ok () (w.putObj b (o v)) ∧ StrMap (w.putObj b (o v)) b (setP k v ps) :=
  ⟨fun v => (run_set_strmap h hT hK k v).choose, fun v => (run_set_strmap h hT hK k v).choose_spec⟩

structure CountEnd (po pl : List (ByteArray × Value)) (mO mL : Nat) (acc : ByteArray) (x y : Int) (w : World) (e : Ending) (w' : World) : Prop where
  ret : e = .returned (.tuple #[])
  own : StrMap w' mO (setP acc (.int .i64 x) po)
  last : StrMap w' mL (setP acc (.int .i64 y) pl)
  ch : Ch (fun k => k = mO ∨ k = mL) w w'

set_option maxRecDepth 100000 in
set_option maxHeartbeats 2000000 in
theorem count_any {w : World} {bb : Nat} {S : BookS} {p : Pl} (hH : w.heap[bb]? = some (.cells (p.cells S) 78 (0, 0))) {po pl : List (ByteArray × Value)} (hO : StrMap w p.mO po) (hL : StrMap w p.mL pl) (h1 : bb ≠ p.mO) (h2 : bb ≠ p.mL) (h3 : p.mO ≠ p.mL)
    (r : PostV) (x y : Int) (hx : (getP r.account po).getD (.int .i64 0) = .int .i64 x) (hy : (getP r.account pl).getD (.int .i64 0) = .int .i64 y) (hr : -maxA ≤ x + r.amount ∧ x + r.amount ≤ maxA) :
    Calls Tryz.prog 42 #[ptrV bb, .agg (encPost r).toArray] w (CountEnd po pl p.mO p.mL r.account (x + r.amount) (max y r.day) w) := by
  have hwr : wrap64 (x + r.amount) = x + r.amount := by unfold maxA at hr; unfold wrap64; omega
  have hwr' : IntKind.i64.wrap (x + r.amount) = x + r.amount := IntWalk.i64_in _ (by unfold maxA at hr; omega)
  have hbl := heap_lt hH
  have hW1 : ∀ o, Below w.heap.size w (w.alloc o) := fun o => bel1 w o
  have hO1 := fun o => hO.keep ((hW1 o).block _ hO.lt)
  have hL1 := fun o => hL.keep ((hW1 o).block _ hL.lt)
  have hH1 := fun o => ((hW1 o).block _ hbl).trans hH
  obtain ⟨B, hB⟩ : ∃ B, B = Obj.cells (encPost r).toArray 39 (0, 0) := ⟨_, rfl⟩
  have hN1 := World.alloc_heap_new w B
  have hC1 : Ch (fun k => k = p.mO ∨ k = p.mL) w (w.alloc B) := (Ch.refl _ w).alloc _
  have hOl := hO.lt
  have hLl := hL.lt
  obtain ⟨W, hW⟩ : ∃ W, w.alloc B = W := ⟨_, rfl⟩
  have HE := Lib.hid hW
  have hO2 := hO1 B
  have hL2 := hL1 B
  have hH2 := hH1 B
  rw [hW] at hO2 hL2 hH2 hN1 hC1
  have hb0 : W.cell? ⟨bb, 5, none⟩ = some (.map (some p.mO)) := by rw [cell_of_blk hH2]; rfl
  have hk5 : W.cell? ⟨w.heap.size, 5, none⟩ = some (.string r.account) := by rw [hB] at hN1; rw [cell_of_blk hN1]; rfl
  have hk6 : W.cell? ⟨w.heap.size, 6, none⟩ = some (.int .i64 r.amount) := by rw [hB] at hN1; rw [cell_of_blk hN1]; rfl
  have hlk : Sem.run Tryz.prog (Instr.lookup 74 (.map (some p.mO)) (.string r.account) false) W.drew = .ok (.int .i64 x) W.drew := by
    have := run_lookup_strmap (w := W.drew) hO2 Tryz.underlying74 Tryz.underlying9 Tryz.zeroValue2 r.account
    rw [hx] at this
    exact this
  obtain ⟨o, ho⟩ := set_any (w := W.drew) hO2 Tryz.underlying74 Tryz.underlying9 r.account
  have hrun := ho (.int .i64 (x + r.amount))
  obtain ⟨hru, hO3⟩ := hrun
  have hL3 := hL2.keep (w' := W.drew.putObj p.mO (o (.int .i64 (x + r.amount)))) (heap_putObj_other _ fun e => h3 e.symm)
  have hH3 : (W.drew.putObj p.mO (o (.int .i64 (x + r.amount)))).heap[bb]? = _ := (heap_putObj_other _ h1).trans hH2
  have hn5 : w.heap.size ≠ p.mO := by omega
  have hn6 : w.heap.size ≠ p.mL := by omega
  have hN3 : (W.drew.putObj p.mO (o (.int .i64 (x + r.amount)))).heap[w.heap.size]? = _ := (heap_putObj_other _ hn5).trans hN1
  have hC3 : Ch (fun k => k = p.mO ∨ k = p.mL) w (W.drew.putObj p.mO (o (.int .i64 (x + r.amount)))) := hC1.drew.putObj (.inl (.inl rfl)) _
  obtain ⟨W3, hW3⟩ : ∃ W3, W.drew.putObj p.mO (o (.int .i64 (x + r.amount))) = W3 := ⟨_, rfl⟩
  rw [hW3] at hru hO3 hL3 hH3 hN3 hC3
  have hb1 : W3.cell? ⟨bb, 6, none⟩ = some (.map (some p.mL)) := by rw [cell_of_blk hH3]; rfl
  have hk2' : W3.cell? ⟨w.heap.size, 2, none⟩ = some (.int .i64 r.day) := by rw [hB] at hN3; rw [cell_of_blk hN3]; rfl
  have hk5' : W3.cell? ⟨w.heap.size, 5, none⟩ = some (.string r.account) := by rw [hB] at hN3; rw [cell_of_blk hN3]; rfl
  have hlk' : Sem.run Tryz.prog (Instr.lookup 73 (.map (some p.mL)) (.string r.account) false) W3.drew = .ok (.int .i64 y) W3.drew := by
    have := run_lookup_strmap (w := W3.drew) hL3 Tryz.underlying73 Tryz.underlying9 Tryz.zeroValue3 r.account
    rw [hy] at this
    exact this
  obtain ⟨o', ho'⟩ := set_any (w := W3.drew) hL3 Tryz.underlying73 Tryz.underlying9 r.account
  obtain ⟨hru', hL4⟩ := ho' (.int .i64 (max y r.day))
  have hO4 := hO3.keep (w' := W3.drew.putObj p.mL (o' (.int .i64 (max y r.day)))) (heap_putObj_other _ h3)
  have hC4 : Ch (fun k => k = p.mO ∨ k = p.mL) w (W3.drew.putObj p.mL (o' (.int .i64 (max y r.day)))) := hC3.drew.putObj (.inl (.inr rfl)) _
  have HH := Lib.hid (And.intro hO4 (And.intro hL4 hC4))
  have HB := Lib.hid hB
  clear hO4 hL4 hC4 ho ho' hO hL hO1 hL1 hO2 hL2 hO3 hL3 hW1 hH1 hH2 hH3 hN1 hN3 hC1 hC3 hx hy hr hW hW3 hB hH h1 h2 h3 hn5 hn6 hOl hLl
  unfold ptrV
  simp only [encPost]
  go_enter Tryz.func42, Tryz.ntmps42
  go_wp2
  rw [show w.alloc (.cells #[.int .i64 r.seq, .int .i64 r.line, .int .i64 r.day, .int .i64 r.kind, .string r.key, .string r.account, .int .i64 r.amount, .string r.tag, .string r.memo] 39) = W by rw [← HE.out, HB.out]; rfl]
  refine still_tail (W := W.drew) 10 (by kernel_rfl) (by kernel_rfl) rfl ?_
  simp only [List.take_succ_cons, List.take_zero, List.drop_succ_cons, List.drop_zero]
  repeat still_step
  refine wpStill_nil ?_
  go_wp2
  refine still_tail (W := W3.drew) 16 (by kernel_rfl) (by kernel_rfl) rfl ?_
  simp only [List.take_succ_cons, List.take_zero, List.drop_succ_cons, List.drop_zero]
  repeat still_step
  refine wpStill_nil ?_
  go_wp2
  go_end0
  exact ⟨rfl, HH.out.1, HH.out.2.1, HH.out.2.2⟩
end Go.Proofs.YtgocoofcelggcaaGreatDoor
namespace Go.Proofs.YtgocoofcelggcaaGreatDoor
open Go.RowKit
set_option linter.unusedVariables false
set_option linter.unusedSimpArgs false

/-- A role for the blocks of G. -/
noncomputable def putF (ρ : Nat → Nat) (G : Nat → Prop) (n : Nat) : Nat → Nat := fun k => @ite _ (G k) (Classical.propDecidable _) n (ρ k)
theorem putF_eq (ρ : Nat → Nat) {G : Nat → Prop} (n : Nat) {k : Nat} (h : G k) : putF ρ G n k = n := by unfold putF; rw [if_pos h]
theorem putF_ne (ρ : Nat → Nat) {G : Nat → Prop} (n : Nat) {k : Nat} (h : ¬ G k) : putF ρ G n k = ρ k := by unfold putF; rw [if_neg h]

/-- The chart alone turns. -/
theorem BookP.charted {w W : World} {ρ : Nat → Nat} {F Fc Fc' : Nat → Prop} {bb : Nat} {S : BookS} {p : Pl} (h : BookP w ρ bb S p) (hF : ∀ k, F k ↔ ρ k ≠ 0) (hFc : ∀ k, Fc k → ρ k = 2 ∧ k < w.heap.size) {L : List Acct} (hc : ChartAt W Fc' p.cb L)
    (hch : Ch Fc w W) (hnew : ∀ k, Fc' k → Fc k ∨ (w.heap.size ≤ k ∧ k < W.heap.size)) : ∃ F', BookAt W F' bb { S with chart := L } ∧ Ch F w W ∧ ∀ k, F' k → F k ∨ (w.heap.size ≤ k ∧ k < W.heap.size) := by
  have hS : ∀ r, r ≠ 2 → SameR ρ (putF ρ Fc' 2) w W r := fun r hr k hl he => by
    have h1 : ¬ Fc k := fun hk => by have := (hFc k hk).1; omega
    refine ⟨hch.block k hl h1, ?_⟩
    rw [putF_ne]
    · exact he
    · intro hk
      rcases hnew k hk with h2 | h2
      · exact h1 h2
      · omega
  have hs := hch.size
  have hlt : ∀ k, putF ρ Fc' 2 k ≠ 0 → k < W.heap.size := fun k hk => by
    by_cases hg : Fc' k
    · rcases hnew k hg with h2 | h2
      · have := (hFc k h2).2; omega
      · exact h2.2
    · rw [putF_ne ρ 2 hg] at hk
      have := h.lt k hk
      omega
  have hb1 : ¬ Fc bb := fun hk => by have := (hFc bb hk).1; have := h.rH; omega
  refine ⟨fun k => putF ρ Fc' 2 k ≠ 0, ⟨putF ρ Fc' 2, p, ?_, fun k => Iff.rfl⟩, hch.mono fun k hk => (hF k).2 (by have := (hFc k hk).1; omega), fun k hk => ?_⟩
  · exact {
      head := (hch.block bb (heap_lt h.head) hb1).trans h.head
      rH := (hS 1 (by decide) bb (heap_lt h.head) h.rH).2
      chart := ⟨Fc', hc, fun k hk => ⟨putF_eq ρ 2 hk, hlt k (by rw [putF_eq ρ 2 hk]; decide)⟩⟩
      keys := h.keys.keep (hS 3 (by decide))
      known := h.known.keep (hS 4 (by decide))
      rows := h.rows.keep (hS 5 (by decide))
      own := h.own.keep (hS 6 (by decide))
      last := h.last.keep (hS 7 (by decide))
      entries := h.entries.keep (hS 8 (by decide))
      lines := lines_keep h.lines (hS 9 (by decide))
      entry := h.entry.keep (hS 10 (by decide))
      claims := h.claims.keep (hS 11 (by decide))
      order := h.order.keep (hS 12 (by decide))
      claim := claim_keep h.claim (hS 13 (by decide))
      inj := h.inj
      allots := h.allots.keep (hS 14 (by decide))
      lt := hlt }
  · by_cases hg : Fc' k
    · rcases hnew k hg with h2 | h2
      · exact .inl ((hF k).2 (by have := (hFc k h2).1; omega))
      · exact .inr h2
    · have hk : putF ρ Fc' 2 k ≠ 0 := hk
      rw [putF_ne ρ 2 hg] at hk
      exact .inl ((hF k).2 hk)

section
variable {w : World} {F : Nat → Prop} {bb eb : Nat} {S : BookS} {e : EventV} {lv : Value}

set_option maxRecDepth 100000 in
set_option maxHeartbeats 1000000 in
theorem open_any (h : BookAt w F bb S) (hv : Valid S.chart) (hE : EvAt w eb e lv) (hsz : e.account.size ≤ 140737488355328) :
    Calls Tryz.prog 58 #[ptrV bb, ptrV eb] w (BookPost F bb { S with chart := openL S.chart e.account e.typ e.day } (.tuple #[]) w) := by
  obtain ⟨ρ, p, h, hF⟩ := h
  obtain ⟨Fc, hc, hFc⟩ := h.chart
  have c1 := h.c1
  have e1 := hE.e1
  have e3 := hE.e3
  have e7 := hE.e7
  have hcall := Open_any (hc.drewN 1) hv e.account e.typ e.day hsz
  have H := Lib.hid h
  have HF := Lib.hid hF
  have HFC := Lib.hid hFc
  unfold ptrV
  clear h hE hF hc hFc hv
  go_enter Tryz.func58, Tryz.ntmps58
  refine still_tail (W := w.drew) 16 (by kernel_rfl) (by kernel_rfl) rfl ?_
  simp only [List.take_succ_cons, List.take_zero, List.drop_succ_cons, List.drop_zero]
  repeat still_step
  refine wpStill_nil ?_
  go_wp2_with (go_at_call 88; refine hcall.mono ?_; rintro en w1 ⟨rfl, Fc', hc', hch, hnew⟩; have HC := Lib.hid hc'; have HCH := Lib.hid hch; have HN := Lib.hid hnew; clear hcall hc' hch hnew)
  go_end0
  have h := H.out
  exact ⟨rfl, h.charted HF.out HFC.out HC.out ⟨HCH.out.os, HCH.out.tape, HCH.out.output, HCH.out.size, HCH.out.block⟩ HN.out⟩

set_option maxRecDepth 100000 in
set_option maxHeartbeats 1000000 in
theorem closes_any (h : BookAt w F bb S) (hv : Valid S.chart) (hE : EvAt w eb e lv) :
    Calls Tryz.prog 60 #[ptrV bb, ptrV eb] w (BookPost F bb { S with chart := closeL S.chart e.account } (.tuple #[]) w) := by
  obtain ⟨ρ, p, h, hF⟩ := h
  obtain ⟨Fc, hc, hFc⟩ := h.chart
  have c1 := h.c1
  have e1 := hE.e1
  have e3 := hE.e3
  have e7 := hE.e7
  have hcall := Close_any (hc.drewN 1) hv e.account
  have H := Lib.hid h
  have HF := Lib.hid hF
  have HFC := Lib.hid hFc
  unfold ptrV
  clear h hE hF hc hFc hv
  go_enter Tryz.func60, Tryz.ntmps60
  refine still_tail (W := w.drew) 8 (by kernel_rfl) (by kernel_rfl) rfl ?_
  simp only [List.take_succ_cons, List.take_zero, List.drop_succ_cons, List.drop_zero]
  repeat still_step
  refine wpStill_nil ?_
  go_wp2_with (go_at_call 94; refine hcall.mono ?_; rintro en w1 ⟨rfl, Fc', hc', hch, hnew⟩; have HC := Lib.hid hc'; have HCH := Lib.hid hch; have HN := Lib.hid hnew; clear hcall hc' hch hnew)
  go_end0
  have h := H.out
  exact ⟨rfl, h.charted HF.out HFC.out HC.out ⟨HCH.out.os, HCH.out.tape, HCH.out.output, HCH.out.size, HCH.out.block⟩ HN.out⟩

end
end Go.Proofs.YtgocoofcelggcaaGreatDoor
namespace Go.Proofs.YtgocoofcelggcaaGreatDoor
open Go.RowKit
set_option linter.unusedVariables false
set_option linter.unusedSimpArgs false

theorem own_set {w : World} {B e s n : Nat} {v : Value} {xs : List Value} (h : w.ownsRow B e s v n xs) {g : Nat} (hg : v.ownBlock = some g) (i : Nat) (u : Value) : (w.setCell ⟨g, i, none⟩ u).ownsRow B e s v n (xs.set i u) := by
  refine ⟨by rw [List.length_set]; exact h.1, ?_⟩
  rcases h.2 with ⟨hv, h0⟩ | ⟨g', cap, cur, hv, hb, hh, h1, h2, h3, h4⟩
  · rw [hv] at hg; cases hg
  · rw [hv] at hg
    obtain rfl : g' = g := by simpa [Value.ownBlock] using hg
    exact .inr ⟨g', cap, cur.setIfInBounds i u, hv, hb, heap_setCell_same hh u, h1, h2, by simpa using h3, by rw [Array.toList_setIfInBounds, List.take_set, h4]⟩
theorem flatten_set {s : Nat} : ∀ (xs : List (List Value)), (∀ x ∈ xs, x.length = s) → ∀ i (hi : i < xs.length) j, j < s → ∀ u, (xs.set i (xs[i].set j u)).flatten = xs.flatten.set (i * s + j) u
  | [], _, i, hi, _, _, _ => by simp at hi
  | x :: xs, hs, 0, _, j, hj, u => by
    have hx : x.length = s := hs x (by simp)
    simp only [List.set_cons_zero, List.flatten_cons, List.getElem_cons_zero, Nat.zero_mul, Nat.zero_add]
    rw [List.set_append_left _ _ (by omega)]
  | x :: xs, hs, i + 1, hi, j, hj, u => by
    have hx : x.length = s := hs x (by simp)
    have e : (i + 1) * s = i * s + s := Nat.succ_mul _ _
    simp only [List.set_cons_succ, List.flatten_cons, List.getElem_cons_succ]
    rw [flatten_set xs (fun y hy => hs y (by simp [hy])) i (by simpa using hi) j hj u, List.set_append_right _ _ (by omega)]
    congr 2
    omega

theorem voidL_at (k v : ByteArray) : ∀ (l : List EntryV) (i : Nat), (l.findIdx? fun x => decide (x.key = k)) = some i → voidL k v l = l.modify i fun x => { x with void := v }
  | [], i, h => by simp at h
  | x :: l, i, h => by
    rw [List.findIdx?_cons] at h
    by_cases hk : x.key = k
    · simp [hk] at h
      subst h
      simp [voidL, hk]
    · simp [hk] at h
      obtain ⟨j, hj, rfl⟩ := h
      unfold voidL
      rw [if_neg hk, voidL_at k v l j hj]
      rfl
theorem voidL_find (k v k' : ByteArray) : ∀ (l : List EntryV), ((voidL k v l).findIdx? fun x => decide (x.key = k')) = l.findIdx? fun x => decide (x.key = k')
  | [] => rfl
  | x :: l => by
    unfold voidL
    by_cases hk : x.key = k
    · rw [if_pos hk, List.findIdx?_cons, List.findIdx?_cons]
    · rw [if_neg hk, List.findIdx?_cons, List.findIdx?_cons, voidL_find k v k' l]
theorem entCells_void (es : List EntryV) (lv : Nat → Value) (v : ByteArray) (i : Nat) (hi : i < es.length) :
    entCells (es.modify i fun x => { x with void := v }) lv = (entCells es lv).set i (((entCells es lv)[i]'(by rw [entCells_len]; exact hi)).set 3 (.string v)) := by
  apply List.ext_getElem
  · simp [entCells_len]
  · intro j h1 h2
    simp only [entCells, List.getElem_mapIdx, List.getElem_modify, List.getElem_set]
    by_cases e : i = j
    · subst e
      simp [encEntry]
    · simp [e]

theorem BookP.lookI {w : World} {ρ : Nat → Nat} {bb : Nat} {S : BookS} {p : Pl} (h : BookP w ρ bb S p) (k : ByteArray) (i : Nat) (hix : (S.entries.findIdx? fun x => decide (x.key = k)) = some i) (n : Nat) :
    Sem.run Tryz.prog (Instr.lookup 73 (.map (some p.mE)) (.string k) false) (w.drewN n) = .ok (.int .i64 (i : Int)) (w.drewN n) := by
  obtain ⟨ps, hs, hi⟩ := h.entry.ex
  have hl := run_lookup_strmap (hs.drewN n) Tryz.underlying73 Tryz.underlying9 Tryz.zeroValue3 k
  rw [hi k, hix] at hl
  exact hl

section
variable {w : World} {F : Nat → Prop} {bb eb : Nat} {S : BookS} {e : EventV} {lv : Value}

set_option maxRecDepth 100000 in
set_option maxHeartbeats 1000000 in
theorem void_any (h : BookAt w F bb S) (hE : EvAt w eb e lv) (i : Nat) (hi : i < S.entries.length) (hix : (S.entries.findIdx? fun x => decide (x.key = e.ref)) = some i) (hlen : S.entries.length ≤ 1000) :
    Calls Tryz.prog 66 #[ptrV bb, ptrV eb] w (BookPost F bb { S with entries := voidL e.ref e.key S.entries } (.tuple #[]) w) := by
  obtain ⟨ρ, p, h, hF⟩ := h
  have hlk : Sem.run Tryz.prog (Instr.lookup 73 (.map (some p.mE)) (.string e.ref) false) w.drew = .ok (.int .i64 (i : Int)) w.drew := h.lookI e.ref i hix 1
  obtain ⟨g, cap, hv, hgl, hrg, hcs⟩ := h.entCell i hi
  have c7 := h.c7
  have c8 := h.c8
  rw [hv] at c7
  have e2 := hE.e2
  have e5 := hE.e5
  have hg3 : w.cell? ⟨g, i * 4 + 3, none⟩ = some (.string S.entries[i].void) := hcs 3 _ rfl
  have hf3 : w.frozen? ⟨g, i * 4 + 3, none⟩ = false := by
    rcases h.entries.own.2 with ⟨hv', _⟩ | ⟨g', cap', cur, hv', _, hg, _⟩
    · rw [hv] at hv'; cases hv'
    · rw [hv] at hv'
      cases hv'
      exact frozen_blk hg _
  have hin : (i : Int) < (S.entries.length : Int) := by omega
  have H := Lib.hid h
  have HF := Lib.hid hF
  have HIX := Lib.hid hix
  have HV := Lib.hid hv
  generalize hn : S.entries.length = n at c7 hin
  have HN := Lib.hid hn
  unfold ptrV
  clear h hE hF hcs hix hv hn hlen
  go_enter Tryz.func66, Tryz.ntmps66
  refine still_tail (W := w.drew) 17 (by kernel_rfl) (by kernel_rfl) rfl ?_
  simp only [List.take_succ_cons, List.take_zero, List.drop_succ_cons, List.drop_zero]
  repeat still_step
  refine wpStill_nil ?_
  go_wp2
  go_end0
  have h := H.out
  have hF := HF.out
  have hob : p.eV.ownBlock = some g := by rw [HV.out]; rfl
  have hS : ∀ r, r ≠ 8 → SameR ρ ρ w (w.drew.setCell ⟨g, i * 4 + 3, none⟩ (.string e.key)) r := fun r hr => SameR.refl fun k hl he => (Below.heap_setCell w.drew _ _ _ fun e' => by have e'' : k = g := e'; rw [e''] at he; omega)
  have hs : w.heap.size ≤ (w.drew.setCell ⟨g, i * 4 + 3, none⟩ (.string e.key)).heap.size := by simp [World.setCell]
  have hlt : ∀ k, ρ k ≠ 0 → k < (w.drew.setCell ⟨g, i * 4 + 3, none⟩ (.string e.key)).heap.size := fun k hr => by have := h.lt k hr; omega
  have hgb : bb ≠ g := fun e' => by rw [← e'] at hrg; have := h.rH; omega
  have hve := voidL_at e.ref e.key S.entries i HIX.out
  refine ⟨rfl, F, ⟨ρ, p, ?_, hF⟩, ((Ch.refl F w).drew).setCell (.inl ((hF g).2 (by omega))) _, fun k hk => .inl hk⟩
  exact {
    head := (Below.heap_setCell w.drew _ _ _ hgb).trans h.head
    rH := h.rH
    chart := chart_keep h.chart (hS 2 (by decide)) hs
    keys := h.keys.keep (hS 3 (by decide))
    known := h.known.keep (hS 4 (by decide))
    rows := h.rows.keep (hS 5 (by decide))
    own := h.own.keep (hS 6 (by decide))
    last := h.last.keep (hS 7 (by decide))
    entries := ⟨by
      have h1 := own_set (w := w.drew) (h.entries.own : w.drew.ownsRow _ _ _ _ _ _) hob (i * 4 + 3) (.string e.key)
      show World.ownsRow _ _ _ _ _ (voidL e.ref e.key S.entries).length (entCells (voidL e.ref e.key S.entries) p.lv).flatten
      rw [hve, entCells_void S.entries p.lv e.key i hi, flatten_set _ (entCells_four _ _) i _ 3 (by decide), List.length_modify]
      exact h1, h.entries.role⟩
    lines := fun j hj => by
      have h1 := (lines_keep h.lines (hS 9 (by decide))) j (by rw [hve, List.length_modify] at hj; exact hj)
      have e1 : (voidL e.ref e.key S.entries)[j].lines = (S.entries[j]'(by rw [hve, List.length_modify] at hj; exact hj)).lines := by
        simp only [hve, List.getElem_modify]
        split <;> rfl
      show LinesAt _ _ _ (voidL e.ref e.key S.entries)[j].lines
      rw [e1]
      exact h1
    entry := by
      have h1 := h.entry.keep (hS 10 (by decide))
      obtain ⟨⟨ps, h2, h3⟩, h4⟩ := h1
      exact ⟨⟨ps, h2, fun k => by rw [h3 k]; exact congrArg _ (voidL_find e.ref e.key k S.entries).symm⟩, h4⟩
    claims := h.claims.keep (hS 11 (by decide))
    order := h.order.keep (hS 12 (by decide))
    claim := claim_keep h.claim (hS 13 (by decide))
    inj := h.inj
    allots := h.allots.keep (hS 14 (by decide))
    lt := hlt }
end
end Go.Proofs.YtgocoofcelggcaaGreatDoor
namespace Go.Proofs.YtgocoofcelggcaaGreatDoor
open Go.RowKit
set_option linter.unusedVariables false
set_option linter.unusedSimpArgs false

theorem info_cl : (Tryz.prog.info? 79).map (fun i => (i.zero, i.size, i.bytes)) = some (some (.pointer none), 1, 8) := by kernel_rfl

/-- Where claims lie, with one more. -/
def clPut (cl : Nat → Nat) (n b : Nat) : Nat → Nat := fun i => if i = n then b else cl i
theorem ptrsFrom_snoc (cl : Nat → Nat) (n b : Nat) : ptrsFrom (clPut cl n b) (n + 1) = ptrsFrom cl n ++ [ptrV b] := by
  unfold ptrsFrom
  rw [List.range_succ, List.map_append]
  congr 1
  · apply List.map_congr_left
    intro i hi
    have : i < n := by simpa using hi
    simp only [clPut]
    rw [if_neg (by omega)]
  · simp [clPut]
theorem ClaimI.snoc {cs : List ClaimV} {cl : Nat → Nat} {ps : List (ByteArray × Value)} (h : ClaimI cs cl ps) (c : ClaimV) (hf : (cs.findIdx? fun x => decide (x.key = c.key)) = none) (b : Nat) : ClaimI (cs ++ [c]) (clPut cl cs.length b) (setP c.key (ptrV b) ps) := by
  intro k
  rw [getP_setP, List.findIdx?_append]
  by_cases e : k = c.key
  · subst e
    rw [if_pos rfl, hf]
    simp [clPut]
  · rw [if_neg e, h k]
    cases hx : cs.findIdx? fun x => decide (x.key = k) with
    | none =>
      have : ([c].findIdx? fun x => decide (x.key = k)) = none := by simp [List.findIdx?_cons, Ne.symm e]
      simp [this]
    | some i =>
      have hi : i < cs.length := by
        have := List.findIdx?_eq_some_iff_findIdx_eq.1 hx
        exact this.1
      simp [clPut, Nat.ne_of_lt hi]

def claimAgg (c : ClaimV) : Value := .agg #[.string c.key, .string c.account, .int .i64 c.day, .int .i64 c.due, .int .i64 c.amount]

set_option maxRecDepth 100000 in
set_option maxHeartbeats 2000000 in
theorem owe_any {w : World} {F : Nat → Prop} {bb : Nat} {S : BookS} (h : BookAt w F bb S) (c : ClaimV) (hu : c.used = 0) (hf : (S.claims.findIdx? fun x => decide (x.key = c.key)) = none) (hlen : S.claims.length ≤ 1000) :
    Calls Tryz.prog 100 #[ptrV bb, claimAgg c, .bool c.pay] w (BookPost F bb { S with claims := S.claims ++ [c] } (.tuple #[]) w) := by
  obtain ⟨i0, hi, hz0, hz1, hz2⟩ := info_parts info_cl
  obtain ⟨ρ, p, h, hF⟩ := h
  have hbl := heap_lt h.head
  obtain ⟨ps, hm, hI⟩ := h.claims.ex
  have hrm := h.claims.role
  have hrb := h.rH
  have hml := hm.lt
  have hkb : ∀ k, p.oV.ownBlock = some k → ρ k = 12 := h.order.role
  have hol : ∀ k, p.oV.ownBlock = some k → k < w.heap.size := fun k hk => (h.order.own.lt k hk).2
  obtain ⟨A, hA⟩ : ∃ A, A = Obj.cells #[.string c.key, .string c.account, .int .i64 c.day, .int .i64 c.due, .int .i64 c.amount] 92 (0, 0) := ⟨_, rfl⟩
  obtain ⟨B, hB⟩ : ∃ B, B = Obj.cells (claimCs c) 94 (0, 0) := ⟨_, rfl⟩
  have hbel : Below w.heap.size w ((w.alloc A).alloc B) := (bel1 w A).alloc (by simp) B
  have hNA : ((w.alloc A).alloc B).heap[w.heap.size]? = some A := (Below.heap_alloc _ _ _ (by simp)).trans (World.alloc_heap_new w A)
  have hNB : ((w.alloc A).alloc B).heap[w.heap.size + 1]? = some B := by have := World.alloc_heap_new (w.alloc A) B; simpa using this
  obtain ⟨W, hW⟩ : ∃ W, (w.alloc A).alloc B = W := ⟨_, rfl⟩
  have HE := Lib.hid hW
  rw [hW] at hbel hNA hNB
  have hH2 := (hbel.block bb hbl).trans h.head
  have hm2 := hm.keep (hbel.block _ hml)
  have hO2 := ownsRow_keep h.order.own fun k hk => hbel.block k (hol k hk)
  have hc9 : W.cell? ⟨bb, 9, none⟩ = some (.map (some p.mC)) := by rw [cell_of_blk hH2]; rfl
  have hk0 : W.cell? ⟨w.heap.size, 0, none⟩ = some (.string c.key) := by rw [hA] at hNA; rw [cell_of_blk hNA]; rfl
  obtain ⟨o, ho⟩ := set_any (w := W.drew) hm2 Tryz.underlying75 Tryz.underlying9 c.key
  obtain ⟨hru, hm3⟩ := ho (ptrV (w.heap.size + 1))
  have hC3 : Ch F w (W.drew.putObj p.mC (o (ptrV (w.heap.size + 1)))) := ((Ch.of_below hbel).drew).putObj (.inl ((hF p.mC).2 (by omega))) _
  have hbm : bb ≠ p.mC := fun e => by rw [← e] at hrm; omega
  have hH3 : (W.drew.putObj p.mC (o (ptrV (w.heap.size + 1)))).heap[bb]? = _ := (heap_putObj_other _ hbm).trans hH2
  have hO3 : (W.drew.putObj p.mC (o (ptrV (w.heap.size + 1)))).ownsRow 0 79 1 p.oV S.claims.length (ptrsFrom p.cl S.claims.length) := ownsRow_keep (w := W.drew) hO2 fun k hk => heap_putObj_other _ fun e => by have := hkb k hk; rw [e] at this; omega
  have hN3 : (W.drew.putObj p.mC (o (ptrV (w.heap.size + 1)))).heap[w.heap.size + 1]? = some B := (heap_putObj_other _ (by omega)).trans hNB
  have hK3 : ∀ k, k < w.heap.size → k ≠ p.mC → (W.drew.putObj p.mC (o (ptrV (w.heap.size + 1)))).heap[k]? = w.heap[k]? := fun k hk hn => (heap_putObj_other _ hn).trans (hbel.block k hk)
  have hs3 : w.heap.size + 2 ≤ (W.drew.putObj p.mC (o (ptrV (w.heap.size + 1)))).heap.size := by
    have := heap_lt hN3
    omega
  obtain ⟨W3, hW3⟩ : ∃ W3, W.drew.putObj p.mC (o (ptrV (w.heap.size + 1))) = W3 := ⟨_, rfl⟩
  rw [hW3] at hru hm3 hC3 hH3 hO3 hN3 hK3 hs3
  have hc10 : W3.cell? ⟨bb, 10, none⟩ = some p.oV := by rw [cell_of_blk hH3]; rfl
  have H := Lib.hid h
  have HF := Lib.hid hF
  have HA := Lib.hid hA
  have HB := Lib.hid hB
  have HM3 := Lib.hid hm3
  have HC3 := Lib.hid hC3
  have HO := Lib.hid hO3
  have HN3 := Lib.hid hN3
  have HK3 := Lib.hid hK3
  have HKB := Lib.hid hkb
  have HOL := Lib.hid hol
  have HI := Lib.hid hI
  have HFR := Lib.hid hf
  have HU := Lib.hid hu
  unfold ptrV at hru
  clear h hF hA hB hW hW3 hm3 hC3 hO3 hN3 hK3 hkb hol hI hf hm hm2 hO2 hH2 hNA hNB hbel ho hu
  unfold ptrV claimAgg
  go_enter Tryz.func100, Tryz.ntmps100
  go_wp2
  rw [show (w.alloc (.cells #[.string c.key, .string c.account, .int .i64 c.day, .int .i64 c.due, .int .i64 c.amount] 92)).alloc (.cells #[.string c.key, .string c.account, .int .i64 c.day, .int .i64 c.due, .int .i64 c.amount, .int .i64 0, .bool c.pay] 94) = W by rw [← HE.out, HA.out, HB.out, claimCs, HU.out]]
  refine still_tail (W := W.drew) 7 (by kernel_rfl) (by kernel_rfl) rfl ?_
  simp only [List.take_succ_cons, List.take_zero, List.drop_succ_cons, List.drop_zero]
  repeat still_step
  refine wpStill_nil ?_
  go_wp2_with (at_builtin; refine wpList_append_lies _ rfl _ _ 76 rfl 0 79 i0 (.pointer none) 1 8 Tryz.underlying76 hi hz0 hz1 hz2 rfl (by decide) _ _ _ rfl (HO.out.alloc _) ⟨W3.heap.size, 0, none⟩ 1 1 [.pointer (some ⟨w.heap.size + 1, 0, none⟩)] rfl rfl ?c1 ?c2 (by decide) ?c3 ?c4 (Nat.zero_le _) _ rfl ?_)
  case c1 => exact World.news_of_block (World.alloc_heap_new W3 _)
  case c2 => intro u hu; simp at hu; subst hu; rfl
  case c3 => unfold maxLen; omega
  case c4 => omega
  intro g cap w1 hown' hgrow hat hlt
  have hbk : ∀ k, k < W3.heap.size → p.oV.ownBlock ≠ some k → w1.heap[k]? = W3.heap[k]? := fun k hk hn => (hgrow.block k (by simp; omega) (fun e => hn e.symm)).trans (Below.heap_alloc _ _ _ hk)
  have hg : ρ g = 12 ∨ W3.heap.size ≤ g := by
    rcases hat with hat | hat
    · exact .inl (HKB.out g hat)
    · right; subst hat; simp
  have hgl : ρ g = 12 → g < w.heap.size := fun e => H.out.lt g (by omega)
  have hgb : bb ≠ g := fun e => by subst e; rcases hg with hg | hg <;> omega
  have hH1 := (hbk bb (by omega) fun e => by have := HKB.out bb e; omega).trans hH3
  have c10' : w1.cell? ⟨bb, 10, none⟩ = some p.oV := by rw [cell_of_blk hH1]; rfl
  have f10' := frozen_blk hH1 10
  have HB1 := Lib.hid hbk
  have HC1 := Lib.hid ((HC3.out.alloc _).grown hgrow fun k hk => .inl ((HF.out k).2 (by have := HKB.out k hk; omega)))
  have HW := Lib.hid hown'
  clear hbk hown' hgrow hat hc10
  go_wp2
  go_end0
  have h := H.out
  have hF := HF.out
  have hs1 := HC1.out.size
  obtain ⟨Wf, hWf⟩ : ∃ Wf, w1.setCell ⟨bb, 10, none⟩ (.slice (some ⟨g, 0, none⟩) (S.claims.length + 1) cap) = Wf := ⟨_, rfl⟩
  have hhd := heap_setCell_same (i := 10) hH1 (.slice (some ⟨g, 0, none⟩) (S.claims.length + 1) cap)
  have hne : ∀ k, k ≠ bb → (w1.setCell ⟨bb, 10, none⟩ (.slice (some ⟨g, 0, none⟩) (S.claims.length + 1) cap)).heap[k]? = w1.heap[k]? := fun k hk => Below.heap_setCell _ _ _ _ hk
  have hsz : (w1.setCell ⟨bb, 10, none⟩ (.slice (some ⟨g, 0, none⟩) (S.claims.length + 1) cap)).heap.size = w1.heap.size := by simp [World.setCell]
  have hch : Ch F w (w1.setCell ⟨bb, 10, none⟩ (.slice (some ⟨g, 0, none⟩) (S.claims.length + 1) cap)) := HC1.out.setCell (.inl ((hF bb).2 (by omega))) _
  rw [hWf] at hhd hne hsz hch ⊢
  have hs : w.heap.size ≤ Wf.heap.size := by omega
  have hBl : w.heap.size + 1 < Wf.heap.size := by
    have h1 := HB1.out (w.heap.size + 1) (by omega) fun e => by have := HOL.out _ e; omega
    have := heap_lt (h1.trans HN3.out)
    omega
  have hgB : w.heap.size + 1 ≠ g := fun e => by rcases hg with hg | hg; have := hgl hg; omega; omega
  have hBb : w.heap.size + 1 ≠ bb := by omega
  have hkB : ∀ k, k < w.heap.size → k ≠ w.heap.size + 1 := fun k hk => by omega
  have hS : ∀ r, r ≠ 1 ∧ r ≠ 11 ∧ r ≠ 12 ∧ r ≠ 0 → SameR ρ (putR (putR ρ (w.heap.size + 1) 13) g 12) w Wf r := fun r ⟨h1, h11, h12, h0⟩ k hl he => by
    have hkg : k ≠ g := fun e => by rw [e] at he hl; rcases hg with hg | hg <;> omega
    refine ⟨?_, by rw [putR_ne _ hkg, putR_ne _ (hkB k hl), he]⟩
    rw [hne k fun e => by rw [e] at he; omega, HB1.out k (by omega) fun e => by have := HKB.out k e; omega]
    exact HK3.out k hl fun e => by rw [e] at he; omega
  have hlt : ∀ k, putR (putR ρ (w.heap.size + 1) 13) g 12 k ≠ 0 → k < Wf.heap.size := fun k hk => by
    by_cases e1 : k = g
    · omega
    · rw [putR_ne _ e1] at hk
      by_cases e2 : k = w.heap.size + 1
      · omega
      · rw [putR_ne _ e2] at hk
        have := h.lt k hk
        omega
  have hcl : ∀ i, i < S.claims.length → clPut p.cl S.claims.length (w.heap.size + 1) i = p.cl i := fun i hi => by unfold clPut; rw [if_neg (by omega)]
  have hcn : clPut p.cl S.claims.length (w.heap.size + 1) S.claims.length = w.heap.size + 1 := by unfold clPut; rw [if_pos rfl]
  have hcb : ∀ i, i < S.claims.length → p.cl i < w.heap.size := fun i hi => heap_lt (h.claim i hi).1
  refine ⟨rfl, fun k => putR (putR ρ (w.heap.size + 1) 13) g 12 k ≠ 0, ⟨putR (putR ρ (w.heap.size + 1) 13) g 12, { p with oV := .slice (some ⟨g, 0, none⟩) (S.claims.length + 1) cap, cl := clPut p.cl S.claims.length (w.heap.size + 1) }, ?_, fun k => Iff.rfl⟩, hch, fun k hk => ?_⟩
  · exact {
      head := hhd
      rH := by rw [putR_ne _ hgb, putR_ne _ (hkB bb hbl)]; exact h.rH
      chart := chart_keep h.chart (hS 2 (by decide)) hs
      keys := h.keys.keep (hS 3 (by decide))
      known := h.known.keep (hS 4 (by decide))
      rows := h.rows.keep (hS 5 (by decide))
      own := h.own.keep (hS 6 (by decide))
      last := h.last.keep (hS 7 (by decide))
      entries := h.entries.keep (hS 8 (by decide))
      lines := lines_keep h.lines (hS 9 (by decide))
      entry := h.entry.keep (hS 10 (by decide))
      claims := ⟨⟨_, HM3.out.keep ((hne _ fun e => hbm e.symm).trans (HB1.out _ HM3.out.lt fun e => by have := HKB.out _ e; omega)), HI.out.snoc c HFR.out (w.heap.size + 1)⟩, by
        have e1 : p.mC ≠ g := fun e => by rw [e] at hrm hml; rcases hg with hg | hg <;> omega
        rw [putR_ne _ e1, putR_ne _ (hkB _ hml)]; exact h.claims.role⟩
      order := ⟨by
        have h1 := ownsRow_keep HW.out (w' := Wf) fun k e => by cases e; exact hne _ fun e => hgb e.symm
        show World.ownsRow _ _ _ _ _ (S.claims ++ [c]).length (ptrsFrom (clPut p.cl S.claims.length (w.heap.size + 1)) (S.claims ++ [c]).length)
        rw [List.length_append, List.length_singleton, ptrsFrom_snoc]
        exact h1, fun k e => by cases e; exact putR_eq _ _ _⟩
      claim := fun i hi => by
        by_cases e : i < S.claims.length
        · have h1 := claim_keep h.claim (hS 13 (by decide)) i e
          simp only [hcl i e]
          rw [List.getElem_append_left e]
          exact h1
        · obtain rfl : i = S.claims.length := by simp at hi; omega
          simp only [hcn]
          rw [List.getElem_append_right (by omega)]
          simp only [Nat.sub_self, List.getElem_cons_zero]
          refine ⟨?_, by rw [putR_ne _ hgB, putR_eq]⟩
          rw [hne _ hBb, HB1.out _ (by omega) fun e => by have := HOL.out _ e; omega, HN3.out, HB.out]
      inj := fun i j hi hj e => by
        simp only [List.length_append, List.length_singleton] at hi hj
        by_cases h1 : i < S.claims.length
        · by_cases h2 : j < S.claims.length
          · simp only [hcl i h1, hcl j h2] at e
            exact h.inj i j h1 h2 e
          · obtain rfl : j = S.claims.length := by omega
            simp only [hcl i h1, hcn] at e
            have := hcb i h1
            omega
        · obtain rfl : i = S.claims.length := by omega
          by_cases h2 : j < S.claims.length
          · simp only [hcl j h2, hcn] at e
            have := hcb j h2
            omega
          · omega
      allots := h.allots.keep (hS 14 (by decide))
      lt := hlt }
  · have hk : putR (putR ρ (w.heap.size + 1) 13) g 12 k ≠ 0 := hk
    by_cases e1 : k = g
    · subst e1
      rcases hg with hg | hg
      · exact .inl ((hF k).2 (by omega))
      · exact .inr ⟨by omega, by omega⟩
    · rw [putR_ne _ e1] at hk
      by_cases e2 : k = w.heap.size + 1
      · exact .inr ⟨by omega, by omega⟩
      · rw [putR_ne _ e2] at hk
        exact .inl ((hF k).2 hk)
end Go.Proofs.YtgocoofcelggcaaGreatDoor
namespace Go.Proofs.YtgocoofcelggcaaGreatDoor
open Go.RowKit
set_option linter.unusedVariables false
set_option linter.unusedSimpArgs false

theorem BookP.drew {w : World} {ρ : Nat → Nat} {bb : Nat} {S : BookS} {p : Pl} (h : BookP w ρ bb S p) : BookP w.drew ρ bb S p := h.keep (Nat.le_refl _) fun _ _ _ => rfl
theorem BookAt.drew {w : World} {F : Nat → Prop} {bb : Nat} {S : BookS} (h : BookAt w F bb S) : BookAt w.drew F bb S := h.keep (Nat.le_refl _) fun _ _ _ => rfl
theorem BookPost.of_drew {w : World} {F : Nat → Prop} {bb : Nat} {S : BookS} {v : Value} {e : Ending} {w' : World} (h : BookPost F bb S v w.drew e w') : BookPost F bb S v w e w' := by
  obtain ⟨h1, F', h2, h3, h4⟩ := h
  exact ⟨h1, F', h2, ⟨h3.os, h3.tape, h3.output, h3.size, h3.block⟩, h4⟩

section
variable {w : World} {F : Nat → Prop} {bb eb : Nat} {S : BookS} {e : EventV} {lv : Value}

set_option maxRecDepth 100000 in
set_option maxHeartbeats 1000000 in
theorem claim_any (h : BookAt w F bb S) (hE : EvAt w eb e lv) (hf : (S.claims.findIdx? fun x => decide (x.key = e.key)) = none) (hlen : S.claims.length ≤ 1000) :
    Calls Tryz.prog 69 #[ptrV bb, ptrV eb] w (BookPost F bb { S with claims := S.claims ++ [⟨e.key, e.account, e.day, e.due, e.amount, 0, decide (e.kind = 6)⟩] } (.tuple #[]) w) := by
  have hcall := owe_any h.drew ⟨e.key, e.account, e.day, e.due, e.amount, 0, decide (e.kind = 6)⟩ rfl hf hlen
  have e0 := hE.e0
  have e1 := hE.e1
  have e2 := hE.e2
  have e3 := hE.e3
  have e8 := hE.e8
  have e9 := hE.e9
  unfold ptrV claimAgg at hcall
  unfold ptrV
  have HC := Lib.hid hcall
  clear h hE hf hlen hcall
  go_enter Tryz.func69, Tryz.ntmps69
  refine still_tail (W := w.drew) 27 (by kernel_rfl) (by kernel_rfl) rfl ?_
  simp only [List.take_succ_cons, List.take_zero, List.drop_succ_cons, List.drop_zero]
  repeat still_step
  refine wpStill_nil ?_
  go_wp2_with (go_at_call 100; refine HC.out.mono ?_; rintro en w1 hp; obtain ⟨hret, hex⟩ := hp; subst hret; have HX := Lib.hid hex; clear hex)
  go_end0
  obtain ⟨F', h2, h3, h4⟩ := HX.out
  exact ⟨rfl, F', h2, ⟨h3.os, h3.tape, h3.output, h3.size, h3.block⟩, h4⟩

/-! ### allot -/
theorem useL_at (k : ByteArray) (n : Int) : ∀ (l : List ClaimV) (i : Nat), (l.findIdx? fun x => decide (x.key = k)) = some i → useL k n l = l.modify i fun x => { x with used := x.used + n }
  | [], i, h => by simp at h
  | x :: l, i, h => by
    rw [List.findIdx?_cons] at h
    by_cases hk : x.key = k
    · simp [hk] at h
      subst h
      simp [useL, hk]
    · simp [hk] at h
      obtain ⟨j, hj, rfl⟩ := h
      unfold useL
      rw [if_neg hk, useL_at k n l j hj]
      rfl
theorem useL_find (k : ByteArray) (n : Int) (k' : ByteArray) : ∀ (l : List ClaimV), ((useL k n l).findIdx? fun x => decide (x.key = k')) = l.findIdx? fun x => decide (x.key = k')
  | [] => rfl
  | x :: l => by
    unfold useL
    by_cases hk : x.key = k
    · rw [if_pos hk, List.findIdx?_cons, List.findIdx?_cons]
    · rw [if_neg hk, List.findIdx?_cons, List.findIdx?_cons, useL_find k n k' l]
theorem useL_len (k : ByteArray) (n : Int) : ∀ (l : List ClaimV), (useL k n l).length = l.length
  | [] => rfl
  | x :: l => by
    unfold useL
    by_cases hk : x.key = k
    · rw [if_pos hk]; rfl
    · rw [if_neg hk, List.length_cons, List.length_cons, useL_len k n l]

theorem BookP.lookCi {ρ : Nat → Nat} {p : Pl} (h : BookP w ρ bb S p) (k : ByteArray) (i : Nat) (hix : (S.claims.findIdx? fun x => decide (x.key = k)) = some i) :
    Sem.run Tryz.prog (Instr.lookup 75 (.map (some p.mC)) (.string k) false) w = .ok (.pointer (some ⟨p.cl i, 0, none⟩)) w := by
  obtain ⟨ps, hs, hi⟩ := h.claims.ex
  have hl := run_lookup_strmap hs Tryz.underlying75 Tryz.underlying9 Tryz.zeroValue79 k
  rw [hi k, hix] at hl
  exact hl

/-- More of a claim is used. -/
theorem BookP.used {ρ : Nat → Nat} {p : Pl} (h : BookP w ρ bb S p) (k : ByteArray) (n : Int) (i : Nat) (hi : i < S.claims.length) (hix : (S.claims.findIdx? fun x => decide (x.key = k)) = some i) :
    BookP (w.setCell ⟨p.cl i, 5, none⟩ (.int .i64 (S.claims[i].used + n))) ρ bb { S with claims := useL k n S.claims } p := by
  have hr := (h.claim i hi).2
  have hS : ∀ r, r ≠ 13 → SameR ρ ρ w (w.setCell ⟨p.cl i, 5, none⟩ (.int .i64 (S.claims[i].used + n))) r := fun r hr' => SameR.refl fun k hl he => Below.heap_setCell w _ _ _ fun e' => by have e'' : k = p.cl i := e'; rw [e''] at he; omega
  have hs : w.heap.size ≤ (w.setCell ⟨p.cl i, 5, none⟩ (.int .i64 (S.claims[i].used + n))).heap.size := by simp [World.setCell]
  have hlt : ∀ k, ρ k ≠ 0 → k < (w.setCell ⟨p.cl i, 5, none⟩ (.int .i64 (S.claims[i].used + n))).heap.size := fun k hr => by have := h.lt k hr; omega
  have hve := useL_at k n S.claims i hix
  have hb : bb ≠ p.cl i := fun e => by rw [← e] at hr; have := h.rH; omega
  exact {
    head := (Below.heap_setCell w _ _ _ hb).trans h.head
    rH := h.rH
    chart := chart_keep h.chart (hS 2 (by decide)) hs
    keys := h.keys.keep (hS 3 (by decide))
    known := h.known.keep (hS 4 (by decide))
    rows := h.rows.keep (hS 5 (by decide))
    own := h.own.keep (hS 6 (by decide))
    last := h.last.keep (hS 7 (by decide))
    entries := h.entries.keep (hS 8 (by decide))
    lines := lines_keep h.lines (hS 9 (by decide))
    entry := h.entry.keep (hS 10 (by decide))
    claims := by
      obtain ⟨⟨ps, h2, h3⟩, h4⟩ := h.claims.keep (hS 11 (by decide))
      exact ⟨⟨ps, h2, fun k' => by rw [h3 k']; exact congrArg _ (useL_find k n k' S.claims).symm⟩, h4⟩
    order := by
      have h1 := h.order.keep (hS 12 (by decide))
      have e1 := useL_len k n S.claims
      show OwnP _ _ _ _ _ _ (useL k n S.claims).length (ptrsFrom p.cl (useL k n S.claims).length)
      rw [e1]
      exact h1
    claim := fun j hj => by
      have hj' : j < S.claims.length := by rw [useL_len] at hj; exact hj
      refine ⟨?_, (h.claim j hj').2⟩
      simp only [hve, List.getElem_modify]
      by_cases e : i = j
      · subst e
        rw [if_pos rfl]
        exact heap_setCell_same (h.claim i hi).1 _
      · rw [if_neg e]
        exact (Below.heap_setCell w _ _ _ fun e' => e (h.inj i j hi hj' (Eq.symm e'))).trans (h.claim j hj').1
    inj := fun a b ha hb => h.inj a b (by rw [useL_len] at ha; exact ha) (by rw [useL_len] at hb; exact hb)
    allots := h.allots.keep (hS 14 (by decide))
    lt := hlt }
end
end Go.Proofs.YtgocoofcelggcaaGreatDoor
