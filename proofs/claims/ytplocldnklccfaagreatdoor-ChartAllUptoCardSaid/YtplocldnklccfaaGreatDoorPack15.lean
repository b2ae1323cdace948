/- daybookref06: From; daybookkeep: a copy of a list of accounts with room behind it, and whether it is as it was. Printed by gen_karoom.py; daybooklaw06: what made wants. Printed by gen_made.py; daybooklaw06: two sides and a book, what a call on one of them leaves of all. -/
import Derived.Test.YtplocldnklccfaaGreatDoorPack5
import Derived.Test.YtplocldnklccfaaGreatDoorPack13
import Derived.Test.YtplocldnklccfaaGreatDoorPack7
import Derived.Test.YtplocldnklccfaaGreatDoorPack14
namespace Go.Proofs.YtplocldnklccfaaGreatDoor
theorem qa15 {T : Type} (l : List T) (i : Nat) (a : T) : l.toArray.setIfInBounds i a = (l.set i a).toArray := List.setIfInBounds_toArray l i a
theorem qb15 {T : Type} {x : T} {xs : List T} {a : T} : (x :: xs).set 0 a = a :: xs := List.set_cons_zero
theorem qc15 {T : Type} {x : T} {xs : List T} {i : Nat} {a : T} : (x :: xs).set (i + 1) a = x :: xs.set i a := List.set_cons_succ
theorem qd15 {T : Type} {xs : List T} {i : Nat} (h : i < xs.toArray.size) : xs.toArray[i] = xs[i]'(by simpa using h) := List.getElem_toArray h
theorem qe15 {T : Type} (a : T) (ys : List T) (i : Nat) (h : i + 1 < (a :: ys).length) : (a :: ys)[i + 1] = ys[i]'(by simpa using h) := List.getElem_cons_succ a ys i h
theorem qf15 {T : Type} (a : T) (ys : List T) (h : 0 < (a :: ys).length) : (a :: ys)[0] = a := List.getElem_cons_zero a ys h
open Go.RowKit Go.Shelf
set_option linter.unusedVariables false
set_option linter.unusedSimpArgs false

theorem AccAt.read {w : World} {v : Value} {l : List Acct} (h : AccAt w v l) : ∃ A c, v = .slice A l.length c ∧ ∀ j (hj : j < l.length), ∃ ad, A = some ad ∧ ad.block < w.heap.size ∧ w.cell? (ad.add (j * 4)) = some (.string l[j].name) ∧ w.cell? ((ad.add (j * 4)).add 1) = some (.int .i64 l[j].typ) ∧ w.cell? ((ad.add (j * 4)).add 2) = some (.int .i64 l[j].opened) ∧ w.cell? ((ad.add (j * 4)).add 3) = some (.bool l[j].closed) := by
  obtain ⟨A, c, e, _, hx⟩ := h.ex
  exact ⟨A, c, e, hx⟩

set_option maxRecDepth 100000 in
set_option maxHeartbeats 2000000 in
theorem refFrom_any {w : World} {v : Value} {l : List Acct} (h : AccAt w v l) (hle : l.length ≤ 1048576) (hs : ∀ a ∈ l, a.name.size ≤ 1048576) :
    Calls Tryz.prog 148 #[v] w fun e w' => ∃ p n, e = .returned (.tuple #[.pointer p, .int .i64 n]) ∧ Below w.heap.size w w' ∧
      ((Valid l ∧ n = 0 ∧ ∃ rb R, p = some ⟨rb, 0, none⟩ ∧ RefAt w' R rb l ∧ ∀ x, R x → w.heap.size ≤ x ∧ x < w'.heap.size) ∨ (¬ Valid l ∧ n = 67 ∧ p = none)) := by
  obtain ⟨i0, hi, hz0, hz1, hz2⟩ := info_parts info_acc
  obtain ⟨A, c, rfl, hnil, hx⟩ := h.ex
  have H := Lib.hid h
  have HX := Lib.hid hx
  have HS := Lib.hid hs
  clear h hx hs
  go_enter Tryz.func148, Tryz.ntmps148
  go_wp2_with (at_builtin; refine wpList_append_row rfl _ _ 55 rfl (w.alloc (.cells #[.slice none 0 0] 150)).heap.size 159 i0 (.agg #[.string ByteArray.empty, .int .i64 0, .int .i64 0, .bool false]) 4 40 Tryz.underlying55 hi hz0 hz1 hz2 rfl (by decide) (.slice none 0 0) 0 [] rfl (World.ownsRow_nil _ _ _ _) (.slice A l.length c) (l.map encA) rfl (H.out.below (bel1 w _)).row hnil ?c1 ?c2 ?c3 ?c4 ?c5 ?_)
  case c1 => intro x hx; obtain ⟨a, _, rfl⟩ := List.mem_map.1 hx; rfl
  case c2 => intro x hx u hu; obtain ⟨a, _, rfl⟩ := List.mem_map.1 hx; simp [encA] at hu; rcases hu with rfl | rfl | rfl | rfl <;> rfl
  case c3 => simp; unfold maxLen; omega
  case c4 => simp; omega
  case c5 => exact Nat.le_refl _
  intro v' w1 hown' hgrow _
  have hown' : w1.ownsRow (w.alloc (.cells #[.slice none 0 0] 150)).heap.size 159 4 v' l.length (cellsA l) := by
    have h7 := hown'
    simpa [cellsA, List.flatMap_def] using h7
  obtain ⟨A', c', rfl⟩ := own_form hown'
  have hb1 : Below (w.alloc (.cells #[.slice none 0 0] 150)).heap.size (w.alloc (.cells #[.slice none 0 0] 150)) w1 := (Below.refl _ _).grown hgrow (Nat.le_refl _) fun k' hk' => by cases hk'
  rw [World.size_alloc] at hown'
  have hk0 : w1.heap[w.heap.size]? = some (.cells #[.slice none 0 0] 150 (0, 0)) := (hb1.block _ (by simp)).trans (World.alloc_heap_new w _)
  have hc0 : w1.cell? ⟨w.heap.size, 0, none⟩ = some (.slice none 0 0) := by rw [cell_of_blk hk0]; rfl
  have hf0 := frozen_blk hk0 0
  have hk1 := heap_setCell_same (i := 0) hk0 (.slice A' l.length c')
  have hne : ∀ q, (Value.slice A' l.length c').ownBlock = some q → q ≠ w.heap.size := fun q hq e => by have := (hown'.lt q hq).1; omega
  have hown1 := ownsRow_keep (w' := w1.setCell ⟨w.heap.size, 0, none⟩ (.slice A' l.length c')) hown' fun q hq => Below.heap_setCell _ _ _ _ (hne q hq)
  have hB1 : Below w.heap.size w (w1.setCell ⟨w.heap.size, 0, none⟩ (.slice A' l.length c')) := ((bel1 w _).trans (hb1.mono (by simp))).setCell (Nat.le_refl _) _
  have hRP : RefP (w1.setCell ⟨w.heap.size, 0, none⟩ (.slice A' l.length c')) (fun x => w.heap.size ≤ x ∧ x < (w1.setCell ⟨w.heap.size, 0, none⟩ (.slice A' l.length c')).heap.size) w.heap.size A' c' l :=
    { blk := by simpa using hk1
      own := own_base hown1 fun q hq => Nat.zero_le _
      rR := ⟨Nat.le_refl _, heap_lt hk1⟩
      rO := fun q hq => ⟨by have := (hown1.lt q hq).1; omega, (hown1.lt q hq).2⟩
      ne := hne
      le := hle }
  have HRP := Lib.hid (And.intro hRP hB1)
  clear hown' hgrow hk1 hown1 hB1 hRP hne hb1
  by_cases h100 : 100 < l.length
  · go_wp2
    refine bodyPost_ret (v := .tuple #[.pointer none, .int .i64 67]) (by simp [results, Tryz.results148, go_sem]) rfl ⟨none, 67, rfl, HRP.out.2, .inr ⟨fun hv => by have := hv.le; omega, rfl, rfl⟩⟩
  go_wp2
  obtain ⟨W0, hW0⟩ : ∃ W0, w1.setCell ⟨w.heap.size, 0, none⟩ (.slice A' l.length c') = W0 := ⟨_, rfl⟩
  rw [hW0] at HRP ⊢
  clear hW0 hk0 hc0 hf0
  go_loopw [5] (fun i wr => ∃ k : Nat, i = .int .i64 (k : Int) ∧ k ≤ l.length ∧ OkUpto l k ∧ Below W0.heap.size W0 wr) (fun i _ => l.length - (intOf i).toNat)
  case atStart => exact ⟨0, rfl, Nat.zero_le _, fun j _ h => absurd h (by omega), Below.refl _ _⟩
  case round =>
    obtain ⟨k, rfl, hk, hok, hbel⟩ := hrel
    have HOK := Lib.hid hok
    have HB := Lib.hid hbel
    have hs0 := HRP.out.2.size
    have hsr := hbel.size
    have hB := HRP.out.2.trans (hbel.mono hs0)
    have HBW := Lib.hid hB
    clear hok hbel hB
    by_cases hlt : k < l.length
    · obtain ⟨ad, rfl, hab, r0, r1, r2, r3⟩ := HX.out k hlt
      have hadd : ∀ (m : Nat), (ad.add m).block = ad.block := fun m => block_add _ _
      have q0 := (HBW.out.cell (p := ad.add (k * 4)) (by rw [hadd]; exact hab)).trans r0
      have q1 : wr.cell? ⟨(ad.add (k * 4)).block, (ad.add (k * 4)).off + 1, none⟩ = some (.int .i64 l[k].typ) := (HBW.out.cell (p := (ad.add (k * 4)).add 1) (by rw [block_add, hadd]; exact hab)).trans r1
      have q2 : wr.cell? ⟨(ad.add (k * 4)).block, (ad.add (k * 4)).off + 2, none⟩ = some (.int .i64 l[k].opened) := (HBW.out.cell (p := (ad.add (k * 4)).add 2) (by rw [block_add, hadd]; exact hab)).trans r2
      have q3 : wr.cell? ⟨(ad.add (k * 4)).block, (ad.add (k * 4)).off + 3, none⟩ = some (.bool l[k].closed) := (HBW.out.cell (p := (ad.add (k * 4)).add 3) (by rw [block_add, hadd]; exact hab)).trans r3
      have hft := fits_any (HRP.out.1.below HB.out) l[k] (HS.out _ (List.getElem_mem hlt))
      obtain ⟨a, ha⟩ : ∃ a, a = l[k] := ⟨_, rfl⟩
      rw [← ha] at q0 q1 q2 q3 hft
      obtain ⟨fb, hfb⟩ : ∃ fb, fb = fitsB l a := ⟨_, rfl⟩
      rw [← hfb] at hft
      unfold accV at hft
      have HFT := Lib.hid hft
      have HA := Lib.hid (And.intro ha hfb)
      have hmu : l.length - ((k : Int) + 1).toNat < l.length - k := by omega
      clear ha hfb hft r0 r1 r2 r3 hadd
      cases fb with
      | false =>
        have hbad : Hid (¬ Valid l) := Lib.hid (fun hv => by
          have := (upto_of_valid hv (k + 1) k hlt (by omega)).1
          rw [← HA.out.1, ← HA.out.2] at this
          cases this)
        go_wp2_with (go_at_call 211; refine HFT.out.mono ?_; rintro e w3 ⟨rfl, hb3⟩; have HB3 := Lib.hid hb3; clear hb3)
        go_quiet (fail)
        go_wp2
        refine bodyPost_ret (v := .tuple #[.pointer none, .int .i64 67]) (by simp [results, Tryz.results148, go_sem]) rfl ⟨none, 67, rfl, ?_, .inr ⟨hbad.out, rfl, rfl⟩⟩
        exact below_drewN (HBW.out.trans (HB3.out.mono (by omega))) _
      | true =>
        by_cases hk0 : k = 0
        · subst hk0
          have hn : Hid (OkUpto l 1) := Lib.hid (fun j hj h1 => by
            obtain rfl : j = 0 := by omega
            refine ⟨by rw [← HA.out.1, ← HA.out.2], fun h0 => by omega⟩)
          simp only [Nat.zero_mul, Addr.add_zero'] at q0 q1 q2 q3
          go_wp2_with (go_at_call 211; refine HFT.out.mono ?_; rintro e w3 ⟨rfl, hb3⟩; have HB3 := Lib.hid hb3; clear hb3)
          go_quiet (fail)
          go_wp2
          go_roundw
          case rel => exact ⟨1, by go_num, by omega, hn.out, below_drewN (HB.out.trans (HB3.out.mono (by omega))) _⟩
          case measure => simpa [intOf] using hmu
        · obtain ⟨m, rfl⟩ : ∃ m, k = m + 1 := ⟨k - 1, by omega⟩
          obtain ⟨ad', e4, hab', p0, _⟩ := HX.out m (by omega)
          obtain rfl : ad = ad' := by injection e4
          have e1 : (((m + 1 : Nat) : Int) - 1) = (m : Int) := by omega
          have e2 : IntKind.i64.wrap (((m + 1 : Nat) : Int) - 1) = (m : Int) := by rw [e1]; exact IntWalk.i64_in _ (by omega)
          have e3 : wrap64 (((m + 1 : Nat) : Int) - 1) = (m : Int) := by unfold wrap64; omega
          have e5 : (0 : Int) < ((m + 1 : Nat) : Int) := by omega
          have e6 : (m : Int) < ((l.length : Nat) : Int) := by omega
          obtain ⟨b, hbe⟩ : ∃ b, b = l[m] := ⟨_, rfl⟩
          rw [← hbe] at p0
          have HBE := Lib.hid hbe
          have HP0 := Lib.hid p0
          clear hbe p0
          have lt0 := bytesLess_cmp b.name a.name
          have q0' : wr.cell? (ad.add (m * 4)) = some (.string b.name) := (HBW.out.cell (p := ad.add (m * 4)) (by rw [block_add]; exact hab)).trans HP0.out
          have HQ0 := Lib.hid q0'
          clear q0'
          by_cases hc : cmpB b.name a.name < 0
          · have hn : Hid (OkUpto l (m + 1 + 1)) := Lib.hid (fun j hj h1 => by
              by_cases e : j = m + 1
              · subst e
                refine ⟨by rw [← HA.out.1, ← HA.out.2], fun h0 => ?_⟩
                simp only [Nat.add_sub_cancel]
                rw [← HA.out.1, ← HBE.out]; exact hc
              · exact HOK.out j hj (by omega))
            have ne0 := name_ne (cmp_ne hc).symm
            have lt1 : Op.bytesLess a.name.toList b.name.toList = false := by
              rw [bytesLess_cmp]
              exact decide_eq_false fun h => by have := cmp_trans hc h; rw [cmp_self] at this; omega
            clear hc lt0
            go_wp2_with (go_at_call 211; refine HFT.out.mono ?_; rintro e w3 ⟨rfl, hb3⟩; have HB3 := Lib.hid hb3; have p3 := (hb3.cell (p := ad.add ((m + 1) * 4)) (by rw [block_add]; exact Nat.lt_of_lt_of_le hab HBW.out.size)).trans q0; have p4 := (hb3.cell (p := ad.add (m * 4)) (by rw [block_add]; exact Nat.lt_of_lt_of_le hab HBW.out.size)).trans HQ0.out; clear hb3)
            go_quiet (fail)
            go_wp2
            go_roundw
            case rel => exact ⟨m + 1 + 1, by go_num, by omega, hn.out, below_drewN (HB.out.trans (HB3.out.mono (by omega))) _⟩
            case measure => simpa [intOf] using hmu
          · have hbad : Hid (¬ Valid l) := Lib.hid (fun hv => by
              have := (upto_of_valid hv (m + 2) (m + 1) hlt (by omega)).2 (by omega)
              simp only [Nat.add_sub_cancel] at this
              rw [← HA.out.1, ← HBE.out] at this
              exact hc this)
            by_cases he : a.name = b.name
            · have ne0 : (a.name.toList == b.name.toList) = true := by rw [he]; simp
              have lt1 : Op.bytesLess a.name.toList b.name.toList = false := by
                rw [bytesLess_cmp, he, cmp_self]; rfl
              clear hc lt0 he
              go_wp2_with (go_at_call 211; refine HFT.out.mono ?_; rintro e w3 ⟨rfl, hb3⟩; have HB3 := Lib.hid hb3; have p3 := (hb3.cell (p := ad.add ((m + 1) * 4)) (by rw [block_add]; exact Nat.lt_of_lt_of_le hab HBW.out.size)).trans q0; have p4 := (hb3.cell (p := ad.add (m * 4)) (by rw [block_add]; exact Nat.lt_of_lt_of_le hab HBW.out.size)).trans HQ0.out; clear hb3)
              go_quiet (fail)
              go_wp2
              refine bodyPost_ret (v := .tuple #[.pointer none, .int .i64 67]) (by simp [results, Tryz.results148, go_sem]) rfl ⟨none, 67, rfl, ?_, .inr ⟨hbad.out, rfl, rfl⟩⟩
              exact below_drewN (HBW.out.trans (HB3.out.mono (by omega))) _
            · have ne0 := name_ne he
              have lt1 : Op.bytesLess a.name.toList b.name.toList = true := by
                rw [bytesLess_cmp]
                refine decide_eq_true ?_
                rcases cmp_total he with h | h
                · exact h
                · exact absurd h hc
              clear hc lt0 he
              go_wp2_with (go_at_call 211; refine HFT.out.mono ?_; rintro e w3 ⟨rfl, hb3⟩; have HB3 := Lib.hid hb3; have p3 := (hb3.cell (p := ad.add ((m + 1) * 4)) (by rw [block_add]; exact Nat.lt_of_lt_of_le hab HBW.out.size)).trans q0; have p4 := (hb3.cell (p := ad.add (m * 4)) (by rw [block_add]; exact Nat.lt_of_lt_of_le hab HBW.out.size)).trans HQ0.out; clear hb3)
              go_quiet (fail)
              go_wp2
              refine bodyPost_ret (v := .tuple #[.pointer none, .int .i64 67]) (by simp [results, Tryz.results148, go_sem]) rfl ⟨none, 67, rfl, ?_, .inr ⟨hbad.out, rfl, rfl⟩⟩
              exact below_drewN (HBW.out.trans (HB3.out.mono (by omega))) _
    · obtain rfl : k = l.length := by omega
      have hv : Hid (Valid l) := Lib.hid (valid_of_upto (by omega) HOK.out)
      go_wp2
      refine bodyPost_ret (v := .tuple #[.pointer (some ⟨w.heap.size, 0, none⟩), .int .i64 0]) (by simp [results, Tryz.results148, go_sem]) rfl ⟨_, 0, rfl, HBW.out, .inl ⟨hv.out, rfl, _, _, rfl, ⟨_, _, HRP.out.1.below HB.out⟩, fun x hx => ⟨hx.1, by omega⟩⟩⟩
end Go.Proofs.YtplocldnklccfaaGreatDoor
namespace Go.Proofs.YtplocldnklccfaaGreatDoor
open Go.RowKit
set_option linter.unusedVariables false
set_option linter.unusedSimpArgs false

theorem roomR63 {n : Nat} (h : n ≤ 1048576) : 0 + n ≤ maxLen := by unfold maxLen; omega
/-- A copy and its marks. -/
def rmA (l : List Acct) : List Acct := l ++ marksL markA 700000 64
theorem rmA_len (l : List Acct) : (rmA l).length = l.length + 64 := by unfold rmA; rw [List.length_append, marksL_len]
theorem rmA_old (l : List Acct) (j : Nat) (h : j < l.length) (hj : j < (rmA l).length) : (rmA l)[j] = l[j] := List.getElem_append_left (bs := marksL markA 700000 64) h
theorem rmA_new (l : List Acct) (j : Nat) (h : l.length ≤ j) (hj : j < (rmA l).length) : (rmA l)[j] = markA 700000 ((j : Int) - (l.length : Int)) := by
  have h2 : (l ++ marksL markA 700000 64)[j]'hj = (marksL markA 700000 64)[j - l.length]'(by rw [rmA_len] at hj; rw [marksL_len]; omega) := List.getElem_append_right h
  refine h2.trans ?_
  rw [marksL_get]
  congr 1
  omega
theorem nil_of_acc {w : World} {v : Value} {l : List Acct} (h : AccAt w v l) : NilOk v := by
  obtain ⟨A, c, e, hn, _⟩ := h.ex
  exact hn

structure RoomInv (w0 : World) (l : List Acct) (i : Value) (R : Value) (wr : World) (k : Nat) : Prop where
  le : k ≤ 64
  at_ : i = .int .i64 (k : Int)
  own : wr.ownsRow w0.heap.size 159 4 R (l.length + k) ((l.map encA).flatten ++ (accsM 700000 k).flatten)
  bel : Below w0.heap.size w0 wr

set_option maxRecDepth 100000 in
set_option maxHeartbeats 4000000 in
theorem RoomAccounts_any {w : World} {v : Value} {l : List Acct} (h : AccAt w v l) (hp : Pow w) (hn : l.length ≤ 1048576) :
    Calls Tryz.prog 146 #[v] w fun e w' => ∃ g cap, e = .returned (.slice (some ⟨g, 0, none⟩) (l.length + 64) cap) ∧ w'.ownsRow w.heap.size 159 4 (.slice (some ⟨g, 0, none⟩) (l.length + 64) cap) (l.length + 64) ((rmA l).map encA).flatten ∧ Below w.heap.size w w' := by
  obtain ⟨i0, hi, hz0, hz1, hz2⟩ := info_parts info_acc
  have H := Lib.hid h
  have HN := Lib.hid (nil_of_acc h)
  have HP := Lib.hid hp
  clear h hp
  go_enter Tryz.func146, Tryz.ntmps146
  go_wp2_with (at_builtin; refine wpList_append_row rfl _ _ 55 rfl w.heap.size 159 i0 (.agg #[.string ByteArray.empty, .int .i64 0, .int .i64 0, .bool false]) 4 40 Tryz.underlying55 hi hz0 hz1 hz2 rfl (by decide) _ _ _ rfl (own_empty4 w _) v (l.map encA) rfl (H.out.below (bel1 w _)).row HN.out ?c1 ?c2 ?c3 ?c4 ?c5 ?_)
  case c1 => intro x hx; obtain ⟨a, _, rfl⟩ := List.mem_map.1 hx; rfl
  case c2 => intro x hx u hu; obtain ⟨a, _, rfl⟩ := List.mem_map.1 hx; simp [encA] at hu; rcases hu with rfl | rfl | rfl | rfl <;> rfl
  case c3 => rw [List.length_map]; exact roomR63 hn
  case c4 => rw [List.length_map]; exact roomLbA hn
  case c5 => simp
  intro v' w1 hown' hgrow _
  have hb1 : Below w.heap.size w w1 := ((Below.refl _ w).alloc (Nat.le_refl _) _).grown hgrow (by simp) fun k' hk' => by
    simp [Value.ownBlock] at hk'
    omega
  obtain ⟨A', c', rfl⟩ := own_form hown'
  have HI := Lib.hid (show RoomInv w l (.int .i64 0) (.slice A' l.length c') w1 0 from ⟨by omega, rfl, by simpa [accsM, marksL] using hown', hb1⟩)
  clear hown' hgrow hb1
  go_wp2
  go_loopw [3, 4] (fun v i wr => ∃ k, RoomInv w l i v wr k) (fun _ i _ => 64 - (intOf i).toNat)
  case atStart => exact ⟨0, HI.out⟩
  case round =>
    obtain ⟨k, hk, rfl, hown, hbel⟩ := hrel
    obtain ⟨GA, gc, rfl⟩ := own_form hown
    have hsz := hbel.size
    by_cases hlt : k < 64
    · have hlt' : (k : Int) < 64 := by omega
      have hmu : 64 - ((k : Int) + 1).toNat < 64 - k := by omega
      have hmk := markAcc_any wr (HP.out.below hbel) 700000 (k : Int) ⟨by omega, by omega⟩ ⟨by omega, by omega⟩
      unfold accV at hmk
      have HO := Lib.hid hown
      have HB := Lib.hid hbel
      have HR63 := Lib.hid (room63A (k := k) hn hlt)
      have HR47 := Lib.hid (room47A (k := k) hn hlt)
      clear hown hbel
      go_wp2_with (first
        | (go_at_call 196; refine hmk.mono ?_; rintro en wx ⟨rfl, hbx⟩; have HX := Lib.hid hbx; clear hmk hbx)
        | (at_builtin; refine wpList_append_own _ rfl _ _ 55 rfl w.heap.size 159 i0 (.agg #[.string ByteArray.empty, .int .i64 0, .int .i64 0, .bool false]) 4 40 Tryz.underlying55 hi hz0 hz1 hz2 rfl (by decide) _ _ _ rfl ((ownsRow_keep (w' := wx) HO.out fun q e => HX.out.block q (HO.out.lt q e).2).alloc _) ⟨wx.heap.size, 0, none⟩ 1 1 (encA (markA 700000 k)) rfl rfl ?c1 ?c2 ?c3 ?c4 ?c5 ?_))
      case c1 => exact enc_new wx _ _
      case c2 => intro u hu; unfold encA at hu; simp at hu; rcases hu with rfl | rfl | rfl | rfl <;> rfl
      case c3 => exact HR63.out
      case c4 => exact HR47.out
      case c5 => have := HB.out.size; have := HX.out.size; simp; omega
      intro v5 w5 hown5 hgrow5 _
      have hb5 : Below w.heap.size w w5 := ((HB.out.trans (HX.out.mono HB.out.size)).alloc (by have := HB.out.size; have := HX.out.size; omega) _).grown hgrow5 (by have := HB.out.size; have := HX.out.size; simp; omega) fun k' hk' => (HO.out.lt k' hk').1
      have HO1 := Lib.hid hown5
      clear hown5 hgrow5
      go_wp2
      go_roundw
      case rel => exact ⟨k + 1, by omega, by go_num, by
        have h9 := HO1.out
        rw [accsM_succ, List.flatten_append, List.flatten_cons, List.flatten_nil, List.append_nil]
        exact h9, hb5⟩
      case measure => simpa [intOf] using hmu
    · obtain rfl : k = 64 := by omega
      have HO := Lib.hid hown
      have HB := Lib.hid hbel
      clear hown hbel
      go_wp2
      go_ret
      obtain ⟨g, cap, e⟩ : ∃ g cap, Value.slice GA (l.length + 64) gc = .slice (some ⟨g, 0, none⟩) (l.length + 64) cap := by
        rcases HO.out.2 with ⟨hv, _⟩ | ⟨g, cap, cur, hv, _⟩
        · injection hv with _ h2 _
          omega
        · exact ⟨g, cap, hv⟩
      refine ⟨g, cap, by rw [e]; rfl, ?_, HB.out⟩
      rw [← e]
      have h9 := HO.out
      unfold rmA
      rw [List.map_append, List.flatten_append]
      exact h9

set_option maxRecDepth 100000 in
set_option maxHeartbeats 4000000 in
theorem KeptAccounts_any {w : World} {ag : Addr} {A : Option Addr} {c cg : Nat} {l : List Acct} (hG : AccN w (some ag) (rmA l)) (hL : AccN w A l) (hp : Pow w) (hn : l.length ≤ 1048576) :
    Calls Tryz.prog 149 #[.slice (some ag) (l.length + 64) cg, .slice A l.length c] w fun e w' => e = .returned (.bool true) ∧ Below w.heap.size w w' := by
  have HG := Lib.hid hG
  have HL := Lib.hid hL
  have HP := Lib.hid hp
  clear hG hL hp
  have hw64 : IntKind.i64.wrap ((l.length : Int) + 64) = (l.length : Int) + 64 := IntWalk.i64_in _ (by omega)
  have hww : wrap64 ((l.length : Int) + 64) = (l.length : Int) + 64 := by unfold wrap64; omega
  go_enter Tryz.func149, Tryz.ntmps149
  go_wp2
  clear hw64 hww
  go_loopw [5] (fun i wr => ∃ k : Nat, i = .int .i64 (k : Int) ∧ k ≤ l.length + 64 ∧ Below w.heap.size w wr) (fun i _ => l.length + 64 - (intOf i).toNat)
  case atStart => exact ⟨0, rfl, Nat.zero_le _, Below.refl _ _⟩
  case round =>
    obtain ⟨k, rfl, hk, hbr⟩ := hrel
    by_cases hlt : k < l.length + 64
    · have hlt' : (k : Int) < (l.length : Int) + 64 := by omega
      obtain ⟨ag', eg, hgb, hcg⟩ := HG.out k (by rw [rmA_len]; exact hlt)
      obtain rfl : ag = ag' := Option.some.inj eg
      have hmu := meas_up (l.length + 64) k hlt
      have hwk := wrap_up k (by omega)
      have HUP := Lib.hid (fun W (hb : Below wr.drew.heap.size wr.drew W) => (show Below w.heap.size w W from hbr.trans ⟨hb.os, hb.tape, hb.output, hb.size, fun q hq => hb.block q (Nat.lt_of_lt_of_le hq hbr.size)⟩))
      have hKB : ∀ {ad : Addr} {a : Acct} (W : World), Below w.heap.size w W → ad.block < w.heap.size → E4 w (ad.add (k * 4)) a → E4 W (ad.add (k * 4)) a := fun {ad a} W hb hl h => h.keep (by rw [block_add]; exact hb.block _ hl)
      by_cases hlk : k < l.length
      · rw [rmA_old l k hlk] at hcg
        obtain ⟨ad, rfl, hl, hc⟩ := HL.out k hlk
        obtain ⟨r, hr⟩ : ∃ r, r = l[k] := ⟨_, rfl⟩
        rw [← hr] at hcg hc
        have HS := Lib.hid (fun W (hb : Below wr.drew.heap.size wr.drew W) => (show W.cell? (ag.add (k * 4)) = some (.string r.name) ∧ W.cell? ⟨(ag.add (k * 4)).block, (ag.add (k * 4)).off + 1, none⟩ = some (.int .i64 r.typ) ∧ W.cell? ⟨(ag.add (k * 4)).block, (ag.add (k * 4)).off + 2, none⟩ = some (.int .i64 r.opened) ∧ W.cell? ⟨(ag.add (k * 4)).block, (ag.add (k * 4)).off + 3, none⟩ = some (.bool r.closed) ∧ W.cell? (ad.add (k * 4)) = some (.string r.name) ∧ W.cell? ⟨(ad.add (k * 4)).block, (ad.add (k * 4)).off + 1, none⟩ = some (.int .i64 r.typ) ∧ W.cell? ⟨(ad.add (k * 4)).block, (ad.add (k * 4)).off + 2, none⟩ = some (.int .i64 r.opened) ∧ W.cell? ⟨(ad.add (k * 4)).block, (ad.add (k * 4)).off + 3, none⟩ = some (.bool r.closed) from by
          obtain ⟨x0, x1, x2, x3⟩ := hKB W (HUP.out W hb) hgb hcg
          obtain ⟨y0, y1, y2, y3⟩ := hKB W (HUP.out W hb) hl hc
          exact ⟨x0, x1, x2, x3, y0, y1, y2, y3⟩))
        have hHeld := HS.out wr.drew (Below.refl _ _)
        have hlk' : (k : Int) < (l.length : Int) := by omega
        have hlk2 : ¬ (l.length : Int) ≤ (k : Int) := by omega
        have hd1 : decide ((k : Int) < (l.length : Int)) = true := decide_eq_true hlk'
        have hd2 : decide ((l.length : Int) ≤ (k : Int)) = false := decide_eq_false hlk2
        have hd3 : decide (l.length ≤ k) = false := decide_eq_false (by omega)
        clear hr hcg hc hl hgb hKB
        go_wp2
        refine wp_region_n (n := 35) (S := fun w' => w'.cell? (ag.add (k * 4)) = some (.string r.name) ∧ w'.cell? ⟨(ag.add (k * 4)).block, (ag.add (k * 4)).off + 1, none⟩ = some (.int .i64 r.typ) ∧ w'.cell? ⟨(ag.add (k * 4)).block, (ag.add (k * 4)).off + 2, none⟩ = some (.int .i64 r.opened) ∧ w'.cell? ⟨(ag.add (k * 4)).block, (ag.add (k * 4)).off + 3, none⟩ = some (.bool r.closed) ∧ w'.cell? (ad.add (k * 4)) = some (.string r.name) ∧ w'.cell? ⟨(ad.add (k * 4)).block, (ad.add (k * 4)).off + 1, none⟩ = some (.int .i64 r.typ) ∧ w'.cell? ⟨(ad.add (k * 4)).block, (ad.add (k * 4)).off + 2, none⟩ = some (.int .i64 r.opened) ∧ w'.cell? ⟨(ad.add (k * 4)).block, (ad.add (k * 4)).off + 3, none⟩ = some (.bool r.closed)) (by kernel_rfl) ?_
        refine wpAnyN_take (i := 0) (v := ?_) rfl (by kernel_rfl) (by kernel_rfl) (by kernel_rfl) (by kernel_rfl) (fun _ _ _ h => h) (Or.inl ⟨by kernel_rfl, ?y1⟩) hHeld ?_
        case y1 =>
          intro w0 hSw
          (try dsimp only at hSw)
          go_simp
          try with_reducible rfl
        try simp only [Act.put, qa15, qb15, qc15, qd15, qe15, qf15]
        refine wpAnyN_take (i := 1) (v := ?_) rfl (by kernel_rfl) (by kernel_rfl) (by kernel_rfl) (by kernel_rfl) (fun _ _ _ h => h) (Or.inl ⟨by kernel_rfl, ?y2⟩) hHeld ?_
        case y2 =>
          intro w0 hSw
          (try dsimp only at hSw)
          go_simp
          try with_reducible rfl
        try simp only [Act.put, qa15, qb15, qc15, qd15, qe15, qf15]
        refine wpAnyN_take (i := 2) (v := ?_) rfl (by kernel_rfl) (by kernel_rfl) (by kernel_rfl) (by kernel_rfl) (fun _ _ _ h => h) (Or.inl ⟨by kernel_rfl, ?y3⟩) hHeld ?_
        case y3 =>
          intro w0 hSw
          (try dsimp only at hSw)
          go_simp
          try with_reducible rfl
        try simp only [Act.put, qa15, qb15, qc15, qd15, qe15, qf15]
        refine wpAnyN_take (i := 3) (v := ?_) rfl (by kernel_rfl) (by kernel_rfl) (by kernel_rfl) (by kernel_rfl) (fun _ _ _ h => h) (Or.inl ⟨by kernel_rfl, ?y4⟩) hHeld ?_
        case y4 =>
          intro w0 hSw
          (try dsimp only at hSw)
          go_simp
          try with_reducible rfl
        try simp only [Act.put, qa15, qb15, qc15, qd15, qe15, qf15]
        try simp only [hd1, hd2, hd3]
        refine wpAnyN_take (i := 4) (v := ?_) rfl (by kernel_rfl) (by kernel_rfl) (by kernel_rfl) (by kernel_rfl) (fun _ _ _ h => h) (Or.inl ⟨by kernel_rfl, ?y5⟩) hHeld ?_
        case y5 =>
          intro w0 hSw
          (try dsimp only at hSw)
          go_simp
          try with_reducible rfl
        try simp only [Act.put, qa15, qb15, qc15, qd15, qe15, qf15]
        refine wpAnyN_take (i := 5) (v := ?_) rfl (by kernel_rfl) (by kernel_rfl) (by kernel_rfl) (by kernel_rfl) (fun _ _ _ h => h) (Or.inl ⟨by kernel_rfl, ?y6⟩) hHeld ?_
        case y6 =>
          intro w0 hSw
          (try dsimp only at hSw)
          go_simp
          try with_reducible rfl
        try simp only [Act.put, qa15, qb15, qc15, qd15, qe15, qf15]
        refine wpAnyN_take (i := 6) (v := ?_) rfl (by kernel_rfl) (by kernel_rfl) (by kernel_rfl) (by kernel_rfl) (fun _ _ _ h => h) (Or.inl ⟨by kernel_rfl, ?y7⟩) hHeld ?_
        case y7 =>
          intro w0 hSw
          (try dsimp only at hSw)
          go_simp
          try with_reducible rfl
        try simp only [Act.put, qa15, qb15, qc15, qd15, qe15, qf15]
        refine wpAnyN_take (i := 7) (v := ?_) rfl (by kernel_rfl) (by kernel_rfl) (by kernel_rfl) (by kernel_rfl) (fun _ _ _ h => h) (Or.inl ⟨by kernel_rfl, ?y8⟩) hHeld ?_
        case y8 =>
          intro w0 hSw
          (try dsimp only at hSw)
          go_simp
          try with_reducible rfl
        try simp only [Act.put, qa15, qb15, qc15, qd15, qe15, qf15]
        refine wpAnyN_take (i := 8) (v := ?_) rfl (by kernel_rfl) (by kernel_rfl) (by kernel_rfl) (by kernel_rfl) (fun _ _ _ h => h) (Or.inl ⟨by kernel_rfl, ?y9⟩) hHeld ?_
        case y9 =>
          intro w0 hSw
          (try dsimp only at hSw)
          go_simp
          try with_reducible rfl
        try simp only [Act.put, qa15, qb15, qc15, qd15, qe15, qf15]
        refine wpAnyN_take (i := 9) (v := ?_) rfl (by kernel_rfl) (by kernel_rfl) (by kernel_rfl) (by kernel_rfl) (fun _ _ _ h => h) (Or.inl ⟨by kernel_rfl, ?y10⟩) hHeld ?_
        case y10 =>
          intro w0 hSw
          (try dsimp only at hSw)
          go_simp
          try with_reducible rfl
        try simp only [Act.put, qa15, qb15, qc15, qd15, qe15, qf15]
        refine wpAnyN_take (i := 10) (v := ?_) rfl (by kernel_rfl) (by kernel_rfl) (by kernel_rfl) (by kernel_rfl) (fun _ _ _ h => h) (Or.inl ⟨by kernel_rfl, ?y11⟩) hHeld ?_
        case y11 =>
          intro w0 hSw
          (try dsimp only at hSw)
          go_simp
          try with_reducible rfl
        try simp only [Act.put, qa15, qb15, qc15, qd15, qe15, qf15]
        refine wpAnyN_take (i := 11) (v := ?_) rfl (by kernel_rfl) (by kernel_rfl) (by kernel_rfl) (by kernel_rfl) (fun _ _ _ h => h) (Or.inl ⟨by kernel_rfl, ?y12⟩) hHeld ?_
        case y12 =>
          intro w0 hSw
          (try dsimp only at hSw)
          go_simp
          try with_reducible rfl
        try simp only [Act.put, qa15, qb15, qc15, qd15, qe15, qf15]
        refine wpAnyN_take (i := 12) (v := ?_) rfl (by kernel_rfl) (by kernel_rfl) (by kernel_rfl) (by kernel_rfl) (fun _ _ _ h => h) (Or.inl ⟨by kernel_rfl, ?y13⟩) hHeld ?_
        case y13 =>
          intro w0 hSw
          (try dsimp only at hSw)
          go_simp
          try with_reducible rfl
        try simp only [Act.put, qa15, qb15, qc15, qd15, qe15, qf15]
        refine wpAnyN_step (i := 13) (by kernel_rfl) rfl (fun K hK => ?_)
        go_simp
        go_at_call 212
        refine (sameAcc_any _ r).mono ?_
        rintro en wn ⟨rfl, hwn⟩
        have hHeld := HS.out wn hwn
        go_wp2_with fail
        refine hK.out _ _ (fun _ => hHeld) ?_
        clear hK K
        try simp only [Act.put, qa15, qb15, qc15, qd15, qe15, qf15]
        refine wpAnyN_take (i := 14) (v := ?_) rfl (by kernel_rfl) (by kernel_rfl) (by kernel_rfl) (by kernel_rfl) (fun _ _ _ h => h) (Or.inl ⟨by kernel_rfl, ?y14⟩) hHeld ?_
        case y14 =>
          intro w0 hSw
          (try dsimp only at hSw)
          go_simp
          try with_reducible rfl
        try simp only [Act.put, qa15, qb15, qc15, qd15, qe15, qf15]
        refine wpAnyN_take (i := 15) (v := ?_) rfl (by kernel_rfl) (by kernel_rfl) (by kernel_rfl) (by kernel_rfl) (fun _ _ _ h => h) (Or.inl ⟨by kernel_rfl, ?y15⟩) hHeld ?_
        case y15 =>
          intro w0 hSw
          (try dsimp only at hSw)
          go_simp
          try with_reducible rfl
        try simp only [Act.put, qa15, qb15, qc15, qd15, qe15, qf15]
        refine wpAnyN_take (i := 16) (v := ?_) rfl (by kernel_rfl) (by kernel_rfl) (by kernel_rfl) (by kernel_rfl) (fun _ _ _ h => h) (Or.inl ⟨by kernel_rfl, ?y16⟩) hHeld ?_
        case y16 =>
          intro w0 hSw
          (try dsimp only at hSw)
          go_simp
          try with_reducible rfl
        try simp only [Act.put, qa15, qb15, qc15, qd15, qe15, qf15]
        refine wpAnyN_take (i := 17) (v := ?_) rfl (by kernel_rfl) (by kernel_rfl) (by kernel_rfl) (by kernel_rfl) (fun _ _ _ h => h) (Or.inl ⟨by kernel_rfl, ?y17⟩) hHeld ?_
        case y17 =>
          intro w0 hSw
          (try dsimp only at hSw)
          go_simp
          try with_reducible rfl
        try simp only [Act.put, qa15, qb15, qc15, qd15, qe15, qf15]
        refine wpAnyN_take (i := 18) (v := ?_) rfl (by kernel_rfl) (by kernel_rfl) (by kernel_rfl) (by kernel_rfl) (fun _ _ _ h => h) (Or.inl ⟨by kernel_rfl, ?y18⟩) hHeld ?_
        case y18 =>
          intro w0 hSw
          (try dsimp only at hSw)
          go_simp
          try with_reducible rfl
        try simp only [Act.put, qa15, qb15, qc15, qd15, qe15, qf15]
        refine wpAnyN_take (i := 19) (v := ?_) rfl (by kernel_rfl) (by kernel_rfl) (by kernel_rfl) (by kernel_rfl) (fun _ _ _ h => h) (Or.inl ⟨by kernel_rfl, ?y19⟩) hHeld ?_
        case y19 =>
          intro w0 hSw
          (try dsimp only at hSw)
          go_simp
          try with_reducible rfl
        try simp only [Act.put, qa15, qb15, qc15, qd15, qe15, qf15]
        refine wpAnyN_take (i := 20) (v := ?_) rfl (by kernel_rfl) (by kernel_rfl) (by kernel_rfl) (by kernel_rfl) (fun _ _ _ h => h) (Or.inl ⟨by kernel_rfl, ?y20⟩) hHeld ?_
        case y20 =>
          intro w0 hSw
          (try dsimp only at hSw)
          go_simp
          try with_reducible rfl
        try simp only [Act.put, qa15, qb15, qc15, qd15, qe15, qf15]
        try simp only [hd1, hd2, hd3]
        refine wpAnyN_take (i := 21) (v := ?_) rfl (by kernel_rfl) (by kernel_rfl) (by kernel_rfl) (by kernel_rfl) (fun _ _ _ h => h) (Or.inl ⟨by kernel_rfl, ?y21⟩) hHeld ?_
        case y21 =>
          intro w0 hSw
          (try dsimp only at hSw)
          go_simp
          try with_reducible rfl
        try simp only [Act.put, qa15, qb15, qc15, qd15, qe15, qf15]
        refine wpAnyN_take (i := 22) (v := undef) rfl (by kernel_rfl) (by kernel_rfl) (by kernel_rfl) (by kernel_rfl) (fun _ _ _ h => h) (Or.inr ⟨by kernel_rfl, rfl⟩) hHeld ?_
        try simp only [Act.put, qa15, qb15, qc15, qd15, qe15, qf15]
        refine wpAnyN_take (i := 23) (v := undef) rfl (by kernel_rfl) (by kernel_rfl) (by kernel_rfl) (by kernel_rfl) (fun _ _ _ h => h) (Or.inr ⟨by kernel_rfl, rfl⟩) hHeld ?_
        try simp only [Act.put, qa15, qb15, qc15, qd15, qe15, qf15]
        refine wpAnyN_take (i := 24) (v := undef) rfl (by kernel_rfl) (by kernel_rfl) (by kernel_rfl) (by kernel_rfl) (fun _ _ _ h => h) (Or.inr ⟨by kernel_rfl, rfl⟩) hHeld ?_
        try simp only [Act.put, qa15, qb15, qc15, qd15, qe15, qf15]
        refine wpAnyN_take (i := 25) (v := undef) rfl (by kernel_rfl) (by kernel_rfl) (by kernel_rfl) (by kernel_rfl) (fun _ _ _ h => h) (Or.inr ⟨by kernel_rfl, rfl⟩) hHeld ?_
        try simp only [Act.put, qa15, qb15, qc15, qd15, qe15, qf15]
        refine wpAnyN_take (i := 26) (v := undef) rfl (by kernel_rfl) (by kernel_rfl) (by kernel_rfl) (by kernel_rfl) (fun _ _ _ h => h) (Or.inr ⟨by kernel_rfl, rfl⟩) hHeld ?_
        try simp only [Act.put, qa15, qb15, qc15, qd15, qe15, qf15]
        refine wpAnyN_take (i := 27) (v := undef) rfl (by kernel_rfl) (by kernel_rfl) (by kernel_rfl) (by kernel_rfl) (fun _ _ _ h => h) (Or.inr ⟨by kernel_rfl, rfl⟩) hHeld ?_
        try simp only [Act.put, qa15, qb15, qc15, qd15, qe15, qf15]
        refine wpAnyN_take (i := 28) (v := undef) rfl (by kernel_rfl) (by kernel_rfl) (by kernel_rfl) (by kernel_rfl) (fun _ _ _ h => h) (Or.inr ⟨by kernel_rfl, rfl⟩) hHeld ?_
        try simp only [Act.put, qa15, qb15, qc15, qd15, qe15, qf15]
        refine wpAnyN_take (i := 29) (v := undef) rfl (by kernel_rfl) (by kernel_rfl) (by kernel_rfl) (by kernel_rfl) (fun _ _ _ h => h) (Or.inr ⟨by kernel_rfl, rfl⟩) hHeld ?_
        try simp only [Act.put, qa15, qb15, qc15, qd15, qe15, qf15]
        refine wpAnyN_take (i := 30) (v := undef) rfl (by kernel_rfl) (by kernel_rfl) (by kernel_rfl) (by kernel_rfl) (fun _ _ _ h => h) (Or.inr ⟨by kernel_rfl, rfl⟩) hHeld ?_
        try simp only [Act.put, qa15, qb15, qc15, qd15, qe15, qf15]
        refine wpAnyN_take (i := 31) (v := undef) rfl (by kernel_rfl) (by kernel_rfl) (by kernel_rfl) (by kernel_rfl) (fun _ _ _ h => h) (Or.inr ⟨by kernel_rfl, rfl⟩) hHeld ?_
        try simp only [Act.put, qa15, qb15, qc15, qd15, qe15, qf15]
        refine wpAnyN_take (i := 32) (v := undef) rfl (by kernel_rfl) (by kernel_rfl) (by kernel_rfl) (by kernel_rfl) (fun _ _ _ h => h) (Or.inr ⟨by kernel_rfl, rfl⟩) hHeld ?_
        try simp only [Act.put, qa15, qb15, qc15, qd15, qe15, qf15]
        refine wpAnyN_take (i := 33) (v := ?_) rfl (by kernel_rfl) (by kernel_rfl) (by kernel_rfl) (by kernel_rfl) (fun _ _ _ h => h) (Or.inl ⟨by kernel_rfl, ?y22⟩) hHeld ?_
        case y22 =>
          intro w0 hSw
          (try dsimp only at hSw)
          go_simp
          try with_reducible rfl
        try simp only [Act.put, qa15, qb15, qc15, qd15, qe15, qf15]
        refine wpAnyN_take (i := 34) (v := ?_) rfl (by kernel_rfl) (by kernel_rfl) (by kernel_rfl) (by kernel_rfl) (fun _ _ _ h => h) (Or.inl ⟨by kernel_rfl, ?y23⟩) hHeld ?_
        case y23 =>
          intro w0 hSw
          (try dsimp only at hSw)
          go_simp
          try with_reducible rfl
        try simp only [Act.put, qa15, qb15, qc15, qd15, qe15, qf15]
        refine wpAnyN_done (by kernel_rfl) ?_ _
        have hbz := HUP.out _ hwn
        go_wp2
        go_roundw
        case rel => exact ⟨k + 1, by go_num, by omega, by repeat (first | exact hbz | refine below_drewN ?_ _)⟩
        case measure => simpa [intOf] using hmu
      · rw [rmA_new l k (by omega)] at hcg
        have hwd := wrap_down l.length k (by omega) (by omega)
        have hwd' := wrap_down' l.length k (by omega) (by omega)
        have HS := Lib.hid (fun W (hb : Below wr.drew.heap.size wr.drew W) => (show W.cell? (ag.add (k * 4)) = some (.string (markA 700000 ((k : Int) - (l.length : Int))).name) ∧ W.cell? ⟨(ag.add (k * 4)).block, (ag.add (k * 4)).off + 1, none⟩ = some (.int .i64 (markA 700000 ((k : Int) - (l.length : Int))).typ) ∧ W.cell? ⟨(ag.add (k * 4)).block, (ag.add (k * 4)).off + 2, none⟩ = some (.int .i64 (markA 700000 ((k : Int) - (l.length : Int))).opened) ∧ W.cell? ⟨(ag.add (k * 4)).block, (ag.add (k * 4)).off + 3, none⟩ = some (.bool (markA 700000 ((k : Int) - (l.length : Int))).closed) from by
          obtain ⟨x0, x1, x2, x3⟩ := hKB W (HUP.out W hb) hgb hcg
          exact ⟨x0, x1, x2, x3⟩))
        have hHeld := HS.out wr.drew (Below.refl _ _)
        have hlk' : ¬ (k : Int) < (l.length : Int) := by omega
        have hlk2 : (l.length : Int) ≤ (k : Int) := by omega
        have hd1 : decide ((k : Int) < (l.length : Int)) = false := decide_eq_false hlk'
        have hd2 : decide ((l.length : Int) ≤ (k : Int)) = true := decide_eq_true hlk2
        have hd3 : decide (l.length ≤ k) = true := decide_eq_true (by omega)
        have hmk := markAcc_any wr.drew (HP.out.below (HUP.out _ (Below.refl _ _))) 700000 ((k : Int) - (l.length : Int)) ⟨by omega, by omega⟩ ⟨by omega, by omega⟩
        unfold accV at hmk
        clear hcg hgb hKB
        go_wp2
        refine wp_region_n (n := 35) (S := fun w' => w'.cell? (ag.add (k * 4)) = some (.string (markA 700000 ((k : Int) - (l.length : Int))).name) ∧ w'.cell? ⟨(ag.add (k * 4)).block, (ag.add (k * 4)).off + 1, none⟩ = some (.int .i64 (markA 700000 ((k : Int) - (l.length : Int))).typ) ∧ w'.cell? ⟨(ag.add (k * 4)).block, (ag.add (k * 4)).off + 2, none⟩ = some (.int .i64 (markA 700000 ((k : Int) - (l.length : Int))).opened) ∧ w'.cell? ⟨(ag.add (k * 4)).block, (ag.add (k * 4)).off + 3, none⟩ = some (.bool (markA 700000 ((k : Int) - (l.length : Int))).closed)) (by kernel_rfl) ?_
        refine wpAnyN_take (i := 0) (v := ?_) rfl (by kernel_rfl) (by kernel_rfl) (by kernel_rfl) (by kernel_rfl) (fun _ _ _ h => h) (Or.inl ⟨by kernel_rfl, ?y24⟩) hHeld ?_
        case y24 =>
          intro w0 hSw
          (try dsimp only at hSw)
          go_simp
          try with_reducible rfl
        try simp only [Act.put, qa15, qb15, qc15, qd15, qe15, qf15]
        refine wpAnyN_take (i := 1) (v := ?_) rfl (by kernel_rfl) (by kernel_rfl) (by kernel_rfl) (by kernel_rfl) (fun _ _ _ h => h) (Or.inl ⟨by kernel_rfl, ?y25⟩) hHeld ?_
        case y25 =>
          intro w0 hSw
          (try dsimp only at hSw)
          go_simp
          try with_reducible rfl
        try simp only [Act.put, qa15, qb15, qc15, qd15, qe15, qf15]
        refine wpAnyN_take (i := 2) (v := ?_) rfl (by kernel_rfl) (by kernel_rfl) (by kernel_rfl) (by kernel_rfl) (fun _ _ _ h => h) (Or.inl ⟨by kernel_rfl, ?y26⟩) hHeld ?_
        case y26 =>
          intro w0 hSw
          (try dsimp only at hSw)
          go_simp
          try with_reducible rfl
        try simp only [Act.put, qa15, qb15, qc15, qd15, qe15, qf15]
        refine wpAnyN_take (i := 3) (v := ?_) rfl (by kernel_rfl) (by kernel_rfl) (by kernel_rfl) (by kernel_rfl) (fun _ _ _ h => h) (Or.inl ⟨by kernel_rfl, ?y27⟩) hHeld ?_
        case y27 =>
          intro w0 hSw
          (try dsimp only at hSw)
          go_simp
          try with_reducible rfl
        try simp only [Act.put, qa15, qb15, qc15, qd15, qe15, qf15]
        try simp only [hd1, hd2, hd3]
        refine wpAnyN_take (i := 4) (v := ?_) rfl (by kernel_rfl) (by kernel_rfl) (by kernel_rfl) (by kernel_rfl) (fun _ _ _ h => h) (Or.inl ⟨by kernel_rfl, ?y28⟩) hHeld ?_
        case y28 =>
          intro w0 hSw
          (try dsimp only at hSw)
          go_simp
          try with_reducible rfl
        try simp only [Act.put, qa15, qb15, qc15, qd15, qe15, qf15]
        refine wpAnyN_take (i := 5) (v := undef) rfl (by kernel_rfl) (by kernel_rfl) (by kernel_rfl) (by kernel_rfl) (fun _ _ _ h => h) (Or.inr ⟨by kernel_rfl, rfl⟩) hHeld ?_
        try simp only [Act.put, qa15, qb15, qc15, qd15, qe15, qf15]
        refine wpAnyN_take (i := 6) (v := undef) rfl (by kernel_rfl) (by kernel_rfl) (by kernel_rfl) (by kernel_rfl) (fun _ _ _ h => h) (Or.inr ⟨by kernel_rfl, rfl⟩) hHeld ?_
        try simp only [Act.put, qa15, qb15, qc15, qd15, qe15, qf15]
        refine wpAnyN_take (i := 7) (v := undef) rfl (by kernel_rfl) (by kernel_rfl) (by kernel_rfl) (by kernel_rfl) (fun _ _ _ h => h) (Or.inr ⟨by kernel_rfl, rfl⟩) hHeld ?_
        try simp only [Act.put, qa15, qb15, qc15, qd15, qe15, qf15]
        refine wpAnyN_take (i := 8) (v := undef) rfl (by kernel_rfl) (by kernel_rfl) (by kernel_rfl) (by kernel_rfl) (fun _ _ _ h => h) (Or.inr ⟨by kernel_rfl, rfl⟩) hHeld ?_
        try simp only [Act.put, qa15, qb15, qc15, qd15, qe15, qf15]
        refine wpAnyN_take (i := 9) (v := undef) rfl (by kernel_rfl) (by kernel_rfl) (by kernel_rfl) (by kernel_rfl) (fun _ _ _ h => h) (Or.inr ⟨by kernel_rfl, rfl⟩) hHeld ?_
        try simp only [Act.put, qa15, qb15, qc15, qd15, qe15, qf15]
        refine wpAnyN_take (i := 10) (v := undef) rfl (by kernel_rfl) (by kernel_rfl) (by kernel_rfl) (by kernel_rfl) (fun _ _ _ h => h) (Or.inr ⟨by kernel_rfl, rfl⟩) hHeld ?_
        try simp only [Act.put, qa15, qb15, qc15, qd15, qe15, qf15]
        refine wpAnyN_take (i := 11) (v := undef) rfl (by kernel_rfl) (by kernel_rfl) (by kernel_rfl) (by kernel_rfl) (fun _ _ _ h => h) (Or.inr ⟨by kernel_rfl, rfl⟩) hHeld ?_
        try simp only [Act.put, qa15, qb15, qc15, qd15, qe15, qf15]
        refine wpAnyN_take (i := 12) (v := undef) rfl (by kernel_rfl) (by kernel_rfl) (by kernel_rfl) (by kernel_rfl) (fun _ _ _ h => h) (Or.inr ⟨by kernel_rfl, rfl⟩) hHeld ?_
        try simp only [Act.put, qa15, qb15, qc15, qd15, qe15, qf15]
        refine wpAnyN_take (i := 13) (v := undef) rfl (by kernel_rfl) (by kernel_rfl) (by kernel_rfl) (by kernel_rfl) (fun _ _ _ h => h) (Or.inr ⟨by kernel_rfl, rfl⟩) hHeld ?_
        try simp only [Act.put, qa15, qb15, qc15, qd15, qe15, qf15]
        refine wpAnyN_take (i := 14) (v := undef) rfl (by kernel_rfl) (by kernel_rfl) (by kernel_rfl) (by kernel_rfl) (fun _ _ _ h => h) (Or.inr ⟨by kernel_rfl, rfl⟩) hHeld ?_
        try simp only [Act.put, qa15, qb15, qc15, qd15, qe15, qf15]
        refine wpAnyN_take (i := 15) (v := ?_) rfl (by kernel_rfl) (by kernel_rfl) (by kernel_rfl) (by kernel_rfl) (fun _ _ _ h => h) (Or.inl ⟨by kernel_rfl, ?y29⟩) hHeld ?_
        case y29 =>
          intro w0 hSw
          (try dsimp only at hSw)
          go_simp
          try with_reducible rfl
        try simp only [Act.put, qa15, qb15, qc15, qd15, qe15, qf15]
        refine wpAnyN_take (i := 16) (v := ?_) rfl (by kernel_rfl) (by kernel_rfl) (by kernel_rfl) (by kernel_rfl) (fun _ _ _ h => h) (Or.inl ⟨by kernel_rfl, ?y30⟩) hHeld ?_
        case y30 =>
          intro w0 hSw
          (try dsimp only at hSw)
          go_simp
          try with_reducible rfl
        try simp only [Act.put, qa15, qb15, qc15, qd15, qe15, qf15]
        refine wpAnyN_take (i := 17) (v := ?_) rfl (by kernel_rfl) (by kernel_rfl) (by kernel_rfl) (by kernel_rfl) (fun _ _ _ h => h) (Or.inl ⟨by kernel_rfl, ?y31⟩) hHeld ?_
        case y31 =>
          intro w0 hSw
          (try dsimp only at hSw)
          go_simp
          try with_reducible rfl
        try simp only [Act.put, qa15, qb15, qc15, qd15, qe15, qf15]
        refine wpAnyN_take (i := 18) (v := ?_) rfl (by kernel_rfl) (by kernel_rfl) (by kernel_rfl) (by kernel_rfl) (fun _ _ _ h => h) (Or.inl ⟨by kernel_rfl, ?y32⟩) hHeld ?_
        case y32 =>
          intro w0 hSw
          (try dsimp only at hSw)
          go_simp
          try with_reducible rfl
        try simp only [Act.put, qa15, qb15, qc15, qd15, qe15, qf15]
        refine wpAnyN_take (i := 19) (v := ?_) rfl (by kernel_rfl) (by kernel_rfl) (by kernel_rfl) (by kernel_rfl) (fun _ _ _ h => h) (Or.inl ⟨by kernel_rfl, ?y33⟩) hHeld ?_
        case y33 =>
          intro w0 hSw
          (try dsimp only at hSw)
          go_simp
          try with_reducible rfl
        try simp only [Act.put, qa15, qb15, qc15, qd15, qe15, qf15]
        refine wpAnyN_take (i := 20) (v := ?_) rfl (by kernel_rfl) (by kernel_rfl) (by kernel_rfl) (by kernel_rfl) (fun _ _ _ h => h) (Or.inl ⟨by kernel_rfl, ?y34⟩) hHeld ?_
        case y34 =>
          intro w0 hSw
          (try dsimp only at hSw)
          go_simp
          try with_reducible rfl
        try simp only [Act.put, qa15, qb15, qc15, qd15, qe15, qf15]
        try simp only [hd1, hd2, hd3]
        refine wpAnyN_take (i := 21) (v := ?_) rfl (by kernel_rfl) (by kernel_rfl) (by kernel_rfl) (by kernel_rfl) (fun _ _ _ h => h) (Or.inl ⟨by kernel_rfl, ?y35⟩) hHeld ?_
        case y35 =>
          intro w0 hSw
          (try dsimp only at hSw)
          go_simp
          try with_reducible rfl
        try simp only [Act.put, qa15, qb15, qc15, qd15, qe15, qf15]
        refine wpAnyN_take (i := 22) (v := ?_) rfl (by kernel_rfl) (by kernel_rfl) (by kernel_rfl) (by kernel_rfl) (fun _ _ _ h => h) (Or.inl ⟨by kernel_rfl, ?y36⟩) hHeld ?_
        case y36 =>
          intro w0 hSw
          (try dsimp only at hSw)
          go_simp
          try with_reducible rfl
        try simp only [Act.put, qa15, qb15, qc15, qd15, qe15, qf15]
        refine wpAnyN_take (i := 23) (v := ?_) rfl (by kernel_rfl) (by kernel_rfl) (by kernel_rfl) (by kernel_rfl) (fun _ _ _ h => h) (Or.inl ⟨by kernel_rfl, ?y37⟩) hHeld ?_
        case y37 =>
          intro w0 hSw
          (try dsimp only at hSw)
          go_simp
          try with_reducible rfl
        try simp only [Act.put, qa15, qb15, qc15, qd15, qe15, qf15]
        refine wpAnyN_take (i := 24) (v := ?_) rfl (by kernel_rfl) (by kernel_rfl) (by kernel_rfl) (by kernel_rfl) (fun _ _ _ h => h) (Or.inl ⟨by kernel_rfl, ?y38⟩) hHeld ?_
        case y38 =>
          intro w0 hSw
          (try dsimp only at hSw)
          go_simp
          try with_reducible rfl
        try simp only [Act.put, qa15, qb15, qc15, qd15, qe15, qf15]
        refine wpAnyN_take (i := 25) (v := ?_) rfl (by kernel_rfl) (by kernel_rfl) (by kernel_rfl) (by kernel_rfl) (fun _ _ _ h => h) (Or.inl ⟨by kernel_rfl, ?y39⟩) hHeld ?_
        case y39 =>
          intro w0 hSw
          (try dsimp only at hSw)
          go_simp
          try with_reducible rfl
        try simp only [Act.put, qa15, qb15, qc15, qd15, qe15, qf15]
        refine wpAnyN_take (i := 26) (v := ?_) rfl (by kernel_rfl) (by kernel_rfl) (by kernel_rfl) (by kernel_rfl) (fun _ _ _ h => h) (Or.inl ⟨by kernel_rfl, ?y40⟩) hHeld ?_
        case y40 =>
          intro w0 hSw
          (try dsimp only at hSw)
          go_simp
          try with_reducible rfl
        try simp only [Act.put, qa15, qb15, qc15, qd15, qe15, qf15]
        refine wpAnyN_take (i := 27) (v := ?_) rfl (by kernel_rfl) (by kernel_rfl) (by kernel_rfl) (by kernel_rfl) (fun _ _ _ h => h) (Or.inl ⟨by kernel_rfl, ?y41⟩) hHeld ?_
        case y41 =>
          intro w0 hSw
          (try dsimp only at hSw)
          go_simp
          try with_reducible rfl
        try simp only [Act.put, qa15, qb15, qc15, qd15, qe15, qf15]
        refine wpAnyN_take (i := 28) (v := ?_) rfl (by kernel_rfl) (by kernel_rfl) (by kernel_rfl) (by kernel_rfl) (fun _ _ _ h => h) (Or.inl ⟨by kernel_rfl, ?y42⟩) hHeld ?_
        case y42 =>
          intro w0 hSw
          (try dsimp only at hSw)
          go_simp
          try with_reducible rfl
        try simp only [Act.put, qa15, qb15, qc15, qd15, qe15, qf15]
        refine wpAnyN_take (i := 29) (v := ?_) rfl (by kernel_rfl) (by kernel_rfl) (by kernel_rfl) (by kernel_rfl) (fun _ _ _ h => h) (Or.inl ⟨by kernel_rfl, ?y43⟩) hHeld ?_
        case y43 =>
          intro w0 hSw
          (try dsimp only at hSw)
          go_simp
          try with_reducible rfl
        try simp only [Act.put, qa15, qb15, qc15, qd15, qe15, qf15]
        refine wpAnyN_step (i := 30) (by kernel_rfl) rfl (fun K hK => ?_)
        go_simp
        go_at_call 196
        refine (hmk).mono ?_
        rintro en wx ⟨rfl, hbx⟩
        have hHeld := HS.out wx hbx
        clear hmk
        go_wp2_with fail
        refine hK.out _ _ (fun _ => hHeld) ?_
        clear hK K
        try simp only [Act.put, qa15, qb15, qc15, qd15, qe15, qf15]
        refine wpAnyN_step (i := 31) (by kernel_rfl) rfl (fun K hK => ?_)
        go_simp
        go_at_call 212
        refine (sameAcc_any _ (markA 700000 ((k : Int) - (l.length : Int)))).mono ?_
        rintro en wn ⟨rfl, hwn⟩
        have hHeld := HS.out wn (hbx.trans (hwn.mono hbx.size))
        go_wp2_with fail
        refine hK.out _ _ (fun _ => hHeld) ?_
        clear hK K
        try simp only [Act.put, qa15, qb15, qc15, qd15, qe15, qf15]
        refine wpAnyN_take (i := 32) (v := ?_) rfl (by kernel_rfl) (by kernel_rfl) (by kernel_rfl) (by kernel_rfl) (fun _ _ _ h => h) (Or.inl ⟨by kernel_rfl, ?y44⟩) hHeld ?_
        case y44 =>
          intro w0 hSw
          (try dsimp only at hSw)
          go_simp
          try with_reducible rfl
        try simp only [Act.put, qa15, qb15, qc15, qd15, qe15, qf15]
        refine wpAnyN_take (i := 33) (v := ?_) rfl (by kernel_rfl) (by kernel_rfl) (by kernel_rfl) (by kernel_rfl) (fun _ _ _ h => h) (Or.inl ⟨by kernel_rfl, ?y45⟩) hHeld ?_
        case y45 =>
          intro w0 hSw
          (try dsimp only at hSw)
          go_simp
          try with_reducible rfl
        try simp only [Act.put, qa15, qb15, qc15, qd15, qe15, qf15]
        refine wpAnyN_take (i := 34) (v := ?_) rfl (by kernel_rfl) (by kernel_rfl) (by kernel_rfl) (by kernel_rfl) (fun _ _ _ h => h) (Or.inl ⟨by kernel_rfl, ?y46⟩) hHeld ?_
        case y46 =>
          intro w0 hSw
          (try dsimp only at hSw)
          go_simp
          try with_reducible rfl
        try simp only [Act.put, qa15, qb15, qc15, qd15, qe15, qf15]
        refine wpAnyN_done (by kernel_rfl) ?_ _
        have hbz := HUP.out _ (hbx.trans (hwn.mono hbx.size))
        go_wp2
        go_roundw
        case rel => exact ⟨k + 1, by go_num, by omega, by repeat (first | exact hbz | refine below_drewN ?_ _)⟩
        case measure => simpa [intOf] using hmu
    · obtain rfl : k = l.length + 64 := by omega
      go_wp2
      go_ret
      exact ⟨rfl, hbr⟩
end Go.Proofs.YtplocldnklccfaaGreatDoor
namespace Go.Proofs.YtplocldnklccfaaGreatDoor
open Go.RowKit
set_option linter.unusedVariables false
set_option linter.unusedSimpArgs false

theorem refNew_any (w : World) : Calls Tryz.prog 74 #[] w fun e w' => e = .returned (.pointer (some ⟨w.heap.size, 0, none⟩)) ∧ RefAt w' (fun q => q = w.heap.size) w.heap.size [] ∧ w'.heap.size = w.heap.size + 1 ∧ Below w.heap.size w w' := by
  go_enter Tryz.func74, Tryz.ntmps74
  go_wp2
  go_ret
  exact ⟨rfl, ⟨none, 0, World.alloc_heap_new w _, World.ownsRow_nil _ _ _ _, rfl, fun q hq => (by cases hq), fun q hq => (by cases hq), Nat.zero_le _⟩, by simp, bel1 w _⟩

/-- A chart's blocks are blocks that there are. -/
theorem ChartAt.cut {w : World} {F : Nat → Prop} {cb : Nat} {L : List Acct} (h : ChartAt w F cb L) : ChartAt w (fun q => F q ∧ q < w.heap.size) cb L := by
  obtain ⟨mb, rv, nb, kv, ps, h⟩ := h
  exact ⟨mb, rv, nb, kv, ps, { h with
    fC := ⟨h.fC, heap_lt h.hC⟩
    fM := ⟨h.fM, h.hM.lt⟩
    fN := fun a ha => ⟨h.fN a ha, heap_lt (h.hN a ha)⟩
    fK := fun a ha k e => ⟨h.fK a ha k e, ((h.hK a ha).lt k e).2⟩
    fR := fun k e => ⟨h.fR k e, (h.hR.lt k e).2⟩ }⟩

def zA : Acct := ⟨⟨#[90]⟩, 1, 1, false⟩
def zL (n : Nat) : List Acct := List.replicate n zA
theorem zL_len (n : Nat) : (zL n).length = n := List.length_replicate
theorem zL_get (n m : Nat) (h : n ≤ m) : ∀ j (hj : j < (zL n).length), (zL m)[j]? = some (zL n)[j] := fun j hj => by
  have hj2 : j < (zL m).length := by rw [zL_len] at hj ⊢; omega
  have e1 : (zL m)[j] = zA := List.eq_of_mem_replicate (List.getElem_mem hj2)
  have e2 : (zL n)[j] = zA := List.eq_of_mem_replicate (List.getElem_mem hj)
  rw [List.getElem?_eq_getElem hj2, e1, e2]
theorem zL_size (n : Nat) : ∀ a ∈ zL n, a.name.size ≤ 1048576 := fun a ha => by
  obtain rfl := List.eq_of_mem_replicate ha
  decide
theorem encs4 (l : List Acct) : ∀ x ∈ l.map encA, x.length = 4 := fun x hx => by
  obtain ⟨a, _, rfl⟩ := List.mem_map.1 hx
  rfl
/-- What is overwritten up to k. -/
def zUp (l : List Acct) (k : Nat) : List Acct := zL k ++ l.drop k
theorem zUp_len (l : List Acct) (k : Nat) (h : k ≤ l.length) : (zUp l k).length = l.length := by unfold zUp; rw [List.length_append, zL_len, List.length_drop]; omega
theorem zUp_set (l : List Acct) (k : Nat) (h : k < l.length) : ((zUp l k).map encA).set k (encA zA) = (zUp l (k + 1)).map encA := by
  rw [← List.map_set]
  congr 1
  unfold zUp
  rw [List.set_append, if_neg (by rw [zL_len]; omega), zL_len, Nat.sub_self, List.drop_eq_getElem_cons h, List.set_cons_zero]
  unfold zL
  rw [List.replicate_succ', List.append_assoc, List.singleton_append]

theorem accN_own {w : World} {B n cap g : Nat} {X : List Acct} (h : w.ownsRow B 159 4 (.slice (some ⟨g, 0, none⟩) n cap) n (X.map encA).flatten) (hX : X.length = n) : AccN w (some ⟨g, 0, none⟩) X := by
  subst hX
  refine AccN.of_row (R := fun _ => True) (n := X.length) (c := cap) (RowAt.of_own (by rw [List.length_map]; exact h) (encs4 X) fun _ _ => trivial)
theorem rowA_own {w : World} {B n cap g : Nat} {X L : List Acct} (h : w.ownsRow B 159 4 (.slice (some ⟨g, 0, none⟩) n cap) n (X.map encA).flatten) (hX : X.length = n) (hL : ∀ j (hj : j < L.length), X[j]? = some L[j]) : RowA w g L := by
  have hN := accN_own h hX
  have hg := (h.lt g rfl).2
  have hr : ∀ j (hj : j < L.length), E4 w ⟨g, j * 4, none⟩ L[j] := fun j hj => by
    obtain ⟨hjX, e⟩ := List.getElem?_eq_some_iff.1 (hL j hj)
    obtain ⟨ad, e1, _, h4⟩ := hN j hjX
    cases e1
    rw [Addr.add_lit, e, Nat.zero_add] at h4
    exact h4
  exact ⟨hg, fun j hj => (hr j hj).1, fun j hj => (hr j hj).2.1, fun j hj => (hr j hj).2.2.1, fun j hj => (hr j hj).2.2.2⟩
theorem accAt_row {w : World} {g cap : Nat} {L : List Acct} (h : RowA w g L) : AccAt w (.slice (some ⟨g, 0, none⟩) L.length cap) L :=
  ⟨some ⟨g, 0, none⟩, cap, rfl, fun n c e => (by cases e), fun j hj => ⟨⟨g, 0, none⟩, rfl, h.lt, by rw [Addr.add_lit, Nat.zero_add]; exact h.c0 j hj, by rw [Addr.add_lit, Addr.add_lit, Nat.zero_add]; exact h.c1 j hj, by rw [Addr.add_lit, Addr.add_lit, Nat.zero_add]; exact h.c2 j hj, by rw [Addr.add_lit, Addr.add_lit, Nat.zero_add]; exact h.c3 j hj⟩⟩
theorem AccAt.accN {w : World} {A : Option Addr} {n c : Nat} {l : List Acct} (h : AccAt w (.slice A n c) l) : AccN w A l := AccN.of_row h.row

/-- chart.From, of a valid list, of another. -/
theorem From_yes (b c : Nat) (L : List Acct) (hle : L.length ≤ 1048576) (hns : ∀ a ∈ L, a.name.size ≤ 1048576) (hv : Valid L) (w : World) (hrow : RowA w b L) :
    Calls Tryz.prog 147 #[.slice (some ⟨b, 0, none⟩) L.length c] w fun e w' => ∃ cb F, e = .returned (.tuple #[.pointer (some ⟨cb, 0, none⟩), .int .i64 0]) ∧ Below w.heap.size w w' ∧ ChartAt w' F cb L ∧ ∀ x, F x → w.heap.size ≤ x ∧ x < w'.heap.size :=
  (From_gen b c L hle hns w hrow).mono fun e w' ⟨p, n, he, hb, hd⟩ => by
    rcases hd with ⟨_, rfl, cb, F, rfl, hc, hF⟩ | ⟨h, _⟩
    · exact ⟨cb, _, he, hb, hc.cut, fun x hx => ⟨hF x hx.1, hx.2⟩⟩
    · exact absurd hv h
theorem From_no (b c : Nat) (L : List Acct) (hle : L.length ≤ 1048576) (hns : ∀ a ∈ L, a.name.size ≤ 1048576) (hv : ¬ Valid L) (w : World) (hrow : RowA w b L) :
    Calls Tryz.prog 147 #[.slice (some ⟨b, 0, none⟩) L.length c] w fun e w' => e = .returned (.tuple #[.pointer none, .int .i64 67]) ∧ Below w.heap.size w w' :=
  (From_gen b c L hle hns w hrow).mono fun e w' ⟨p, n, he, hb, hd⟩ => by
    rcases hd with ⟨h, _⟩ | ⟨_, rfl, rfl⟩
    · exact absurd h hv
    · exact ⟨he, hb⟩
theorem refFrom_yes {w : World} {v : Value} {l : List Acct} (h : AccAt w v l) (hle : l.length ≤ 1048576) (hs : ∀ a ∈ l, a.name.size ≤ 1048576) (hv : Valid l) :
    Calls Tryz.prog 148 #[v] w fun e w' => ∃ rb R, e = .returned (.tuple #[.pointer (some ⟨rb, 0, none⟩), .int .i64 0]) ∧ Below w.heap.size w w' ∧ RefAt w' R rb l ∧ ∀ x, R x → w.heap.size ≤ x ∧ x < w'.heap.size :=
  (refFrom_any h hle hs).mono fun e w' ⟨p, n, he, hb, hd⟩ => by
    rcases hd with ⟨_, rfl, rb, R, rfl, hc, hF⟩ | ⟨h, _⟩
    · exact ⟨rb, R, he, hb, hc, hF⟩
    · exact absurd hv h
theorem refFrom_no {w : World} {v : Value} {l : List Acct} (h : AccAt w v l) (hle : l.length ≤ 1048576) (hs : ∀ a ∈ l, a.name.size ≤ 1048576) (hv : ¬ Valid l) :
    Calls Tryz.prog 148 #[v] w fun e w' => e = .returned (.tuple #[.pointer none, .int .i64 67]) ∧ Below w.heap.size w w' :=
  (refFrom_any h hle hs).mono fun e w' ⟨p, n, he, hb, hd⟩ => by
    rcases hd with ⟨h, _⟩ | ⟨_, rfl, rfl⟩
    · exact absurd h hv
    · exact ⟨he, hb⟩

structure OverInv (w4 : World) (B g cap : Nat) (l : List Acct) (i : Value) (wr : World) (k : Nat) : Prop where
  le : k ≤ l.length
  at_ : i = .int .i64 (k : Int)
  own : wr.ownsRow B 159 4 (.slice (some ⟨g, 0, none⟩) l.length cap) l.length ((zUp l k).map encA).flatten
  ch : Ch (fun q => q = g) w4 wr
theorem over_step {w4 wr : World} {B g cap k : Nat} {l : List Acct} {i i' : Value} (h : OverInv w4 B g cap l i wr k) (hk : k < l.length) (hi : i' = .int .i64 (((k + 1 : Nat)) : Int)) : OverInv w4 B g cap l i' (set4 wr g k zA) (k + 1) := by
  have hl := zUp_len l k (Nat.le_of_lt hk)
  have hfin := set4_own h.own (g := g) rfl (encs4 _) k (by rw [List.length_map, hl]; exact hk) zA
  rw [zUp_set l k hk] at hfin
  exact ⟨hk, hi, hfin, set4_ch h.ch (lb := g) rfl k zA⟩

/-- A side that was made. -/
def SideNew (w : World) (e : Ending) (w' : World) : Prop := ∃ cb rb F R L, e = .returned (.tuple #[.agg #[.pointer (some ⟨cb, 0, none⟩), .pointer (some ⟨rb, 0, none⟩)], .bool true]) ∧ SideAt w' cb rb F R L ∧ (∀ q, F q ∨ R q → w.heap.size ≤ q) ∧ Below w.heap.size w w'
end Go.Proofs.YtplocldnklccfaaGreatDoor
namespace Go.Proofs.YtplocldnklccfaaGreatDoor
open Go.RowKit
set_option linter.unusedVariables false
set_option linter.unusedSimpArgs false

/-- Two sides and a book, all in blocks of D or in newer ones than W0's. -/
structure Trio (W0 : World) (D : Nat → Prop) (c1 r1 c2 r2 kb n : Nat) (w : World) : Prop where
  ch : Ch D W0 w
  dp : ∀ q, D q ∨ W0.heap.size ≤ q → q ≠ 3
  ex : ∃ F1 R1 L1 F2 R2 L2 K, SideAt w c1 r1 F1 R1 L1 ∧ SideAt w c2 r2 F2 R2 L2 ∧ Kept w kb n K ∧ (∀ q, F1 q ∨ R1 q → ¬ (F2 q ∨ R2 q)) ∧ (∀ q, F1 q ∨ R1 q → ¬ K q) ∧ (∀ q, F2 q ∨ R2 q → ¬ K q) ∧ ∀ q, (F1 q ∨ R1 q) ∨ (F2 q ∨ R2 q) ∨ K q → D q ∨ W0.heap.size ≤ q
section
variable {W0 w w' : World} {D : Nat → Prop} {c1 r1 c2 r2 kb n : Nat}
theorem Trio.swap (h : Trio W0 D c1 r1 c2 r2 kb n w) : Trio W0 D c2 r2 c1 r1 kb n w := by
  obtain ⟨hc, hd, F1, R1, L1, F2, R2, L2, K, s1, s2, hk, d12, d1, d2, hD⟩ := h
  exact ⟨hc, hd, F2, R2, L2, F1, R1, L1, K, s2, s1, hk, fun q h2 h1 => d12 q h1 h2, d2, d1, fun q hq => hD q (by rcases hq with h | h | h; exact .inr (.inl h); exact .inl h; exact .inr (.inr h))⟩
theorem Trio.below (h : Trio W0 D c1 r1 c2 r2 kb n w) (hb : Below w.heap.size w w') : Trio W0 D c1 r1 c2 r2 kb n w' := by
  obtain ⟨hc, hd, F1, R1, L1, F2, R2, L2, K, s1, s2, hk, d12, d1, d2, hD⟩ := h
  exact ⟨hc.below hb, hd, F1, R1, L1, F2, R2, L2, K, s1.below hb, s2.below hb, hk.below hb, d12, d1, d2, hD⟩
theorem Trio.more (h : Trio W0 D c1 r1 c2 r2 kb n w) {m : Nat} (hm : n ≤ m) : Trio W0 D c1 r1 c2 r2 kb m w := by
  obtain ⟨hc, hd, F1, R1, L1, F2, R2, L2, K, s1, s2, hk, d12, d1, d2, hD⟩ := h
  exact ⟨hc, hd, F1, R1, L1, F2, R2, L2, K, s1, s2, hk.mono hm (fun q hq => hq) fun q hq => ⟨hk.lt q hq, hk.pw q hq⟩, d12, d1, d2, hD⟩
theorem Trio.does1 (h : Trio W0 D c1 r1 c2 r2 kb n w) (who : Int) (a : ActV) (ask : ByteArray) (hsz : a.name.size ≤ 1048576) :
    Calls Tryz.prog 76 #[.agg #[.pointer (some ⟨c1, 0, none⟩), .pointer (some ⟨r1, 0, none⟩)], actV2 who a ask] w fun e w' => e = .returned (.bool true) ∧ Trio W0 D c1 r1 c2 r2 kb n w' := by
  obtain ⟨hc, hd, F1, R1, L1, F2, R2, L2, K, s1, s2, hk, d12, d1, d2, hD⟩ := h
  refine (does_any s1 who a ask hsz).mono fun e w' ⟨he, F', R', s', c', g'⟩ => ⟨he, hc.trans c' fun q hq => hD q (.inl hq), hd, F', R', _, F2, R2, L2, K, s', s2.ch c' fun q h2 h1 => d12 q h1 h2, hk.ch c' fun q hq => ⟨d1 q hq, hd q (hD q (.inl hq))⟩, fun q hq h2 => ?_, fun q hq hK => ?_, d2, fun q hq => ?_⟩
  · rcases g' q hq with h1 | h1
    · exact d12 q h1 h2
    · have := s2.lt q h2; omega
  · rcases g' q hq with h1 | h1
    · exact d1 q h1 hK
    · have := hk.lt q hK; omega
  · rcases hq with hq | hq
    · rcases g' q hq with h1 | h1
      · exact hD q (.inl h1)
      · have := hc.size; exact .inr (by omega)
    · exact hD q (.inr hq)
theorem Trio.does2 (h : Trio W0 D c1 r1 c2 r2 kb n w) (who : Int) (a : ActV) (ask : ByteArray) (hsz : a.name.size ≤ 1048576) :
    Calls Tryz.prog 76 #[.agg #[.pointer (some ⟨c2, 0, none⟩), .pointer (some ⟨r2, 0, none⟩)], actV2 who a ask] w fun e w' => e = .returned (.bool true) ∧ Trio W0 D c1 r1 c2 r2 kb n w' :=
  (h.swap.does1 who a ask hsz).mono fun e w' ⟨he, ht⟩ => ⟨he, ht.swap⟩
theorem Trio.asks1 (h : Trio W0 D c1 r1 c2 r2 kb n w) (hn : n + 6 < 1048576) (name : ByteArray) :
    Calls Tryz.prog 77 #[.agg #[.pointer (some ⟨c1, 0, none⟩), .pointer (some ⟨r1, 0, none⟩)], .string name, .pointer (some ⟨kb, 0, none⟩)] w fun e w' => e = .returned (.bool true) ∧ Trio W0 D c1 r1 c2 r2 kb (n + 6) w' := by
  obtain ⟨hc, hd, F1, R1, L1, F2, R2, L2, K, s1, s2, hk, d12, d1, d2, hD⟩ := h
  refine (asks_any s1 hk d1 hn name).mono fun e w' ⟨he, c', K', hk', g'⟩ => ⟨he, hc.trans c' fun q hq => hD q (.inr (.inr hq)), hd, F1, R1, L1, F2, R2, L2, K', s1.ch c' d1, s2.ch c' d2, hk', d12, fun q hq hK => ?_, fun q hq hK => ?_, fun q hq => ?_⟩
  · rcases g' q hK with h1 | h1
    · exact d1 q hq h1
    · have := s1.lt q hq; omega
  · rcases g' q hK with h1 | h1
    · exact d2 q hq h1
    · have := s2.lt q hq; omega
  · rcases hq with hq | hq | hq
    · exact hD q (.inl hq)
    · exact hD q (.inr (.inl hq))
    · rcases g' q hq with h1 | h1
      · exact hD q (.inr (.inr h1))
      · have := hc.size; exact .inr (by omega)
theorem Trio.asks2 (h : Trio W0 D c1 r1 c2 r2 kb n w) (hn : n + 6 < 1048576) (name : ByteArray) :
    Calls Tryz.prog 77 #[.agg #[.pointer (some ⟨c2, 0, none⟩), .pointer (some ⟨r2, 0, none⟩)], .string name, .pointer (some ⟨kb, 0, none⟩)] w fun e w' => e = .returned (.bool true) ∧ Trio W0 D c1 r1 c2 r2 kb (n + 6) w' :=
  (h.swap.asks1 hn name).mono fun e w' ⟨he, ht⟩ => ⟨he, ht.swap⟩
theorem Trio.settle (h : Trio W0 D c1 r1 c2 r2 kb n w) : Calls Tryz.prog 19 #[.pointer (some ⟨kb, 0, none⟩)] w fun e w' => e = .returned (.bool true) ∧ Ch D W0 w' := by
  obtain ⟨hc, hd, F1, R1, L1, F2, R2, L2, K, s1, s2, hk, d12, d1, d2, hD⟩ := h
  exact hk.settle.mono fun e w' ⟨he, c'⟩ => ⟨he, hc.trans c' fun q hq => hD q (.inr (.inr hq))⟩
/-- From a later world on. -/
theorem Trio.rebase (h : Trio W0 D c1 r1 c2 r2 kb n w) {wy : World} (hb : Below w.heap.size w wy) : Trio wy (fun q => (D q ∨ W0.heap.size ≤ q) ∧ q < w.heap.size) c1 r1 c2 r2 kb n wy := by
  obtain ⟨hc, hd, F1, R1, L1, F2, R2, L2, K, s1, s2, hk, d12, d1, d2, hD⟩ := h.below hb
  have hsz := h.ch.size
  have hbz := hb.size
  obtain ⟨_, _, F1', R1', L1', F2', R2', L2', K', s1', s2', hk', d12', d1', d2', hD'⟩ := h
  refine ⟨Ch.refl _ _, fun q hq => hd q ?_, F1', R1', L1', F2', R2', L2', K', s1'.below hb, s2'.below hb, hk'.below hb, d12', d1', d2', fun q hq => .inl ⟨hD' q hq, ?_⟩⟩
  · rcases hq with ⟨hq, _⟩ | hq
    · exact hq
    · exact .inr (by omega)
  · rcases hq with hq | hq | hq
    · exact s1'.lt q hq
    · exact s2'.lt q hq
    · exact hk'.lt q hq
theorem Trio.unbase {wy : World} {D' : Nat → Prop} (h : Trio wy D' c1 r1 c2 r2 kb n w) (hc : Ch D W0 wy) (hd : ∀ q, D q ∨ W0.heap.size ≤ q → q ≠ 3) (hD : ∀ q, D' q → D q ∨ W0.heap.size ≤ q) : Trio W0 D c1 r1 c2 r2 kb n w := by
  obtain ⟨hc', _, F1, R1, L1, F2, R2, L2, K, s1, s2, hk, d12, d1, d2, hD'⟩ := h
  have hsz := hc.size
  refine ⟨hc.trans hc' hD, hd, F1, R1, L1, F2, R2, L2, K, s1, s2, hk, d12, d1, d2, fun q hq => ?_⟩
  rcases hD' q hq with h1 | h1
  · exact hD q h1
  · exact .inr (by omega)
end

/-- A new book. -/
theorem kept_new {w : World} {kb : Nat} (h : w.heap[kb]? = some (.cells #[.int .i64 0, .slice none 0 0, .slice none 0 0, .slice none 0 0, .slice none 0 0, .slice none 0 0, .slice none 0 0, .slice none 0 0, .slice none 0 0, .slice none 0 0, .slice none 0 0, .slice none 0 0, .slice none 0 0, .slice none 0 0, .slice none 0 0, .slice none 0 0, .slice none 0 0, .slice none 0 0, .slice none 0 0, .slice none 0 0, .slice none 0 0] 49 (0, 0))) (hp : Pow w) (hk : kb ≠ 3) : Kept w kb 0 (fun q => q = kb) where
  ex := by
    refine ⟨_, .slice none 0 0, [], .slice none 0 0, [], 0, ⟨⟨h, rfl, PagesAt.nil w, fun j hj => absurd hj (Nat.not_lt_zero _), fun q hq => (by cases hq), hp, fun j hj => absurd hj (Nat.not_lt_zero _), Nat.zero_le _⟩, ⟨h, rfl, PagesAt.nil w, fun j hj => absurd hj (Nat.not_lt_zero _), fun q hq => (by cases hq), hp, fun j hj => absurd hj (Nat.not_lt_zero _), Nat.zero_le _⟩, fun q hq => ?_⟩, fun i hi => ?_, rfl, Int.le_refl _, Int.le_refl _, fun q hq => ?_, fun q hq => ?_⟩
    · rcases hq with hq | ⟨j, hj, _⟩
      · cases hq
      · cases hj
    · simp at hi
      rcases hi with rfl | rfl | rfl | rfl | rfl | rfl | rfl | rfl | rfl | rfl | rfl | rfl | rfl | rfl | rfl | rfl | rfl | rfl <;> rfl
    · rcases hq with hq | ⟨j, hj, _⟩
      · cases hq
      · cases hj
    · rcases hq with hq | ⟨j, hj, _⟩
      · cases hq
      · cases hj
  kb := rfl
  lt := fun q hq => by rw [hq]; exact heap_lt h
  pw := fun q hq => by rw [hq]; exact hk
  pow := hp

/-- Acts as they lie in a row. -/
structure ActR where
  who : Int
  a : ActV
  ask : ByteArray
def E6 (w : World) (p : Addr) (x : ActR) : Prop := w.cell? p = some (.int .i64 x.who) ∧ w.cell? ⟨p.block, p.off + 1, none⟩ = some (.int .i64 x.a.kind) ∧ w.cell? ⟨p.block, p.off + 2, none⟩ = some (.int .i64 x.a.typ) ∧ w.cell? ⟨p.block, p.off + 3, none⟩ = some (.int .i64 x.a.day) ∧ w.cell? ⟨p.block, p.off + 4, none⟩ = some (.string x.a.name) ∧ w.cell? ⟨p.block, p.off + 5, none⟩ = some (.string x.ask)
theorem E6.keep {w w' : World} {p : Addr} {x : ActR} (h : E6 w p x) (hb : w'.heap[p.block]? = w.heap[p.block]?) : E6 w' p x := by
  obtain ⟨h0, h1, h2, h3, h4, h5⟩ := h
  refine ⟨?_, ?_, ?_, ?_, ?_, ?_⟩
  · rw [← h0]; exact World.cell?_of_block hb
  · rw [← h1]; exact World.cell?_of_block (a := ⟨p.block, p.off + 1, none⟩) hb
  · rw [← h2]; exact World.cell?_of_block (a := ⟨p.block, p.off + 2, none⟩) hb
  · rw [← h3]; exact World.cell?_of_block (a := ⟨p.block, p.off + 3, none⟩) hb
  · rw [← h4]; exact World.cell?_of_block (a := ⟨p.block, p.off + 4, none⟩) hb
  · rw [← h5]; exact World.cell?_of_block (a := ⟨p.block, p.off + 5, none⟩) hb
structure ActsAt (w : World) (v : Value) (l : List ActR) : Prop where
  ex : ∃ A c, v = .slice A l.length c ∧ ∀ j (hj : j < l.length), ∃ ad, A = some ad ∧ ad.block < w.heap.size ∧ E6 w (ad.add (j * 6)) l[j]
  le : l.length ≤ 1048576
  sz : ∀ x ∈ l, x.a.name.size ≤ 1048576
theorem ActsAt.below {w w' : World} {v : Value} {l : List ActR} (h : ActsAt w v l) (hb : Below w.heap.size w w') : ActsAt w' v l := by
  obtain ⟨⟨A, c, hv, hx⟩, hle, hsz⟩ := h
  refine ⟨⟨A, c, hv, fun j hj => ?_⟩, hle, hsz⟩
  obtain ⟨ad, e, hl, h6⟩ := hx j hj
  exact ⟨ad, e, Nat.lt_of_lt_of_le hl hb.size, h6.keep (by rw [block_add]; exact hb.block _ hl)⟩
end Go.Proofs.YtplocldnklccfaaGreatDoor
