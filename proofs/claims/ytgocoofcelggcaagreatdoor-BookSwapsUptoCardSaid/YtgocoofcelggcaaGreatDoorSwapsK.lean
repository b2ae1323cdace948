/- BookSwaps: the walk. Printed by gen_swaps.py. -/
import Derived.Test.YtgocoofcelggcaaGreatDoorPack14
import Derived.Test.YtgocoofcelggcaaGreatDoorPack15
import Derived.Deep.RegionHeld3
namespace Go.Proofs.YtgocoofcelggcaaGreatDoor
theorem qaSw {T : Type} (l : List T) (i : Nat) (a : T) : l.toArray.setIfInBounds i a = (l.set i a).toArray := List.setIfInBounds_toArray l i a
theorem qbSw {T : Type} {x : T} {xs : List T} {a : T} : (x :: xs).set 0 a = a :: xs := List.set_cons_zero
theorem qcSw {T : Type} {x : T} {xs : List T} {i : Nat} {a : T} : (x :: xs).set (i + 1) a = x :: xs.set i a := List.set_cons_succ
theorem qdSw {T : Type} {xs : List T} {i : Nat} (h : i < xs.toArray.size) : xs.toArray[i] = xs[i]'(by simpa using h) := List.getElem_toArray h
theorem qeSw {T : Type} (a : T) (ys : List T) (i : Nat) (h : i + 1 < (a :: ys).length) : (a :: ys)[i + 1] = ys[i]'(by simpa using h) := List.getElem_cons_succ a ys i h
theorem qfSw {T : Type} (a : T) (ys : List T) (h : 0 < (a :: ys).length) : (a :: ys)[0] = a := List.getElem_cons_zero a ys h
open Go.RowKit
set_option linter.unusedVariables false
set_option linter.unusedSimpArgs false

def leftV (o : Option ClaimV) : Int := match o with | none => 0 | some c => c.amount - c.used
theorem Left_any2 {w : World} {F : Nat → Prop} {bb : Nat} {S : BookS} (h : BookAt w F bb S) (ho : OkS S) (k : ByteArray) :
    Calls Tryz.prog 17 #[ptrV bb, .string k] w fun e w' => e = .returned (.tuple #[.int .i64 (leftV (claimOf S k)), .bool (claimOf S k).isSome]) ∧ ∃ m, w' = w.drewN m := by
  refine (Left_any h ho k).mono ?_
  rintro en w' ⟨rfl, hm⟩
  refine ⟨?_, hm⟩
  unfold leftV
  cases claimOf S k <;> rfl
theorem trade_any (e : EventV) (lv : Value) (w : World) : Calls Tryz.prog 30 #[evV e lv] w fun en w' => en = .returned (.bool (tradeB e)) ∧ Below w.heap.size w w' := by
  have hb := bel1 w (.cells (evCs e lv) 25)
  have ht : tradeB e = (e.kind == 3 || e.kind == 5 || e.kind == 6) := rfl
  unfold evCs at hb
  unfold evV
  rw [ht]
  clear ht
  go_enter Tryz.func30, Tryz.ntmps30
  cases b3 : (e.kind == 3) with
  | true =>
    go_wp2
    go_ret
    exact ⟨rfl, hb⟩
  | false =>
    cases b5 : (e.kind == 5) with
    | true =>
      go_wp2
      go_ret
      exact ⟨rfl, hb⟩
    | false =>
      cases b6 : (e.kind == 6) with
      | true =>
        go_wp2
        go_ret
        exact ⟨rfl, hb⟩
      | false =>
        go_wp2
        go_ret
        exact ⟨rfl, hb⟩

theorem run_acc_field (w : World) (e k a r en i p l lk : Value) : Sem.run Tryz.prog (Instr.field 50 (.agg #[e, k, a, r, en, i, p, l, lk]) 2) w = .ok a w := by kernel_rfl
theorem acc_read {B n c : Nat} {w : World} {L : List Acct} {A : Option Addr} (h : AccRow B w L (.slice A n c)) (q : Nat) (hq : q < L.length) : ∃ ba, A = some ⟨ba, 0, none⟩ ∧ w.cell? ⟨ba, q * 4, none⟩ = some (.string L[q].name) := by
  generalize hv : Value.slice A n c = v at h
  cases h with
  | nil h => subst h; simp at hq
  | row b c' hb hR =>
    injection hv with h1 _ _
    exact ⟨b, h1, hR.c0 q hq⟩
theorem takCells_each2 (T : List EventV) (lv : Nat → Value) : ∀ x ∈ takCells T lv, x.length = 12 := fun x hx => by
  unfold takCells at hx
  obtain ⟨i, hi, rfl⟩ := List.getElem_of_mem hx
  rw [List.getElem_mapIdx]
  rfl
/-- One of the events that were taken. -/
theorem ToldP.ev2 {w : World} {F G : Nat → Prop} {bt bb n c : Nat} {A : Option Addr} {rv : Value} {lv : Nat → Value} {S : BookS} {T : List EventV} {rs : List PostV} (hp : ToldP w F G bt bb (.slice A n c) rv lv S T rs) (k : Nat) (hk : k < T.length) :
    ∃ ad, A = some ad ∧ ad.block < w.heap.size ∧ ∀ i u, (evCs T[k] (lv k)).toList[i]? = some u → w.cell? ((ad.add (k * 12)).add i) = some u := by
  have h := RowAt.of_own (R := fun _ => True) (B := 0) (e := 25) (s := 12) (xs := takCells T lv) (by rw [takCells_len]; exact hp.taken) (takCells_each2 T lv) fun _ _ => trivial
  obtain ⟨A', c', hv, hx⟩ := h
  injection hv with h1 _ _
  subst h1
  obtain ⟨ad, e1, h1, _, h3⟩ := hx k (by rw [takCells_len]; exact hk)
  refine ⟨ad, e1, h1, fun i u hu => h3 i u ?_⟩
  unfold takCells
  rw [List.getElem_mapIdx]
  exact hu
theorem meas_step2 (n q : Nat) (h : q < n) : n - ((q : Int) + 1).toNat < n - q := by omega

set_option maxRecDepth 100000 in
set_option maxHeartbeats 8000000 in
theorem swaps_walk (w : World) (v : Value) (l : List EventV) (hl : EventsAt w v l) (x : EventV) (lx : Value) (hx : EventAt1 w lx x) (y : EventV) (ly : Value) (hy : EventAt1 w ly y) :
    Calls Tryz.prog 10 #[v, evV x lx, evV y ly] w fun en w' => en = .returned (.bool true) ∧ Below w.heap.size w w' := by
  have hbox := (bel1 w (.cells (evCs x lx) 25)).alloc (by simp) (.cells (evCs y ly) 25)
  have hsz0 : ((w.alloc (.cells (evCs x lx) 25)).alloc (.cells (evCs y ly) 25)).heap.size = w.heap.size + 2 := by simp
  have hnx : ((w.alloc (.cells (evCs x lx) 25)).alloc (.cells (evCs y ly) 25)).heap[w.heap.size]? = some (.cells (evCs x lx) 25 (0, 0)) := (Below.heap_alloc _ _ _ (by simp)).trans (World.alloc_heap_new w _)
  have hny : ((w.alloc (.cells (evCs x lx) 25)).alloc (.cells (evCs y ly) 25)).heap[w.heap.size + 1]? = some (.cells (evCs y ly) 25 (0, 0)) := by
    have h := World.alloc_heap_new (w.alloc (.cells (evCs x lx) 25)) (.cells (evCs y ly) 25)
    rwa [World.size_alloc] at h
  have hall := tellAll_any _ v l (hl.below hbox)
  have hok := told_ok hl.small (min l.length 400)
  have hT4 := tells_len (l := l.take (min l.length 400)) (t := toldNew)
  obtain ⟨t, ht⟩ : ∃ t, t = tellsF toldNew (l.take (min l.length 400)) := ⟨_, rfl⟩
  rw [← ht] at hok hT4
  have hT5 : t.T.length ≤ 400 := by
    rw [List.length_take] at hT4
    have : (toldNew.T).length = 0 := rfl
    omega
  have HOK := Lib.hid hok
  have HL := Lib.hid hl
  have HX := Lib.hid hx
  have HY := Lib.hid hy
  have HT := Lib.hid ht
  have HBOX := Lib.hid hbox
  have HNX := Lib.hid hnx
  have HNY := Lib.hid hny
  have HSZ0 := Lib.hid hsz0
  unfold evCs at hall HBOX HSZ0 HNX HNY
  unfold evV
  clear hl hbox hok hx hy ht hT4 hnx hny hsz0
  go_enter Tryz.func10, Tryz.ntmps10
  go_wp2_with (go_at_call 11; refine hall.mono ?_)
  rintro en w1 ⟨bt, rfl, hbt, htold, hbel⟩
  unfold ptrV
  rw [← HT.out] at htold
  obtain ⟨H, Gs, hto, hH⟩ := htold
  obtain ⟨W0, hW0⟩ : ∃ W0, (w.alloc (.cells #[.int .i64 x.kind, .int .i64 x.day, .string x.key, .string x.account, .string x.other, .string x.ref, .string x.ref2, .int .i64 x.typ, .int .i64 x.due, .int .i64 x.amount, .string x.memo, lx] 25)).alloc (.cells #[.int .i64 y.kind, .int .i64 y.day, .string y.key, .string y.account, .string y.other, .string y.ref, .string y.ref2, .int .i64 y.typ, .int .i64 y.due, .int .i64 y.amount, .string y.memo, ly] 25) = W0 := ⟨_, rfl⟩
  have hnx := HNX.out
  have hny := HNY.out
  have hbox := HBOX.out
  have hsz0 := HSZ0.out
  rw [hW0] at hnx hny hbox hsz0 hbt hH hbel
  have hk1 : w.heap.size < w1.heap.size ∧ w.heap.size + 1 < w1.heap.size := by have := hbel.size; omega
  have hX1 := (hbel.block w.heap.size (by omega)).trans hnx
  have hY1 := (hbel.block (w.heap.size + 1) (by omega)).trans hny
  have hw1 := hbox.trans (hbel.mono hbox.size)
  have hHw : ∀ q, H q → w.heap.size + 2 ≤ q := fun q hq => by have := hH q hq; omega
  have hltH := hto.lt
  have htl1 := tell_any (R := fun q => q < w.heap.size) hto HOK.out HX.out.small HX.out.num (HX.out.lines.below hw1) HX.out.nil fun q hq => .inl fun hh => by have := hHw q hh; omega
  have hE : EvAt w1 w.heap.size x lx := ⟨hX1⟩
  obtain ⟨a_0, a_1, a_2, a_3, a_4, a_5, a_6, a_7, a_8, a_9, a_10, a_11⟩ := ev_cells hE
  have HHW := Lib.hid hHw
  have HW1 := Lib.hid hw1
  have HX1 := Lib.hid hX1
  have HY1 := Lib.hid hY1
  have HLT := Lib.hid hltH
  have HTO := Lib.hid hto
  have HK1 := Lib.hid hk1
  unfold evV ptrV at htl1
  clear HNX HNY HBOX HSZ0 hall hnx hny hbox hsz0 hbt hH hbel hk1 hX1 hY1 hw1 hHw hltH hto hE hW0
  go_wp2_with (go_at_call 13; refine htl1.mono ?_)
  rintro en w2 ⟨rv1, H2, G2, rfl, hto2, _, hch2, hnew2, _, _⟩
  clear htl1 a_0 a_1 a_2 a_3 a_4 a_5 a_6 a_7 a_8 a_9 a_10 a_11
  have HB12 := Lib.hid (HW1.out.trans (hch2.toBelow (B := w.heap.size) HW1.out.size fun q hq => by have := HHW.out q hq; omega))
  by_cases hc : checkE t.S x = 0
  · have hX2 := (hch2.block w.heap.size HK1.out.1 (fun hh => by have := HHW.out _ hh; omega)).trans HX1.out
    have hY2 := (hch2.block (w.heap.size + 1) HK1.out.2 (fun hh => by have := HHW.out _ hh; omega)).trans HY1.out
    have hH2 : ∀ q, H2 q → w.heap.size + 2 ≤ q := fun q hq => by
      rcases hnew2 q hq with h | h
      · exact HHW.out q h
      · have := HK1.out.2; omega
    have HH2 := Lib.hid hH2
    have HTO2 := Lib.hid hto2
    have HX2 := Lib.hid hX2
    have HY2 := Lib.hid hY2
    have htx := trade_any x lx w2
    have hty := fun W => trade_any y ly W
    have hE : EvAt w2 w.heap.size x lx := ⟨hX2⟩
    obtain ⟨a_0, a_1, a_2, a_3, a_4, a_5, a_6, a_7, a_8, a_9, a_10, a_11⟩ := ev_cells hE
    have hcy : ∀ W, Below w2.heap.size w2 W → EvAt W (w.heap.size + 1) y ly := fun W hb => ⟨(hb.block _ (heap_lt HY2.out)).trans HY2.out⟩
    have HCY := Lib.hid hcy
    have HC := Lib.hid hc
    rw [decide_eq_true hc]
    obtain ⟨TX, hTX⟩ : ∃ TX, TX = tradeB x := ⟨_, rfl⟩
    obtain ⟨TY, hTY⟩ : ∃ TY, TY = tradeB y := ⟨_, rfl⟩
    rw [← hTX] at htx
    rw [← hTY] at hty
    have HTX := Lib.hid hTX
    have HTY := Lib.hid hTY
    unfold evV at htx hty
    clear hX2 hY2 hH2 hto2 hch2 hnew2 hE hcy hc hTX hTY
    cases TX with
    | false =>
      clear hty
      go_wp2_with (first
        | (go_at_call 30; refine htx.mono ?_; rintro en wx ⟨rfl, hbx⟩; have HBX := Lib.hid hbx; clear hbx htx)
        | (go_at_call 14; refine (first_any _).mono ?_; rintro en wf ⟨rfl, hbf⟩; have HBF := Lib.hid hbf; clear hbf))
      go_ret
      exact ⟨rfl, HB12.out.trans ((HBX.out.mono HB12.out.size).trans (HBF.out.mono (Nat.le_trans HB12.out.size HBX.out.size)))⟩
    | true =>
      go_wp2_with (go_at_call 30; refine htx.mono ?_)
      rintro en wx ⟨rfl, hbx⟩
      obtain ⟨b_0, b_1, b_2, b_3, b_4, b_5, b_6, b_7, b_8, b_9, b_10, b_11⟩ := ev_cells (HCY.out wx hbx)
      have HBX := Lib.hid hbx
      have htyx := hty wx
      clear hbx htx hty a_0 a_1 a_2 a_3 a_4 a_5 a_6 a_7 a_8 a_9 a_10 a_11
      cases TY with
      | false =>
        go_wp2_with (first
          | (go_at_call 30; refine htyx.mono ?_; rintro en wy ⟨rfl, hby⟩; have HBY := Lib.hid hby; clear hby htyx)
          | (go_at_call 14; refine (first_any _).mono ?_; rintro en wf ⟨rfl, hbf⟩; have HBF := Lib.hid hbf; clear hbf))
        go_ret
        have h1 := HB12.out.trans ((HBX.out.mono HB12.out.size).trans (HBY.out.mono (Nat.le_trans HB12.out.size HBX.out.size)))
        exact ⟨rfl, h1.trans (HBF.out.mono h1.size)⟩
      | true =>
        go_wp2_with (go_at_call 30; refine htyx.mono ?_)
        rintro en wy ⟨rfl, hby⟩
        obtain ⟨c_0, c_1, c_2, c_3, c_4, c_5, c_6, c_7, c_8, c_9, c_10, c_11⟩ := ev_cells (HCY.out wy (HBX.out.trans (hby.mono HBX.out.size)))
        have HBY := Lib.hid (HBX.out.trans (hby.mono HBX.out.size))
        clear hby htyx b_0 b_1 b_2 b_3 b_4 b_5 b_6 b_7 b_8 b_9 b_10 b_11
        have hBy := HB12.out.trans (HBY.out.mono HB12.out.size)
        have hto2y := HTO2.out.below HBY.out
        have hok1 := HOK.out.tell HX.out.num
        have htl0 := tellF_yes HC.out
        obtain ⟨t1, ht1⟩ : ∃ t1, t1 = tellF t x := ⟨_, rfl⟩
        rw [← ht1] at hto2y hok1 htl0
        have ht1S : t1.S = applyS t.S x := by rw [htl0]
        have ht1T : t1.T = t.T ++ [x] := by rw [htl0]
        have htl2 := tell_any (R := fun q => q < w.heap.size) hto2y hok1 HY.out.small HY.out.num (HY.out.lines.below hBy) HY.out.nil fun q hq => .inl fun hh => by have := HH2.out q hh; omega
        have HBy := Lib.hid hBy
        have HOK1 := Lib.hid hok1
        have HT1 := Lib.hid (And.intro ht1S ht1T)
        unfold evV ptrV at htl2
        clear hBy hto2y hok1 htl0 ht1 ht1S ht1T
        go_wp2_with (go_at_call 13; refine htl2.mono ?_)
        rintro en w3 ⟨rv2, H3, G3, rfl, hto3, _, hch3, hnew3, _, _⟩
        clear htl2 c_0 c_1 c_2 c_3 c_4 c_5 c_6 c_7 c_8 c_9 c_10 c_11
        have HB3 := Lib.hid (HBy.out.trans (hch3.toBelow (B := w.heap.size) HBy.out.size fun q hq => by have := HH2.out q hq; omega))
        by_cases cy : checkE t1.S y = 0
        · have hsy := HBY.out.size
          have hX3 := (hch3.block w.heap.size (by have := heap_lt HX2.out; omega) (fun hh => by have := HH2.out _ hh; omega)).trans ((HBY.out.block _ (heap_lt HX2.out)).trans HX2.out)
          have hY3 := (hch3.block (w.heap.size + 1) (by have := heap_lt HY2.out; omega) (fun hh => by have := HH2.out _ hh; omega)).trans ((HBY.out.block _ (heap_lt HY2.out)).trans HY2.out)
          have HEX := Lib.hid (fun W (hb : Below w3.heap.size w3 W) => (⟨(hb.block _ (heap_lt hX3)).trans hX3⟩ : EvAt W w.heap.size x lx))
          have HEY := Lib.hid (fun W (hb : Below w3.heap.size w3 W) => (⟨(hb.block _ (heap_lt hY3)).trans hY3⟩ : EvAt W (w.heap.size + 1) y ly))
          have HSW := Lib.hid (swapped HTX.out.symm HTY.out.symm HC.out (by rw [← HT1.out.1]; exact cy))
          have htl0 := tellF_yes cy
          have hok2 := HOK1.out.tell HY.out.num
          obtain ⟨t2, ht2⟩ : ∃ t2, t2 = tellF t1 y := ⟨_, rfl⟩
          rw [← ht2] at hto3 htl0 hok2
          have ht2S : t2.S = applyS (applyS t.S x) y := by rw [htl0, HT1.out.1]
          have ht2T : t2.T = t.T ++ [x] ++ [y] := by rw [htl0, HT1.out.2]
          have HT2 := Lib.hid (And.intro ht2S ht2T)
          have HOK2 := Lib.hid hok2
          have HTO3 := Lib.hid hto3
          rw [decide_eq_true cy]
          have hall2 := tellAll_any w3 v l (HL.out.below HB3.out)
          have hw3 := HB3.out.size
          clear hsy hX3 hY3 hch3 hnew3 hto3 ht2 ht2S ht2T htl0 hok2 cy HCY HX2 HY2 HTO2
          go_wp2_with (go_at_call 11; refine hall2.mono ?_)
          rintro en w4 ⟨bu, rfl, hbu, htold, hbel⟩
          rw [← HT.out] at htold
          obtain ⟨U4, V4, hto4, hU4⟩ := htold
          have hsw := HSW.out.second
          have htl3 := tell_any (R := fun q => q < w.heap.size) hto4 HOK.out HY.out.small HY.out.num (HY.out.lines.below (HB3.out.trans (hbel.mono hw3))) HY.out.nil fun q hq => .inl fun hh => by have := hU4 q hh; omega
          obtain ⟨b_0, b_1, b_2, b_3, b_4, b_5, b_6, b_7, b_8, b_9, b_10, b_11⟩ := ev_cells (HEY.out w4 hbel)
          have HB34 := Lib.hid hbel
          have HU4 := Lib.hid hU4
          unfold evV ptrV at htl3
          unfold ptrV
          clear hall2 hbu hto4 hU4 hbel hsw
          go_wp2_with (go_at_call 13; refine htl3.mono ?_)
          rintro en w5 ⟨rv3, U5, V5, rfl, hto5, _, hch5, hnew5, _, _⟩
          rw [decide_eq_true HSW.out.second]
          have hok5 := HOK.out.tell HY.out.num
          have htl0 := tellF_yes HSW.out.second
          obtain ⟨u1, hu1⟩ : ∃ u1, u1 = tellF t y := ⟨_, rfl⟩
          rw [← hu1] at hto5 hok5 htl0
          have hu1S : u1.S = applyS t.S y := by rw [htl0]
          have hb5 := HB34.out.trans (hch5.toBelow (B := w3.heap.size) HB34.out.size HU4.out)
          have hU5 : ∀ q, U5 q → w3.heap.size ≤ q := fun q hq => by
            rcases hnew5 q hq with h | h
            · exact HU4.out q h
            · have := HB34.out.size; omega
          have htl4 := tell_any (R := fun q => q < w.heap.size) hto5 hok5 HX.out.small HX.out.num (HX.out.lines.below (HB3.out.trans (hb5.mono hw3))) HX.out.nil fun q hq => .inl fun hh => by have := hU5 q hh; omega
          obtain ⟨a_0, a_1, a_2, a_3, a_4, a_5, a_6, a_7, a_8, a_9, a_10, a_11⟩ := ev_cells (HEX.out w5 hb5)
          have HB35 := Lib.hid hb5
          have HU5 := Lib.hid hU5
          have HU1 := Lib.hid hu1S
          have HOK5 := Lib.hid hok5
          unfold evV ptrV at htl4
          clear htl3 b_0 b_1 b_2 b_3 b_4 b_5 b_6 b_7 b_8 b_9 b_10 b_11 hto5 hch5 hnew5 hok5 htl0 hu1 hu1S hb5 hU5
          go_wp2_with (go_at_call 13; refine htl4.mono ?_)
          rintro en w6 ⟨rv4, U6, V6, rfl, hto6, _, hch6, hnew6, _, _⟩
          have hcx : checkE u1.S x = 0 := by rw [HU1.out]; exact HSW.out.then_
          rw [decide_eq_true hcx]
          have hok6 := HOK5.out.tell HX.out.num
          have htl0 := tellF_yes hcx
          obtain ⟨u2, hu2⟩ : ∃ u2, u2 = tellF u1 x := ⟨_, rfl⟩
          rw [← hu2] at hto6 hok6 htl0
          have hu2S : u2.S = applyS (applyS t.S y) x := by rw [htl0, HU1.out]
          have hb6 := HB35.out.trans (hch6.toBelow (B := w3.heap.size) HB35.out.size HU5.out)
          have hto3 := HTO3.out.below hb6
          obtain ⟨Ft, bbt, tt, rt, tlt, hpt, _⟩ := hto3
          obtain ⟨Fu, bbu, tu, ru, tlu, hpu, _⟩ := hto6
          obtain ⟨ttA, ttc, htt⟩ := own_form hpt.taken
          obtain ⟨rtA, rtc, hrt⟩ := own_form hpt.rows
          obtain ⟨ruA, ruc, hru⟩ := own_form hpu.rows
          subst htt hrt hru
          have htu := Turnover_any (w := w6.drew) (hpu.book.below (Below.refl _ w6).drew)
          have htt := Turnover_any (w := w6.drew) (hpt.book.below (Below.refl _ w6).drew)
          have hlu := Len_any (w := w6.drew) (hpu.book.below (Below.refl _ w6).drew)
          have hlt := Len_any (w := w6.drew) (hpt.book.below (Below.refl _ w6).drew)
          have hbase := Base_any (w := w6.drew) (hpt.book.below (Below.refl _ w6).drew) HOK2.out.ok.ok
          have hS : u2.S.turnover = t2.S.turnover ∧ u2.S.events = t2.S.events := by rw [hu2S, HT2.out.1]; exact ⟨HSW.out.turn, HSW.out.len⟩
          rw [hS.1] at htu
          rw [hS.2] at hlu
          have HOWN := Lib.hid (show ∀ acc, ownF u2.S.rows acc = ownF t2.S.rows acc by rw [hu2S, HT2.out.1]; exact HSW.out.own)
          have HCLA := Lib.hid (show ∀ k, claimOf u2.S k = claimOf t2.S k by rw [hu2S, HT2.out.1]; exact HSW.out.claim)
          obtain ⟨TS, hTS⟩ : ∃ TS, TS = t2.S.turnover := ⟨_, rfl⟩
          obtain ⟨EV, hEV⟩ : ∃ EV, EV = t2.S.events := ⟨_, rfl⟩
          rw [← hTS] at htu htt
          rw [← hEV] at hlu hlt
          have b0t : w6.cell? ⟨bt, 0, none⟩ = some (.pointer (some ⟨bbt, 0, none⟩)) := by rw [cell_of_blk hpt.head]; rfl
          have b0u : w6.cell? ⟨bu, 0, none⟩ = some (.pointer (some ⟨bbu, 0, none⟩)) := by rw [cell_of_blk hpu.head]; rfl
          have hHeld : w6.drew.cell? ⟨bu, 0, none⟩ = some (.pointer (some ⟨bbu, 0, none⟩)) ∧ w6.drew.cell? ⟨bt, 0, none⟩ = some (.pointer (some ⟨bbt, 0, none⟩)) := ⟨b0u, b0t⟩
          have HPT := Lib.hid hpt
          have HPU := Lib.hid hpu
          have HOK6 := Lib.hid hok6
          have HB36 := Lib.hid hb6
          unfold ptrV at htu htt hlu hlt hbase
          clear htl4 a_0 a_1 a_2 a_3 a_4 a_5 a_6 a_7 a_8 a_9 a_10 a_11 hch6 hnew6 hcx hok6 htl0 hu2 hu2S hb6 hpt hpu hS hTS hEV
          go_wp2
          refine wp_region_n (n := 32) (S := fun w' => w'.cell? ⟨bu, 0, none⟩ = some (.pointer (some ⟨bbu, 0, none⟩)) ∧ w'.cell? ⟨bt, 0, none⟩ = some (.pointer (some ⟨bbt, 0, none⟩))) (by kernel_rfl) ?_
          refine wpAnyN_take (i := 0) (v := ?_) rfl (by kernel_rfl) (by kernel_rfl) (by kernel_rfl) (by kernel_rfl) (fun _ _ _ h => h) (Or.inl ⟨by kernel_rfl, ?y1⟩) hHeld ?_
          case y1 =>
            intro w0 hSw
            (try dsimp only at hSw)
            go_simp
            try with_reducible rfl
          try simp only [Act.put, qaSw, qbSw, qcSw, qdSw, qeSw, qfSw]
          refine wpAnyN_take (i := 1) (v := ?_) rfl (by kernel_rfl) (by kernel_rfl) (by kernel_rfl) (by kernel_rfl) (fun _ _ _ h => h) (Or.inl ⟨by kernel_rfl, ?y2⟩) hHeld ?_
          case y2 =>
            intro w0 hSw
            (try dsimp only at hSw)
            go_simp
            try with_reducible rfl
          try simp only [Act.put, qaSw, qbSw, qcSw, qdSw, qeSw, qfSw]
          refine wpAnyN_take (i := 2) (v := ?_) rfl (by kernel_rfl) (by kernel_rfl) (by kernel_rfl) (by kernel_rfl) (fun _ _ _ h => h) (Or.inl ⟨by kernel_rfl, ?y3⟩) hHeld ?_
          case y3 =>
            intro w0 hSw
            (try dsimp only at hSw)
            go_simp
            try with_reducible rfl
          try simp only [Act.put, qaSw, qbSw, qcSw, qdSw, qeSw, qfSw]
          refine wpAnyN_take (i := 3) (v := ?_) rfl (by kernel_rfl) (by kernel_rfl) (by kernel_rfl) (by kernel_rfl) (fun _ _ _ h => h) (Or.inl ⟨by kernel_rfl, ?y4⟩) hHeld ?_
          case y4 =>
            intro w0 hSw
            (try dsimp only at hSw)
            go_simp
            try with_reducible rfl
          try simp only [Act.put, qaSw, qbSw, qcSw, qdSw, qeSw, qfSw]
          refine wpAnyN_take (i := 4) (v := ?_) rfl (by kernel_rfl) (by kernel_rfl) (by kernel_rfl) (by kernel_rfl) (fun _ _ _ h => h) (Or.inl ⟨by kernel_rfl, ?y5⟩) hHeld ?_
          case y5 =>
            intro w0 hSw
            (try dsimp only at hSw)
            go_simp
            try with_reducible rfl
          try simp only [Act.put, qaSw, qbSw, qcSw, qdSw, qeSw, qfSw]
          refine wpAnyN_take (i := 5) (v := ?_) rfl (by kernel_rfl) (by kernel_rfl) (by kernel_rfl) (by kernel_rfl) (fun _ _ _ h => h) (Or.inl ⟨by kernel_rfl, ?y6⟩) hHeld ?_
          case y6 =>
            intro w0 hSw
            (try dsimp only at hSw)
            go_simp
            try with_reducible rfl
          try simp only [Act.put, qaSw, qbSw, qcSw, qdSw, qeSw, qfSw]
          refine wpAnyN_take (i := 6) (v := ?_) rfl (by kernel_rfl) (by kernel_rfl) (by kernel_rfl) (by kernel_rfl) (fun _ _ _ h => h) (Or.inl ⟨by kernel_rfl, ?y7⟩) hHeld ?_
          case y7 =>
            intro w0 hSw
            (try dsimp only at hSw)
            go_simp
            try with_reducible rfl
          try simp only [Act.put, qaSw, qbSw, qcSw, qdSw, qeSw, qfSw]
          refine wpAnyN_take (i := 7) (v := ?_) rfl (by kernel_rfl) (by kernel_rfl) (by kernel_rfl) (by kernel_rfl) (fun _ _ _ h => h) (Or.inl ⟨by kernel_rfl, ?y8⟩) hHeld ?_
          case y8 =>
            intro w0 hSw
            (try dsimp only at hSw)
            go_simp
            try with_reducible rfl
          try simp only [Act.put, qaSw, qbSw, qcSw, qdSw, qeSw, qfSw]
          refine wpAnyN_take (i := 8) (v := ?_) rfl (by kernel_rfl) (by kernel_rfl) (by kernel_rfl) (by kernel_rfl) (fun _ _ _ h => h) (Or.inl ⟨by kernel_rfl, ?y9⟩) hHeld ?_
          case y9 =>
            intro w0 hSw
            (try dsimp only at hSw)
            go_simp
            try with_reducible rfl
          try simp only [Act.put, qaSw, qbSw, qcSw, qdSw, qeSw, qfSw]
          refine wpAnyN_take (i := 9) (v := ?_) rfl (by kernel_rfl) (by kernel_rfl) (by kernel_rfl) (by kernel_rfl) (fun _ _ _ h => h) (Or.inl ⟨by kernel_rfl, ?y10⟩) hHeld ?_
          case y10 =>
            intro w0 hSw
            (try dsimp only at hSw)
            go_simp
            try with_reducible rfl
          try simp only [Act.put, qaSw, qbSw, qcSw, qdSw, qeSw, qfSw]
          refine wpAnyN_take (i := 10) (v := ?_) rfl (by kernel_rfl) (by kernel_rfl) (by kernel_rfl) (by kernel_rfl) (fun _ _ _ h => h) (Or.inl ⟨by kernel_rfl, ?y11⟩) hHeld ?_
          case y11 =>
            intro w0 hSw
            (try dsimp only at hSw)
            go_simp
            try with_reducible rfl
          try simp only [Act.put, qaSw, qbSw, qcSw, qdSw, qeSw, qfSw]
          refine wpAnyN_take (i := 12) (v := ?_) rfl (by kernel_rfl) (by kernel_rfl) (by kernel_rfl) (by kernel_rfl) (fun _ _ _ h => h) (Or.inl ⟨by kernel_rfl, ?y12⟩) hHeld ?_
          case y12 =>
            intro w0 hSw
            (try dsimp only at hSw)
            go_simp
            try with_reducible rfl
          try simp only [Act.put, qaSw, qbSw, qcSw, qdSw, qeSw, qfSw]
          refine wpAnyN_take (i := 13) (v := ?_) rfl (by kernel_rfl) (by kernel_rfl) (by kernel_rfl) (by kernel_rfl) (fun _ _ _ h => h) (Or.inl ⟨by kernel_rfl, ?y13⟩) hHeld ?_
          case y13 =>
            intro w0 hSw
            (try dsimp only at hSw)
            go_simp
            try with_reducible rfl
          try simp only [Act.put, qaSw, qbSw, qcSw, qdSw, qeSw, qfSw]
          refine wpAnyN_take (i := 14) (v := ?_) rfl (by kernel_rfl) (by kernel_rfl) (by kernel_rfl) (by kernel_rfl) (fun _ _ _ h => h) (Or.inl ⟨by kernel_rfl, ?y14⟩) hHeld ?_
          case y14 =>
            intro w0 hSw
            (try dsimp only at hSw)
            go_simp
            try with_reducible rfl
          try simp only [Act.put, qaSw, qbSw, qcSw, qdSw, qeSw, qfSw]
          refine wpAnyN_take (i := 15) (v := ?_) rfl (by kernel_rfl) (by kernel_rfl) (by kernel_rfl) (by kernel_rfl) (fun _ _ _ h => h) (Or.inl ⟨by kernel_rfl, ?y15⟩) hHeld ?_
          case y15 =>
            intro w0 hSw
            (try dsimp only at hSw)
            go_simp
            try with_reducible rfl
          try simp only [Act.put, qaSw, qbSw, qcSw, qdSw, qeSw, qfSw]
          refine wpAnyN_step (i := 11) (by kernel_rfl) rfl (fun K hK => ?_)
          go_simp
          go_at_call 25
          refine htu.mono ?_
          rintro en wx ⟨rfl, hwx⟩
          obtain rfl := hwx
          clear htu
          go_wp2_with fail
          refine hK.out _ _ (fun _ => hHeld) ?_
          clear hK K
          try simp only [Act.put, qaSw, qbSw, qcSw, qdSw, qeSw, qfSw]
          refine wpAnyN_step (i := 16) (by kernel_rfl) rfl (fun K hK => ?_)
          go_simp
          go_at_call 25
          refine htt.mono ?_
          rintro en wx ⟨rfl, hwx⟩
          obtain rfl := hwx
          clear htt
          go_wp2_with fail
          refine hK.out _ _ (fun _ => hHeld) ?_
          clear hK K
          try simp only [Act.put, qaSw, qbSw, qcSw, qdSw, qeSw, qfSw]
          refine wpAnyN_take (i := 17) (v := ?_) rfl (by kernel_rfl) (by kernel_rfl) (by kernel_rfl) (by kernel_rfl) (fun _ _ _ h => h) (Or.inl ⟨by kernel_rfl, ?y16⟩) hHeld ?_
          case y16 =>
            intro w0 hSw
            (try dsimp only at hSw)
            go_simp
            try with_reducible rfl
          try simp only [Act.put, qaSw, qbSw, qcSw, qdSw, qeSw, qfSw]
          refine wpAnyN_take (i := 18) (v := ?_) rfl (by kernel_rfl) (by kernel_rfl) (by kernel_rfl) (by kernel_rfl) (fun _ _ _ h => h) (Or.inl ⟨by kernel_rfl, ?y17⟩) hHeld ?_
          case y17 =>
            intro w0 hSw
            (try dsimp only at hSw)
            go_simp
            try with_reducible rfl
          try simp only [Act.put, qaSw, qbSw, qcSw, qdSw, qeSw, qfSw]
          refine wpAnyN_take (i := 19) (v := ?_) rfl (by kernel_rfl) (by kernel_rfl) (by kernel_rfl) (by kernel_rfl) (fun _ _ _ h => h) (Or.inl ⟨by kernel_rfl, ?y18⟩) hHeld ?_
          case y18 =>
            intro w0 hSw
            (try dsimp only at hSw)
            go_simp
            try with_reducible rfl
          try simp only [Act.put, qaSw, qbSw, qcSw, qdSw, qeSw, qfSw]
          refine wpAnyN_take (i := 20) (v := ?_) rfl (by kernel_rfl) (by kernel_rfl) (by kernel_rfl) (by kernel_rfl) (fun _ _ _ h => h) (Or.inl ⟨by kernel_rfl, ?y19⟩) hHeld ?_
          case y19 =>
            intro w0 hSw
            (try dsimp only at hSw)
            go_simp
            try with_reducible rfl
          try simp only [Act.put, qaSw, qbSw, qcSw, qdSw, qeSw, qfSw]
          refine wpAnyN_take (i := 21) (v := ?_) rfl (by kernel_rfl) (by kernel_rfl) (by kernel_rfl) (by kernel_rfl) (fun _ _ _ h => h) (Or.inl ⟨by kernel_rfl, ?y20⟩) hHeld ?_
          case y20 =>
            intro w0 hSw
            (try dsimp only at hSw)
            go_simp
            try with_reducible rfl
          try simp only [Act.put, qaSw, qbSw, qcSw, qdSw, qeSw, qfSw]
          refine wpAnyN_take (i := 22) (v := ?_) rfl (by kernel_rfl) (by kernel_rfl) (by kernel_rfl) (by kernel_rfl) (fun _ _ _ h => h) (Or.inl ⟨by kernel_rfl, ?y21⟩) hHeld ?_
          case y21 =>
            intro w0 hSw
            (try dsimp only at hSw)
            go_simp
            try with_reducible rfl
          try simp only [Act.put, qaSw, qbSw, qcSw, qdSw, qeSw, qfSw]
          refine wpAnyN_take (i := 23) (v := ?_) rfl (by kernel_rfl) (by kernel_rfl) (by kernel_rfl) (by kernel_rfl) (fun _ _ _ h => h) (Or.inl ⟨by kernel_rfl, ?y22⟩) hHeld ?_
          case y22 =>
            intro w0 hSw
            (try dsimp only at hSw)
            go_simp
            try with_reducible rfl
          try simp only [Act.put, qaSw, qbSw, qcSw, qdSw, qeSw, qfSw]
          refine wpAnyN_take (i := 25) (v := ?_) rfl (by kernel_rfl) (by kernel_rfl) (by kernel_rfl) (by kernel_rfl) (fun _ _ _ h => h) (Or.inl ⟨by kernel_rfl, ?y23⟩) hHeld ?_
          case y23 =>
            intro w0 hSw
            (try dsimp only at hSw)
            go_simp
            try with_reducible rfl
          try simp only [Act.put, qaSw, qbSw, qcSw, qdSw, qeSw, qfSw]
          refine wpAnyN_take (i := 26) (v := ?_) rfl (by kernel_rfl) (by kernel_rfl) (by kernel_rfl) (by kernel_rfl) (fun _ _ _ h => h) (Or.inl ⟨by kernel_rfl, ?y24⟩) hHeld ?_
          case y24 =>
            intro w0 hSw
            (try dsimp only at hSw)
            go_simp
            try with_reducible rfl
          try simp only [Act.put, qaSw, qbSw, qcSw, qdSw, qeSw, qfSw]
          refine wpAnyN_take (i := 27) (v := ?_) rfl (by kernel_rfl) (by kernel_rfl) (by kernel_rfl) (by kernel_rfl) (fun _ _ _ h => h) (Or.inl ⟨by kernel_rfl, ?y25⟩) hHeld ?_
          case y25 =>
            intro w0 hSw
            (try dsimp only at hSw)
            go_simp
            try with_reducible rfl
          try simp only [Act.put, qaSw, qbSw, qcSw, qdSw, qeSw, qfSw]
          refine wpAnyN_take (i := 28) (v := ?_) rfl (by kernel_rfl) (by kernel_rfl) (by kernel_rfl) (by kernel_rfl) (fun _ _ _ h => h) (Or.inl ⟨by kernel_rfl, ?y26⟩) hHeld ?_
          case y26 =>
            intro w0 hSw
            (try dsimp only at hSw)
            go_simp
            try with_reducible rfl
          try simp only [Act.put, qaSw, qbSw, qcSw, qdSw, qeSw, qfSw]
          refine wpAnyN_step (i := 24) (by kernel_rfl) rfl (fun K hK => ?_)
          go_simp
          go_at_call 23
          refine hlu.mono ?_
          rintro en wx ⟨rfl, hwx⟩
          obtain rfl := hwx
          clear hlu
          go_wp2_with fail
          refine hK.out _ _ (fun _ => hHeld) ?_
          clear hK K
          try simp only [Act.put, qaSw, qbSw, qcSw, qdSw, qeSw, qfSw]
          refine wpAnyN_step (i := 29) (by kernel_rfl) rfl (fun K hK => ?_)
          go_simp
          go_at_call 23
          refine hlt.mono ?_
          rintro en wx ⟨rfl, hwx⟩
          obtain rfl := hwx
          clear hlt
          go_wp2_with fail
          refine hK.out _ _ (fun _ => hHeld) ?_
          clear hK K
          try simp only [Act.put, qaSw, qbSw, qcSw, qdSw, qeSw, qfSw]
          refine wpAnyN_take (i := 30) (v := ?_) rfl (by kernel_rfl) (by kernel_rfl) (by kernel_rfl) (by kernel_rfl) (fun _ _ _ h => h) (Or.inl ⟨by kernel_rfl, ?y27⟩) hHeld ?_
          case y27 =>
            intro w0 hSw
            (try dsimp only at hSw)
            go_simp
            try with_reducible rfl
          try simp only [Act.put, qaSw, qbSw, qcSw, qdSw, qeSw, qfSw]
          refine wpAnyN_take (i := 31) (v := ?_) rfl (by kernel_rfl) (by kernel_rfl) (by kernel_rfl) (by kernel_rfl) (fun _ _ _ h => h) (Or.inl ⟨by kernel_rfl, ?y28⟩) hHeld ?_
          case y28 =>
            intro w0 hSw
            (try dsimp only at hSw)
            go_simp
            try with_reducible rfl
          try simp only [Act.put, qaSw, qbSw, qcSw, qdSw, qeSw, qfSw]
          refine wpAnyN_done (by kernel_rfl) ?_ _
          have HHD := Lib.hid (And.intro b0t b0u)
          have b0t' : w6.drew.cell? ⟨bt, 0, none⟩ = some (.pointer (some ⟨bbt, 0, none⟩)) := b0t
          clear hHeld
          go_wp2_with (go_at_call 19; refine hbase.mono ?_)
          rintro en wb ⟨kV, aV, rV, eV, iV, pV, lV, rfl, hacc, _, hbb⟩
          obtain ⟨aA, ac, haf⟩ := acc_form hacc
          subst haf
          have hfld := fun w0 => run_acc_field w0 (.int .i64 t2.S.events) kV (.slice aA t2.S.chart.length ac) rV eV iV pV lV (.int .i64 t2.S.lock)
          have HACC := Lib.hid hacc
          have HBB := Lib.hid (below_undrew hbb)
          have hcl := HOK2.out.ok.ok.chart.le
          clear hbase hacc hbb b0t b0u b0t'
          go_wp2
          clear hfld
          go_loopw [16] (fun j wr => ∃ q : Nat, j = .int .i64 (q : Int) ∧ q ≤ t2.S.chart.length ∧ Below wb.heap.size wb wr) (fun j _ => t2.S.chart.length - (intOf j).toNat)
          case atStart => exact ⟨0, rfl, Nat.zero_le _, Below.refl _ _⟩
          case round =>
            obtain ⟨q, rfl, hq, hb9⟩ := hrel
            by_cases hqn : q < t2.S.chart.length
            · as_aux_lemma =>
                have hbW := HBB.out.trans (hb9.mono HBB.out.size)
                have hpW := HPT.out.below hbW
                have hpV := HPU.out.below hbW
                have hrow := HACC.out.below hb9
                obtain ⟨ba, hba, hcn⟩ := acc_read hrow q hqn
                subst hba
                obtain ⟨nm, hnm⟩ : ∃ nm, nm = t2.S.chart[q].name := ⟨_, rfl⟩
                have ho1 := ownF_any (w := wr.drew) t2.S.rows nm (own_below hpW.rows (Below.refl _ wr).drew) (by have := HOK2.out.ok.ok.rowsLe; have := HOK2.out.ok.ok.ev1; omega) (by rw [HOK2.out.ok.ok.turn]; exact HOK2.out.ok.ok.turnLe)
                have ho2 := ownF_any (w := wr.drew) u2.S.rows nm (own_below hpV.rows (Below.refl _ wr).drew) (by have := HOK6.out.ok.ok.rowsLe; have := HOK6.out.ok.ok.ev1; omega) (by rw [HOK6.out.ok.ok.turn]; exact HOK6.out.ok.ok.turnLe)
                rw [HOWN.out] at ho2
                have hHeld : wr.drew.cell? ⟨bt, 2, none⟩ = some (.slice rtA t2.S.rows.length rtc) ∧ wr.drew.cell? ⟨bu, 2, none⟩ = some (.slice ruA u2.S.rows.length ruc) ∧ wr.drew.cell? ⟨ba, q * 4, none⟩ = some (.string nm) := ⟨by show wr.cell? _ = _; rw [cell_of_blk hpW.head]; rfl, by show wr.cell? _ = _; rw [cell_of_blk hpV.head]; rfl, by rw [hnm]; exact hcn⟩
                have HB9 := Lib.hid hb9
                clear hbW hpW hpV hb9 hnm hrow hcn
                go_wp2
                refine wp_region_n (n := 21) (S := fun w' => w'.cell? ⟨bt, 2, none⟩ = some (.slice rtA t2.S.rows.length rtc) ∧ w'.cell? ⟨bu, 2, none⟩ = some (.slice ruA u2.S.rows.length ruc) ∧ w'.cell? ⟨ba, q * 4, none⟩ = some (.string nm)) (by kernel_rfl) ?_
                refine wpAnyN_take (i := 0) (v := ?_) rfl (by kernel_rfl) (by kernel_rfl) (by kernel_rfl) (by kernel_rfl) (fun _ _ _ h => h) (Or.inl ⟨by kernel_rfl, ?y29⟩) hHeld ?_
                case y29 =>
                  intro w0 hSw
                  (try dsimp only at hSw)
                  go_simp
                  try with_reducible rfl
                try simp only [Act.put, qaSw, qbSw, qcSw, qdSw, qeSw, qfSw]
                refine wpAnyN_take (i := 1) (v := ?_) rfl (by kernel_rfl) (by kernel_rfl) (by kernel_rfl) (by kernel_rfl) (fun _ _ _ h => h) (Or.inl ⟨by kernel_rfl, ?y30⟩) hHeld ?_
                case y30 =>
                  intro w0 hSw
                  (try dsimp only at hSw)
                  go_simp
                  try with_reducible rfl
                try simp only [Act.put, qaSw, qbSw, qcSw, qdSw, qeSw, qfSw]
                refine wpAnyN_take (i := 2) (v := ?_) rfl (by kernel_rfl) (by kernel_rfl) (by kernel_rfl) (by kernel_rfl) (fun _ _ _ h => h) (Or.inl ⟨by kernel_rfl, ?y31⟩) hHeld ?_
                case y31 =>
                  intro w0 hSw
                  (try dsimp only at hSw)
                  go_simp
                  try with_reducible rfl
                try simp only [Act.put, qaSw, qbSw, qcSw, qdSw, qeSw, qfSw]
                refine wpAnyN_take (i := 3) (v := ?_) rfl (by kernel_rfl) (by kernel_rfl) (by kernel_rfl) (by kernel_rfl) (fun _ _ _ h => h) (Or.inl ⟨by kernel_rfl, ?y32⟩) hHeld ?_
                case y32 =>
                  intro w0 hSw
                  (try dsimp only at hSw)
                  go_simp
                  try with_reducible rfl
                try simp only [Act.put, qaSw, qbSw, qcSw, qdSw, qeSw, qfSw]
                refine wpAnyN_take (i := 4) (v := ?_) rfl (by kernel_rfl) (by kernel_rfl) (by kernel_rfl) (by kernel_rfl) (fun _ _ _ h => h) (Or.inl ⟨by kernel_rfl, ?y33⟩) hHeld ?_
                case y33 =>
                  intro w0 hSw
                  (try dsimp only at hSw)
                  go_simp
                  try with_reducible rfl
                try simp only [Act.put, qaSw, qbSw, qcSw, qdSw, qeSw, qfSw]
                refine wpAnyN_take (i := 5) (v := ?_) rfl (by kernel_rfl) (by kernel_rfl) (by kernel_rfl) (by kernel_rfl) (fun _ _ _ h => h) (Or.inl ⟨by kernel_rfl, ?y34⟩) hHeld ?_
                case y34 =>
                  intro w0 hSw
                  (try dsimp only at hSw)
                  go_simp
                  try with_reducible rfl
                try simp only [Act.put, qaSw, qbSw, qcSw, qdSw, qeSw, qfSw]
                refine wpAnyN_take (i := 6) (v := ?_) rfl (by kernel_rfl) (by kernel_rfl) (by kernel_rfl) (by kernel_rfl) (fun _ _ _ h => h) (Or.inl ⟨by kernel_rfl, ?y35⟩) hHeld ?_
                case y35 =>
                  intro w0 hSw
                  (try dsimp only at hSw)
                  go_simp
                  try with_reducible rfl
                try simp only [Act.put, qaSw, qbSw, qcSw, qdSw, qeSw, qfSw]
                refine wpAnyN_take (i := 7) (v := ?_) rfl (by kernel_rfl) (by kernel_rfl) (by kernel_rfl) (by kernel_rfl) (fun _ _ _ h => h) (Or.inl ⟨by kernel_rfl, ?y36⟩) hHeld ?_
                case y36 =>
                  intro w0 hSw
                  (try dsimp only at hSw)
                  go_simp
                  try with_reducible rfl
                try simp only [Act.put, qaSw, qbSw, qcSw, qdSw, qeSw, qfSw]
                refine wpAnyN_take (i := 8) (v := ?_) rfl (by kernel_rfl) (by kernel_rfl) (by kernel_rfl) (by kernel_rfl) (fun _ _ _ h => h) (Or.inl ⟨by kernel_rfl, ?y37⟩) hHeld ?_
                case y37 =>
                  intro w0 hSw
                  (try dsimp only at hSw)
                  go_simp
                  try with_reducible rfl
                try simp only [Act.put, qaSw, qbSw, qcSw, qdSw, qeSw, qfSw]
                refine wpAnyN_take (i := 10) (v := ?_) rfl (by kernel_rfl) (by kernel_rfl) (by kernel_rfl) (by kernel_rfl) (fun _ _ _ h => h) (Or.inl ⟨by kernel_rfl, ?y38⟩) hHeld ?_
                case y38 =>
                  intro w0 hSw
                  (try dsimp only at hSw)
                  go_simp
                  try with_reducible rfl
                try simp only [Act.put, qaSw, qbSw, qcSw, qdSw, qeSw, qfSw]
                refine wpAnyN_take (i := 11) (v := ?_) rfl (by kernel_rfl) (by kernel_rfl) (by kernel_rfl) (by kernel_rfl) (fun _ _ _ h => h) (Or.inl ⟨by kernel_rfl, ?y39⟩) hHeld ?_
                case y39 =>
                  intro w0 hSw
                  (try dsimp only at hSw)
                  go_simp
                  try with_reducible rfl
                try simp only [Act.put, qaSw, qbSw, qcSw, qdSw, qeSw, qfSw]
                refine wpAnyN_take (i := 12) (v := ?_) rfl (by kernel_rfl) (by kernel_rfl) (by kernel_rfl) (by kernel_rfl) (fun _ _ _ h => h) (Or.inl ⟨by kernel_rfl, ?y40⟩) hHeld ?_
                case y40 =>
                  intro w0 hSw
                  (try dsimp only at hSw)
                  go_simp
                  try with_reducible rfl
                try simp only [Act.put, qaSw, qbSw, qcSw, qdSw, qeSw, qfSw]
                refine wpAnyN_take (i := 13) (v := ?_) rfl (by kernel_rfl) (by kernel_rfl) (by kernel_rfl) (by kernel_rfl) (fun _ _ _ h => h) (Or.inl ⟨by kernel_rfl, ?y41⟩) hHeld ?_
                case y41 =>
                  intro w0 hSw
                  (try dsimp only at hSw)
                  go_simp
                  try with_reducible rfl
                try simp only [Act.put, qaSw, qbSw, qcSw, qdSw, qeSw, qfSw]
                refine wpAnyN_take (i := 14) (v := ?_) rfl (by kernel_rfl) (by kernel_rfl) (by kernel_rfl) (by kernel_rfl) (fun _ _ _ h => h) (Or.inl ⟨by kernel_rfl, ?y42⟩) hHeld ?_
                case y42 =>
                  intro w0 hSw
                  (try dsimp only at hSw)
                  go_simp
                  try with_reducible rfl
                try simp only [Act.put, qaSw, qbSw, qcSw, qdSw, qeSw, qfSw]
                refine wpAnyN_take (i := 15) (v := ?_) rfl (by kernel_rfl) (by kernel_rfl) (by kernel_rfl) (by kernel_rfl) (fun _ _ _ h => h) (Or.inl ⟨by kernel_rfl, ?y43⟩) hHeld ?_
                case y43 =>
                  intro w0 hSw
                  (try dsimp only at hSw)
                  go_simp
                  try with_reducible rfl
                try simp only [Act.put, qaSw, qbSw, qcSw, qdSw, qeSw, qfSw]
                refine wpAnyN_take (i := 16) (v := ?_) rfl (by kernel_rfl) (by kernel_rfl) (by kernel_rfl) (by kernel_rfl) (fun _ _ _ h => h) (Or.inl ⟨by kernel_rfl, ?y44⟩) hHeld ?_
                case y44 =>
                  intro w0 hSw
                  (try dsimp only at hSw)
                  go_simp
                  try with_reducible rfl
                try simp only [Act.put, qaSw, qbSw, qcSw, qdSw, qeSw, qfSw]
                refine wpAnyN_take (i := 17) (v := ?_) rfl (by kernel_rfl) (by kernel_rfl) (by kernel_rfl) (by kernel_rfl) (fun _ _ _ h => h) (Or.inl ⟨by kernel_rfl, ?y45⟩) hHeld ?_
                case y45 =>
                  intro w0 hSw
                  (try dsimp only at hSw)
                  go_simp
                  try with_reducible rfl
                try simp only [Act.put, qaSw, qbSw, qcSw, qdSw, qeSw, qfSw]
                refine wpAnyN_take (i := 18) (v := ?_) rfl (by kernel_rfl) (by kernel_rfl) (by kernel_rfl) (by kernel_rfl) (fun _ _ _ h => h) (Or.inl ⟨by kernel_rfl, ?y46⟩) hHeld ?_
                case y46 =>
                  intro w0 hSw
                  (try dsimp only at hSw)
                  go_simp
                  try with_reducible rfl
                try simp only [Act.put, qaSw, qbSw, qcSw, qdSw, qeSw, qfSw]
                refine wpAnyN_step (i := 9) (by kernel_rfl) rfl (fun K hK => ?_)
                go_simp
                go_at_call 28
                refine ho1.mono ?_
                rintro en wx ⟨rfl, hwx⟩
                obtain rfl := hwx.symm
                clear ho1
                go_wp2_with fail
                refine hK.out _ _ (fun _ => hHeld) ?_
                clear hK K
                try simp only [Act.put, qaSw, qbSw, qcSw, qdSw, qeSw, qfSw]
                refine wpAnyN_step (i := 19) (by kernel_rfl) rfl (fun K hK => ?_)
                go_simp
                go_at_call 28
                refine ho2.mono ?_
                rintro en wx ⟨rfl, hwx⟩
                obtain rfl := hwx.symm
                clear ho2
                go_wp2_with fail
                refine hK.out _ _ (fun _ => hHeld) ?_
                clear hK K
                try simp only [Act.put, qaSw, qbSw, qcSw, qdSw, qeSw, qfSw]
                refine wpAnyN_take (i := 20) (v := ?_) rfl (by kernel_rfl) (by kernel_rfl) (by kernel_rfl) (by kernel_rfl) (fun _ _ _ h => h) (Or.inl ⟨by kernel_rfl, ?y47⟩) hHeld ?_
                case y47 =>
                  intro w0 hSw
                  (try dsimp only at hSw)
                  go_simp
                  try with_reducible rfl
                try simp only [Act.put, qaSw, qbSw, qcSw, qdSw, qeSw, qfSw]
                refine wpAnyN_done (by kernel_rfl) ?_ _
                go_wp2
                go_roundw
                case rel => exact ⟨q + 1, by go_num, Nat.succ_le_of_lt hqn, HB9.out.drew⟩
                case measure => simpa [intOf] using meas_step2 t2.S.chart.length q hqn
            · as_aux_lemma =>
                have hbW := HBB.out.trans (hb9.mono HBB.out.size)
                have HBW := Lib.hid hbW
                clear hb9
                obtain ⟨w9, hw9⟩ : ∃ w9, w9 = wr := ⟨_, rfl⟩
                subst hw9
                obtain ⟨NT, hNT⟩ : ∃ NT, NT = t2.T.length := ⟨_, rfl⟩
                have hnt : NT ≤ 402 := by rw [hNT, HT2.out.2]; simp; omega
                have HNT := Lib.hid hNT
                have hsl : ∀ W, Below w9.heap.size w9 W → W.cell? ⟨bt, 0, none⟩ = some (.pointer (some ⟨bbt, 0, none⟩)) ∧ W.cell? ⟨bt, 1, none⟩ = some (.slice ttA NT ttc) ∧ W.cell? ⟨bu, 0, none⟩ = some (.pointer (some ⟨bbu, 0, none⟩)) := fun W hb => by
                  have hb' := HBW.out.trans (hb.mono HBW.out.size)
                  have hp := HPT.out.below hb'
                  have hq := HPU.out.below hb'
                  refine ⟨by rw [cell_of_blk hp.head]; rfl, by rw [cell_of_blk hp.head, HNT.out]; rfl, by rw [cell_of_blk hq.head]; rfl⟩
                have HSL := Lib.hid hsl
                clear hNT hsl hbW
                go_wp2
                go_loopw [17] (fun j wr => ∃ q : Nat, j = .int .i64 (q : Int) ∧ q ≤ NT ∧ Below w9.heap.size w9 wr) (fun j _ => NT - (intOf j).toNat)
                case atStart => exact ⟨0, rfl, Nat.zero_le _, Below.refl _ _⟩
                case round =>
                  obtain ⟨q, rfl, hq, hbc⟩ := hrel
                  obtain ⟨b0, b1, c0⟩ := HSL.out wr hbc
                  by_cases hqn : q < NT
                  · as_aux_lemma =>
                      have hqT : q < t2.T.length := by rw [← HNT.out]; exact hqn
                      have hb' := HBW.out.trans (hbc.mono HBW.out.size)
                      obtain ⟨ad, had, hab, hcs⟩ := (HPT.out.below hb').ev2 q hqT
                      obtain ⟨ky, hky⟩ : ∃ ky, ky = t2.T[q].key := ⟨_, rfl⟩
                      have g2 : wr.cell? ⟨(ad.add (q * 12)).block, (ad.add (q * 12)).off + 2, none⟩ = some (.string ky) := by rw [hky]; exact hcs 2 _ rfl
                      cases had
                      have hlf1 := Left_any2 (w := wr.drew) ((HPT.out.below hb').book.below (Below.refl _ wr).drew) HOK2.out.ok.ok ky
                      have hlf2 := fun m => Left_any2 (w := wr.drewN (1 + m + 1)) ((HPU.out.below hb').book.below (below_drewN (Below.refl _ wr) _)) HOK6.out.ok.ok ky
                      rw [HCLA.out] at hlf2
                      obtain ⟨LV, hLV⟩ : ∃ LV, LV = leftV (claimOf t2.S ky) := ⟨_, rfl⟩
                      obtain ⟨LI, hLI⟩ : ∃ LI, LI = (claimOf t2.S ky).isSome := ⟨_, rfl⟩
                      rw [← hLV, ← hLI] at hlf1 hlf2
                      have hs : ∀ W : World, (∀ a, W.cell? a = wr.cell? a) → W.cell? ⟨bt, 0, none⟩ = some (.pointer (some ⟨bbt, 0, none⟩)) ∧ W.cell? ⟨bt, 1, none⟩ = some (.slice (some ad) NT ttc) ∧ W.cell? ⟨bu, 0, none⟩ = some (.pointer (some ⟨bbu, 0, none⟩)) ∧ W.cell? ⟨(ad.add (q * 12)).block, (ad.add (q * 12)).off + 2, none⟩ = some (.string ky) := fun W hW => ⟨by rw [hW]; exact b0, by rw [hW]; exact b1, by rw [hW]; exact c0, by rw [hW]; exact g2⟩
                      have hHeld := hs wr.drew fun _ => rfl
                      have HS := Lib.hid hs
                      have HBC := Lib.hid hbc
                      unfold ptrV at hlf1 hlf2
                      clear hb' hab hcs hky hbc hLV hLI hs c0 g2
                      go_wp2
                      clear b0 b1
                      refine wp_region_n (n := 18) (S := fun w' => w'.cell? ⟨bt, 0, none⟩ = some (.pointer (some ⟨bbt, 0, none⟩)) ∧ w'.cell? ⟨bt, 1, none⟩ = some (.slice (some ad) NT ttc) ∧ w'.cell? ⟨bu, 0, none⟩ = some (.pointer (some ⟨bbu, 0, none⟩)) ∧ w'.cell? ⟨(ad.add (q * 12)).block, (ad.add (q * 12)).off + 2, none⟩ = some (.string ky)) (by kernel_rfl) ?_
                      refine wpAnyN_take (i := 0) (v := ?_) rfl (by kernel_rfl) (by kernel_rfl) (by kernel_rfl) (by kernel_rfl) (fun _ _ _ h => h) (Or.inl ⟨by kernel_rfl, ?y48⟩) hHeld ?_
                      case y48 =>
                        intro w0 hSw
                        (try dsimp only at hSw)
                        go_simp
                        try with_reducible rfl
                      try simp only [Act.put, qaSw, qbSw, qcSw, qdSw, qeSw, qfSw]
                      refine wpAnyN_take (i := 1) (v := ?_) rfl (by kernel_rfl) (by kernel_rfl) (by kernel_rfl) (by kernel_rfl) (fun _ _ _ h => h) (Or.inl ⟨by kernel_rfl, ?y49⟩) hHeld ?_
                      case y49 =>
                        intro w0 hSw
                        (try dsimp only at hSw)
                        go_simp
                        try with_reducible rfl
                      try simp only [Act.put, qaSw, qbSw, qcSw, qdSw, qeSw, qfSw]
                      refine wpAnyN_take (i := 2) (v := ?_) rfl (by kernel_rfl) (by kernel_rfl) (by kernel_rfl) (by kernel_rfl) (fun _ _ _ h => h) (Or.inl ⟨by kernel_rfl, ?y50⟩) hHeld ?_
                      case y50 =>
                        intro w0 hSw
                        (try dsimp only at hSw)
                        go_simp
                        try with_reducible rfl
                      try simp only [Act.put, qaSw, qbSw, qcSw, qdSw, qeSw, qfSw]
                      refine wpAnyN_take (i := 3) (v := ?_) rfl (by kernel_rfl) (by kernel_rfl) (by kernel_rfl) (by kernel_rfl) (fun _ _ _ h => h) (Or.inl ⟨by kernel_rfl, ?y51⟩) hHeld ?_
                      case y51 =>
                        intro w0 hSw
                        (try dsimp only at hSw)
                        go_simp
                        try with_reducible rfl
                      try simp only [Act.put, qaSw, qbSw, qcSw, qdSw, qeSw, qfSw]
                      refine wpAnyN_take (i := 4) (v := ?_) rfl (by kernel_rfl) (by kernel_rfl) (by kernel_rfl) (by kernel_rfl) (fun _ _ _ h => h) (Or.inl ⟨by kernel_rfl, ?y52⟩) hHeld ?_
                      case y52 =>
                        intro w0 hSw
                        (try dsimp only at hSw)
                        go_simp
                        try with_reducible rfl
                      try simp only [Act.put, qaSw, qbSw, qcSw, qdSw, qeSw, qfSw]
                      refine wpAnyN_take (i := 5) (v := ?_) rfl (by kernel_rfl) (by kernel_rfl) (by kernel_rfl) (by kernel_rfl) (fun _ _ _ h => h) (Or.inl ⟨by kernel_rfl, ?y53⟩) hHeld ?_
                      case y53 =>
                        intro w0 hSw
                        (try dsimp only at hSw)
                        go_simp
                        try with_reducible rfl
                      try simp only [Act.put, qaSw, qbSw, qcSw, qdSw, qeSw, qfSw]
                      refine wpAnyN_take (i := 6) (v := ?_) rfl (by kernel_rfl) (by kernel_rfl) (by kernel_rfl) (by kernel_rfl) (fun _ _ _ h => h) (Or.inl ⟨by kernel_rfl, ?y54⟩) hHeld ?_
                      case y54 =>
                        intro w0 hSw
                        (try dsimp only at hSw)
                        go_simp
                        try with_reducible rfl
                      try simp only [Act.put, qaSw, qbSw, qcSw, qdSw, qeSw, qfSw]
                      refine wpAnyN_take (i := 7) (v := ?_) rfl (by kernel_rfl) (by kernel_rfl) (by kernel_rfl) (by kernel_rfl) (fun _ _ _ h => h) (Or.inl ⟨by kernel_rfl, ?y55⟩) hHeld ?_
                      case y55 =>
                        intro w0 hSw
                        (try dsimp only at hSw)
                        go_simp
                        try with_reducible rfl
                      try simp only [Act.put, qaSw, qbSw, qcSw, qdSw, qeSw, qfSw]
                      refine wpAnyN_take (i := 8) (v := ?_) rfl (by kernel_rfl) (by kernel_rfl) (by kernel_rfl) (by kernel_rfl) (fun _ _ _ h => h) (Or.inl ⟨by kernel_rfl, ?y56⟩) hHeld ?_
                      case y56 =>
                        intro w0 hSw
                        (try dsimp only at hSw)
                        go_simp
                        try with_reducible rfl
                      try simp only [Act.put, qaSw, qbSw, qcSw, qdSw, qeSw, qfSw]
                      refine wpAnyN_take (i := 9) (v := ?_) rfl (by kernel_rfl) (by kernel_rfl) (by kernel_rfl) (by kernel_rfl) (fun _ _ _ h => h) (Or.inl ⟨by kernel_rfl, ?y57⟩) hHeld ?_
                      case y57 =>
                        intro w0 hSw
                        (try dsimp only at hSw)
                        go_simp
                        try with_reducible rfl
                      try simp only [Act.put, qaSw, qbSw, qcSw, qdSw, qeSw, qfSw]
                      refine wpAnyN_take (i := 10) (v := ?_) rfl (by kernel_rfl) (by kernel_rfl) (by kernel_rfl) (by kernel_rfl) (fun _ _ _ h => h) (Or.inl ⟨by kernel_rfl, ?y58⟩) hHeld ?_
                      case y58 =>
                        intro w0 hSw
                        (try dsimp only at hSw)
                        go_simp
                        try with_reducible rfl
                      try simp only [Act.put, qaSw, qbSw, qcSw, qdSw, qeSw, qfSw]
                      refine wpAnyN_take (i := 11) (v := ?_) rfl (by kernel_rfl) (by kernel_rfl) (by kernel_rfl) (by kernel_rfl) (fun _ _ _ h => h) (Or.inl ⟨by kernel_rfl, ?y59⟩) hHeld ?_
                      case y59 =>
                        intro w0 hSw
                        (try dsimp only at hSw)
                        go_simp
                        try with_reducible rfl
                      try simp only [Act.put, qaSw, qbSw, qcSw, qdSw, qeSw, qfSw]
                      refine wpAnyN_step (i := 12) (by kernel_rfl) rfl (fun K hK => ?_)
                      go_simp
                      go_at_call 17
                      refine hlf1.mono ?_
                      rintro en wl ⟨rfl, m0, hwl⟩
                      subst hwl
                      clear hlf1
                      go_wp2_with fail
                      refine hK.out _ _ (fun _ => hHeld) ?_
                      clear hK K
                      try simp only [Act.put, qaSw, qbSw, qcSw, qdSw, qeSw, qfSw]
                      refine wpAnyN_take (i := 13) (v := ?_) rfl (by kernel_rfl) (by kernel_rfl) (by kernel_rfl) (by kernel_rfl) (fun _ _ _ h => h) (Or.inl ⟨by kernel_rfl, ?y60⟩) hHeld ?_
                      case y60 =>
                        intro w0 hSw
                        (try dsimp only at hSw)
                        go_simp
                        try with_reducible rfl
                      try simp only [Act.put, qaSw, qbSw, qcSw, qdSw, qeSw, qfSw]
                      refine wpAnyN_take (i := 14) (v := ?_) rfl (by kernel_rfl) (by kernel_rfl) (by kernel_rfl) (by kernel_rfl) (fun _ _ _ h => h) (Or.inl ⟨by kernel_rfl, ?y61⟩) hHeld ?_
                      case y61 =>
                        intro w0 hSw
                        (try dsimp only at hSw)
                        go_simp
                        try with_reducible rfl
                      try simp only [Act.put, qaSw, qbSw, qcSw, qdSw, qeSw, qfSw]
                      refine wpAnyN_take (i := 15) (v := ?_) rfl (by kernel_rfl) (by kernel_rfl) (by kernel_rfl) (by kernel_rfl) (fun _ _ _ h => h) (Or.inl ⟨by kernel_rfl, ?y62⟩) hHeld ?_
                      case y62 =>
                        intro w0 hSw
                        (try dsimp only at hSw)
                        go_simp
                        try with_reducible rfl
                      try simp only [Act.put, qaSw, qbSw, qcSw, qdSw, qeSw, qfSw]
                      refine wpAnyN_take (i := 16) (v := ?_) rfl (by kernel_rfl) (by kernel_rfl) (by kernel_rfl) (by kernel_rfl) (fun _ _ _ h => h) (Or.inl ⟨by kernel_rfl, ?y63⟩) hHeld ?_
                      case y63 =>
                        intro w0 hSw
                        (try dsimp only at hSw)
                        go_simp
                        try with_reducible rfl
                      try simp only [Act.put, qaSw, qbSw, qcSw, qdSw, qeSw, qfSw]
                      refine wpAnyN_take (i := 17) (v := ?_) rfl (by kernel_rfl) (by kernel_rfl) (by kernel_rfl) (by kernel_rfl) (fun _ _ _ h => h) (Or.inl ⟨by kernel_rfl, ?y64⟩) hHeld ?_
                      case y64 =>
                        intro w0 hSw
                        (try dsimp only at hSw)
                        go_simp
                        try with_reducible rfl
                      try simp only [Act.put, qaSw, qbSw, qcSw, qdSw, qeSw, qfSw]
                      refine wpAnyN_done (by kernel_rfl) ?_ _
                      go_wp2
                      have hHeld := HS.out (wr.drewN (1 + m0 + 1)) fun _ => rfl
                      have hlf3 := hlf2 m0
                      clear hlf2
                      refine wp_region_n (n := 18) (S := fun w' => w'.cell? ⟨bt, 0, none⟩ = some (.pointer (some ⟨bbt, 0, none⟩)) ∧ w'.cell? ⟨bt, 1, none⟩ = some (.slice (some ad) NT ttc) ∧ w'.cell? ⟨bu, 0, none⟩ = some (.pointer (some ⟨bbu, 0, none⟩)) ∧ w'.cell? ⟨(ad.add (q * 12)).block, (ad.add (q * 12)).off + 2, none⟩ = some (.string ky)) (by kernel_rfl) ?_
                      refine wpAnyN_take (i := 0) (v := ?_) rfl (by kernel_rfl) (by kernel_rfl) (by kernel_rfl) (by kernel_rfl) (fun _ _ _ h => h) (Or.inl ⟨by kernel_rfl, ?y65⟩) hHeld ?_
                      case y65 =>
                        intro w0 hSw
                        (try dsimp only at hSw)
                        go_simp
                        try with_reducible rfl
                      try simp only [Act.put, qaSw, qbSw, qcSw, qdSw, qeSw, qfSw]
                      refine wpAnyN_take (i := 1) (v := ?_) rfl (by kernel_rfl) (by kernel_rfl) (by kernel_rfl) (by kernel_rfl) (fun _ _ _ h => h) (Or.inl ⟨by kernel_rfl, ?y66⟩) hHeld ?_
                      case y66 =>
                        intro w0 hSw
                        (try dsimp only at hSw)
                        go_simp
                        try with_reducible rfl
                      try simp only [Act.put, qaSw, qbSw, qcSw, qdSw, qeSw, qfSw]
                      refine wpAnyN_take (i := 2) (v := ?_) rfl (by kernel_rfl) (by kernel_rfl) (by kernel_rfl) (by kernel_rfl) (fun _ _ _ h => h) (Or.inl ⟨by kernel_rfl, ?y67⟩) hHeld ?_
                      case y67 =>
                        intro w0 hSw
                        (try dsimp only at hSw)
                        go_simp
                        try with_reducible rfl
                      try simp only [Act.put, qaSw, qbSw, qcSw, qdSw, qeSw, qfSw]
                      refine wpAnyN_take (i := 3) (v := ?_) rfl (by kernel_rfl) (by kernel_rfl) (by kernel_rfl) (by kernel_rfl) (fun _ _ _ h => h) (Or.inl ⟨by kernel_rfl, ?y68⟩) hHeld ?_
                      case y68 =>
                        intro w0 hSw
                        (try dsimp only at hSw)
                        go_simp
                        try with_reducible rfl
                      try simp only [Act.put, qaSw, qbSw, qcSw, qdSw, qeSw, qfSw]
                      refine wpAnyN_take (i := 4) (v := ?_) rfl (by kernel_rfl) (by kernel_rfl) (by kernel_rfl) (by kernel_rfl) (fun _ _ _ h => h) (Or.inl ⟨by kernel_rfl, ?y69⟩) hHeld ?_
                      case y69 =>
                        intro w0 hSw
                        (try dsimp only at hSw)
                        go_simp
                        try with_reducible rfl
                      try simp only [Act.put, qaSw, qbSw, qcSw, qdSw, qeSw, qfSw]
                      refine wpAnyN_take (i := 5) (v := ?_) rfl (by kernel_rfl) (by kernel_rfl) (by kernel_rfl) (by kernel_rfl) (fun _ _ _ h => h) (Or.inl ⟨by kernel_rfl, ?y70⟩) hHeld ?_
                      case y70 =>
                        intro w0 hSw
                        (try dsimp only at hSw)
                        go_simp
                        try with_reducible rfl
                      try simp only [Act.put, qaSw, qbSw, qcSw, qdSw, qeSw, qfSw]
                      refine wpAnyN_take (i := 6) (v := ?_) rfl (by kernel_rfl) (by kernel_rfl) (by kernel_rfl) (by kernel_rfl) (fun _ _ _ h => h) (Or.inl ⟨by kernel_rfl, ?y71⟩) hHeld ?_
                      case y71 =>
                        intro w0 hSw
                        (try dsimp only at hSw)
                        go_simp
                        try with_reducible rfl
                      try simp only [Act.put, qaSw, qbSw, qcSw, qdSw, qeSw, qfSw]
                      refine wpAnyN_take (i := 7) (v := ?_) rfl (by kernel_rfl) (by kernel_rfl) (by kernel_rfl) (by kernel_rfl) (fun _ _ _ h => h) (Or.inl ⟨by kernel_rfl, ?y72⟩) hHeld ?_
                      case y72 =>
                        intro w0 hSw
                        (try dsimp only at hSw)
                        go_simp
                        try with_reducible rfl
                      try simp only [Act.put, qaSw, qbSw, qcSw, qdSw, qeSw, qfSw]
                      refine wpAnyN_take (i := 8) (v := ?_) rfl (by kernel_rfl) (by kernel_rfl) (by kernel_rfl) (by kernel_rfl) (fun _ _ _ h => h) (Or.inl ⟨by kernel_rfl, ?y73⟩) hHeld ?_
                      case y73 =>
                        intro w0 hSw
                        (try dsimp only at hSw)
                        go_simp
                        try with_reducible rfl
                      try simp only [Act.put, qaSw, qbSw, qcSw, qdSw, qeSw, qfSw]
                      refine wpAnyN_take (i := 9) (v := ?_) rfl (by kernel_rfl) (by kernel_rfl) (by kernel_rfl) (by kernel_rfl) (fun _ _ _ h => h) (Or.inl ⟨by kernel_rfl, ?y74⟩) hHeld ?_
                      case y74 =>
                        intro w0 hSw
                        (try dsimp only at hSw)
                        go_simp
                        try with_reducible rfl
                      try simp only [Act.put, qaSw, qbSw, qcSw, qdSw, qeSw, qfSw]
                      refine wpAnyN_take (i := 10) (v := ?_) rfl (by kernel_rfl) (by kernel_rfl) (by kernel_rfl) (by kernel_rfl) (fun _ _ _ h => h) (Or.inl ⟨by kernel_rfl, ?y75⟩) hHeld ?_
                      case y75 =>
                        intro w0 hSw
                        (try dsimp only at hSw)
                        go_simp
                        try with_reducible rfl
                      try simp only [Act.put, qaSw, qbSw, qcSw, qdSw, qeSw, qfSw]
                      refine wpAnyN_take (i := 11) (v := ?_) rfl (by kernel_rfl) (by kernel_rfl) (by kernel_rfl) (by kernel_rfl) (fun _ _ _ h => h) (Or.inl ⟨by kernel_rfl, ?y76⟩) hHeld ?_
                      case y76 =>
                        intro w0 hSw
                        (try dsimp only at hSw)
                        go_simp
                        try with_reducible rfl
                      try simp only [Act.put, qaSw, qbSw, qcSw, qdSw, qeSw, qfSw]
                      refine wpAnyN_step (i := 12) (by kernel_rfl) rfl (fun K hK => ?_)
                      go_simp
                      go_at_call 17
                      refine hlf3.mono ?_
                      rintro en wl ⟨rfl, m1, hwl⟩
                      subst hwl
                      clear hlf3
                      go_wp2_with fail
                      refine hK.out _ _ (fun _ => hHeld) ?_
                      clear hK K
                      try simp only [Act.put, qaSw, qbSw, qcSw, qdSw, qeSw, qfSw]
                      refine wpAnyN_take (i := 13) (v := ?_) rfl (by kernel_rfl) (by kernel_rfl) (by kernel_rfl) (by kernel_rfl) (fun _ _ _ h => h) (Or.inl ⟨by kernel_rfl, ?y77⟩) hHeld ?_
                      case y77 =>
                        intro w0 hSw
                        (try dsimp only at hSw)
                        go_simp
                        try with_reducible rfl
                      try simp only [Act.put, qaSw, qbSw, qcSw, qdSw, qeSw, qfSw]
                      refine wpAnyN_take (i := 14) (v := ?_) rfl (by kernel_rfl) (by kernel_rfl) (by kernel_rfl) (by kernel_rfl) (fun _ _ _ h => h) (Or.inl ⟨by kernel_rfl, ?y78⟩) hHeld ?_
                      case y78 =>
                        intro w0 hSw
                        (try dsimp only at hSw)
                        go_simp
                        try with_reducible rfl
                      try simp only [Act.put, qaSw, qbSw, qcSw, qdSw, qeSw, qfSw]
                      refine wpAnyN_take (i := 15) (v := ?_) rfl (by kernel_rfl) (by kernel_rfl) (by kernel_rfl) (by kernel_rfl) (fun _ _ _ h => h) (Or.inl ⟨by kernel_rfl, ?y79⟩) hHeld ?_
                      case y79 =>
                        intro w0 hSw
                        (try dsimp only at hSw)
                        go_simp
                        try with_reducible rfl
                      try simp only [Act.put, qaSw, qbSw, qcSw, qdSw, qeSw, qfSw]
                      refine wpAnyN_take (i := 16) (v := ?_) rfl (by kernel_rfl) (by kernel_rfl) (by kernel_rfl) (by kernel_rfl) (fun _ _ _ h => h) (Or.inl ⟨by kernel_rfl, ?y80⟩) hHeld ?_
                      case y80 =>
                        intro w0 hSw
                        (try dsimp only at hSw)
                        go_simp
                        try with_reducible rfl
                      try simp only [Act.put, qaSw, qbSw, qcSw, qdSw, qeSw, qfSw]
                      refine wpAnyN_take (i := 17) (v := ?_) rfl (by kernel_rfl) (by kernel_rfl) (by kernel_rfl) (by kernel_rfl) (fun _ _ _ h => h) (Or.inl ⟨by kernel_rfl, ?y81⟩) hHeld ?_
                      case y81 =>
                        intro w0 hSw
                        (try dsimp only at hSw)
                        go_simp
                        try with_reducible rfl
                      try simp only [Act.put, qaSw, qbSw, qcSw, qdSw, qeSw, qfSw]
                      refine wpAnyN_done (by kernel_rfl) ?_ _
                      go_wp2
                      go_roundw
                      case rel => exact ⟨q + 1, by go_num, Nat.succ_le_of_lt hqn, by first | exact below_drewN HBC.out _ | exact below_drewN (below_drewN HBC.out _) _⟩
                      case measure => simpa [intOf] using meas_step2 NT q hqn
                  · as_aux_lemma =>
                      have HBC := Lib.hid (HBW.out.trans (hbc.mono HBW.out.size))
                      clear hbc
                      go_wp2_with (go_at_call 14; refine (first_any _).mono ?_; rintro en wf ⟨rfl, hbf⟩; have HBF := Lib.hid hbf; clear hbf)
                      go_ret
                      have h1 := HB3.out.trans ((HB36.out.trans (HBC.out.mono HB36.out.size)).mono HB3.out.size)
                      exact ⟨rfl, h1.trans (HBF.out.mono h1.size)⟩
        · rw [decide_eq_false cy]
          clear hto3 hch3 hnew3
          have hcc := Lib.hid cy
          clear cy
          go_wp2_with (go_at_call 14; refine (first_any _).mono ?_; rintro en wf ⟨rfl, hbf⟩; have HBF := Lib.hid hbf; clear hbf)
          go_ret
          exact ⟨rfl, HB3.out.trans (HBF.out.mono HB3.out.size)⟩
  · rw [decide_eq_false hc]
    clear hto2 hch2 hnew2
    have hcc := Lib.hid hc
    clear hc
    go_wp2_with (go_at_call 14; refine (first_any _).mono ?_; rintro en wf ⟨rfl, hbf⟩; have HBF := Lib.hid hbf; clear hbf)
    go_ret
    exact ⟨rfl, HB12.out.trans (HBF.out.mono HB12.out.size)⟩
end Go.Proofs.YtgocoofcelggcaaGreatDoor
