/- daybooklaw06: plays, with all that is told. Printed by gen_plays.py. -/
import Derived.Test.YtplocldnklccfaaGreatDoorPlaysK
namespace Go.Proofs.YtplocldnklccfaaGreatDoor
theorem qaPlaysA {T : Type} (l : List T) (i : Nat) (a : T) : l.toArray.setIfInBounds i a = (l.set i a).toArray := List.setIfInBounds_toArray l i a
theorem qbPlaysA {T : Type} {x : T} {xs : List T} {a : T} : (x :: xs).set 0 a = a :: xs := List.set_cons_zero
theorem qcPlaysA {T : Type} {x : T} {xs : List T} {i : Nat} {a : T} : (x :: xs).set (i + 1) a = x :: xs.set i a := List.set_cons_succ
theorem qdPlaysA {T : Type} {xs : List T} {i : Nat} (h : i < xs.toArray.size) : xs.toArray[i] = xs[i]'(by simpa using h) := List.getElem_toArray h
theorem qePlaysA {T : Type} (a : T) (ys : List T) (i : Nat) (h : i + 1 < (a :: ys).length) : (a :: ys)[i + 1] = ys[i]'(by simpa using h) := List.getElem_cons_succ a ys i h
theorem qfPlaysA {T : Type} (a : T) (ys : List T) (h : 0 < (a :: ys).length) : (a :: ys)[0] = a := List.getElem_cons_zero a ys h
open Go.RowKit Go.Shelf
set_option linter.unusedVariables false
set_option linter.unusedSimpArgs false


set_option maxRecDepth 100000 in
set_option maxHeartbeats 8000000 in
theorem plays_all {w : World} {fv av : Value} {l : List Acct} {acts : List ActR} (h : AccAt w fv l) (ha : ActsAt w av acts) (hp : Pow w) (hle : l.length ≤ 1048576) (hs : ∀ a ∈ l, a.name.size ≤ 1048576) :
    Calls Tryz.prog 20 #[.agg #[fv, av], .bool true] w fun e w' => e = .returned (.bool true) ∧ Below w.heap.size w w' := by
  obtain ⟨AA, ac, rfl, hacts⟩ := ha.ex
  have HH := Lib.hid (And.intro h (And.intro hp (And.intro hs ha.sz)))
  have HACT := Lib.hid hacts
  have hal := ha.le
  clear h ha hp hs hacts
  obtain ⟨wb, hwb⟩ : ∃ wb, wb = w.alloc (.cells #[fv, .slice AA acts.length ac] 58) := ⟨_, rfl⟩
  have HBB : Hid (Below w.heap.size w wb ∧ wb.heap.size = w.heap.size + 1 ∧ wb.heap[w.heap.size]? = some (.cells #[fv, .slice AA acts.length ac] 58 (0, 0))) := Lib.hid (by rw [hwb]; exact ⟨bel1 w _, by simp, World.alloc_heap_new w _⟩)
  have HPC := Lib.hid fun (W : World) (hb : W.heap[w.heap.size]? = wb.heap[w.heap.size]?) => (show W.cell? ⟨w.heap.size, 0, none⟩ = some fv ∧ W.cell? ⟨w.heap.size, 1, none⟩ = some (.slice AA acts.length ac) from ⟨by rw [cell_of_blk (hb.trans HBB.out.2.2)]; rfl, by rw [cell_of_blk (hb.trans HBB.out.2.2)]; rfl⟩)
  have hn := New_side wb
  go_enter Tryz.func20, Tryz.ntmps20
  go_wp2_with (go_at_call 73; rw [← hwb]; refine hn.mono ?_; clear hn hwb; rintro e w1 ⟨c1, rfl, k1, b1⟩; have H1 := Lib.hid (And.intro k1 b1); clear k1 b1)
  go_wp2_with (go_at_call 74; refine (refNew_side w1).mono ?_; rintro e w2 ⟨r1, rfl, k2, b2⟩; have H2 := Lib.hid (And.intro k2 b2); clear k2 b2; obtain ⟨p0, p1⟩ := HPC.out (w2.alloc (.cells #[.pointer (some ⟨c1, 0, none⟩), .pointer (some ⟨r1, 0, none⟩)] 75)) ((Below.heap_alloc w2 _ _ (by have := HBB.out.2.1; have := H1.out.2.size; have := H2.out.2.size; omega)).trans ((H2.out.2.block _ (by have := HBB.out.2.1; have := H1.out.2.size; omega)).trans (H1.out.2.block _ (by have := HBB.out.2.1; omega)))))
  obtain ⟨w3, hw3⟩ : ∃ w3, w2.alloc (.cells #[.pointer (some ⟨c1, 0, none⟩), .pointer (some ⟨r1, 0, none⟩)] 75) = w3 := ⟨_, rfl⟩
  have H3 : Hid (Below w2.heap.size w2 w3 ∧ w3.heap.size = w2.heap.size + 1 ∧ w3.heap[w2.heap.size]? = some (.cells #[.pointer (some ⟨c1, 0, none⟩), .pointer (some ⟨r1, 0, none⟩)] 75 (0, 0))) := Lib.hid (by rw [← hw3]; exact ⟨bel1 w2 _, by simp, World.alloc_heap_new w2 _⟩)
  rw [hw3] at p0 p1 ⊢
  clear hw3
  have HB3 : Hid (Below w.heap.size w w3) := Lib.hid (HBB.out.1.trans ((H1.out.2.trans ((H2.out.2.trans (H3.out.1.mono H2.out.2.size)).mono H1.out.2.size)).mono HBB.out.1.size))
  go_wp2_with (go_at_call 75; refine (made_any (HH.out.1.below HB3.out) (HH.out.2.1.below HB3.out) hle HH.out.2.2.1).mono ?_; rintro e w4 ⟨c2, r2, F2, R2, L2, rfl, k4, d4, b4⟩; have H4 := Lib.hid (And.intro k4 (And.intro d4 b4)); clear k4 d4 b4 p0 p1)
  obtain ⟨W0, hW0⟩ : ∃ W0, (w4.alloc (.cells #[.pointer (some ⟨c2, 0, none⟩), .pointer (some ⟨r2, 0, none⟩)] 75)).alloc (.cells #[.int .i64 0, .slice none 0 0, .slice none 0 0, .slice none 0 0, .slice none 0 0, .slice none 0 0, .slice none 0 0, .slice none 0 0, .slice none 0 0, .slice none 0 0, .slice none 0 0, .slice none 0 0, .slice none 0 0, .slice none 0 0, .slice none 0 0, .slice none 0 0, .slice none 0 0, .slice none 0 0, .slice none 0 0, .slice none 0 0, .slice none 0 0] 49) = W0 := ⟨_, rfl⟩
  have H0 : Hid (Below w4.heap.size w4 W0 ∧ W0.heap.size = w4.heap.size + 2 ∧ W0.heap[w4.heap.size]? = some (.cells #[.pointer (some ⟨c2, 0, none⟩), .pointer (some ⟨r2, 0, none⟩)] 75 (0, 0)) ∧ W0.heap[w4.heap.size + 1]? = some (.cells #[.int .i64 0, .slice none 0 0, .slice none 0 0, .slice none 0 0, .slice none 0 0, .slice none 0 0, .slice none 0 0, .slice none 0 0, .slice none 0 0, .slice none 0 0, .slice none 0 0, .slice none 0 0, .slice none 0 0, .slice none 0 0, .slice none 0 0, .slice none 0 0, .slice none 0 0, .slice none 0 0, .slice none 0 0, .slice none 0 0, .slice none 0 0] 49 (0, 0))) := Lib.hid (by
    rw [← hW0]
    refine ⟨(bel1 w4 _).alloc (by simp) _, by simp, (Below.heap_alloc _ _ _ (by simp)).trans (World.alloc_heap_new w4 _), ?_⟩
    have := World.alloc_heap_new (w4.alloc (.cells #[.pointer (some ⟨c2, 0, none⟩), .pointer (some ⟨r2, 0, none⟩)] 75)) (.cells #[.int .i64 0, .slice none 0 0, .slice none 0 0, .slice none 0 0, .slice none 0 0, .slice none 0 0, .slice none 0 0, .slice none 0 0, .slice none 0 0, .slice none 0 0, .slice none 0 0, .slice none 0 0, .slice none 0 0, .slice none 0 0, .slice none 0 0, .slice none 0 0, .slice none 0 0, .slice none 0 0, .slice none 0 0, .slice none 0 0, .slice none 0 0] 49)
    rwa [World.size_alloc] at this)
  rw [hW0]
  clear hW0
  obtain ⟨o1, ho1⟩ : ∃ o1, o1 = w2.heap.size := ⟨_, rfl⟩
  obtain ⟨o2, ho2⟩ : ∃ o2, o2 = w4.heap.size := ⟨_, rfl⟩
  simp only [← ho1, ← ho2]
  have hkb : o2 + 1 = w4.heap.size + 1 := congrArg (· + 1) ho2
  have hsz : Hid (wb.heap.size = w.heap.size + 1 ∧ wb.heap.size ≤ w1.heap.size ∧ w1.heap.size ≤ r1 ∧ r1 < w2.heap.size ∧ w3.heap.size = w2.heap.size + 1 ∧ w3.heap.size ≤ w4.heap.size ∧ W0.heap.size = w4.heap.size + 2 ∧ o1 = w2.heap.size ∧ o2 = w4.heap.size ∧ o2 + 1 = w4.heap.size + 1) := Lib.hid ⟨HBB.out.2.1, H1.out.2.size, Nat.le_of_eq H2.out.1.1.symm, H2.out.1.2.1, H3.out.2.1, H4.out.2.2.size, H0.out.2.1, ho1, ho2, hkb⟩
  clear ho1 ho2 hkb
  obtain ⟨D, hD⟩ : ∃ D : Nat → Prop, D = fun q => w.heap.size + 1 ≤ q ∧ q ≠ o1 ∧ q ≠ o2 := ⟨_, rfl⟩
  have HD := Lib.hid hD
  clear hD
  have HPW := Lib.hid HH.out.2.1.lt
  have HT0 : Hid (Trio W0 D c1 r1 c2 r2 (o2 + 1) 0 W0) := Lib.hid (by
    obtain ⟨z1, z2, z3, z4, z5, z6, z7, z8, z9, z10⟩ := hsz.out
    have hpl := HPW.out
    have b30 : Below w3.heap.size w3 W0 := H4.out.2.2.trans (H0.out.1.mono H4.out.2.2.size)
    have b20 : Below w2.heap.size w2 W0 := H3.out.1.trans (b30.mono H3.out.1.size)
    have b10 : Below w1.heap.size w1 W0 := H2.out.2.trans (b20.mono H2.out.2.size)
    have hk := H0.out.2.2.2
    rw [← z10] at hk
    have hp0 := HH.out.2.1.below (HBB.out.1.trans ((H1.out.2.trans (b10.mono H1.out.2.size)).mono HBB.out.1.size))
    rw [HD.out]
    have hs2 := H4.out.1
    refine ⟨Ch.refl _ _, fun q hq => by omega, _, _, [], F2, R2, L2, _, ⟨H1.out.1.below b10, H2.out.1.2.2.below b20, valid_nil, fun q hq hr => by omega, fun q hq => by rcases hq with hq | hq <;> omega⟩, hs2.below H0.out.1, kept_new hk hp0 (by omega), fun q hq h2 => ?_, fun q hq h2 => ?_, fun q hq h2 => ?_, fun q hq => ?_⟩
    · have := H4.out.2.1 q h2; rcases hq with hq | hq <;> omega
    · rcases hq with hq | hq <;> omega
    · have := hs2.lt q hq; omega
    · rcases hq with (hq | hq) | hq | hq
      · left; omega
      · left; omega
      · have h5 := H4.out.2.1 q hq
        have h6 := hs2.lt q hq
        left; omega
      · left; omega)
  have HCD : Hid (∀ W q, Ch D W0 W → q < w.heap.size + 1 ∨ q = o1 ∨ q = o2 → W.heap[q]? = W0.heap[q]?) := Lib.hid fun W q hc hq => hc.block q (by obtain ⟨z1, z2, z3, z4, z5, z6, z7, z8, z9, z10⟩ := hsz.out; omega) (by rw [HD.out]; omega)
  have HBW : Hid (Below w3.heap.size w3 W0) := Lib.hid (H4.out.2.2.trans (H0.out.1.mono H4.out.2.2.size))
  have HST : Hid (∀ W, Ch D W0 W → W.cell? ⟨w.heap.size, 1, none⟩ = some (.slice AA acts.length ac) ∧ W.cell? ⟨o1, 0, none⟩ = some (.pointer (some ⟨c1, 0, none⟩)) ∧ W.cell? ⟨o1, 1, none⟩ = some (.pointer (some ⟨r1, 0, none⟩)) ∧ W.cell? ⟨o2, 0, none⟩ = some (.pointer (some ⟨c2, 0, none⟩)) ∧ W.cell? ⟨o2, 1, none⟩ = some (.pointer (some ⟨r2, 0, none⟩))) := Lib.hid fun W hc => by
    obtain ⟨z1, z2, z3, z4, z5, z6, z7, z8, z9, z10⟩ := hsz.out
    have e0 := (HCD.out W w.heap.size hc (by omega)).trans ((HBW.out.block _ (by omega)).trans ((H3.out.1.block _ (by omega)).trans ((H2.out.2.block _ (by omega)).trans (H1.out.2.block _ (by omega)))))
    have e1 := ((HCD.out W o1 hc (by omega)).trans (HBW.out.block _ (by omega))).trans ((congrArg (fun q => w3.heap[q]?) z8).trans H3.out.2.2)
    have e2 := (HCD.out W o2 hc (by omega)).trans ((congrArg (fun q => W0.heap[q]?) z9).trans H0.out.2.2.1)
    exact ⟨(HPC.out W e0).2, by rw [cell_of_blk e1]; rfl, by rw [cell_of_blk e1]; rfl, by rw [cell_of_blk e2]; rfl, by rw [cell_of_blk e2]; rfl⟩
  have HAC : Hid (∀ W, Ch D W0 W → ∀ j (hj : j < acts.length), ∃ ad, AA = some ad ∧ ad.block < w.heap.size ∧ E6 W (ad.add (j * 6)) acts[j]) := Lib.hid fun W hc j hj => by
    obtain ⟨z1, z2, z3, z4, z5, z6, z7, z8, z9, z10⟩ := hsz.out
    obtain ⟨ad, e, hl, h6⟩ := HACT.out j hj
    refine ⟨ad, e, hl, h6.keep ?_⟩
    rw [block_add]
    exact (HCD.out W _ hc (by omega)).trans ((HBW.out.block _ (by omega)).trans ((HB3.out.block _ hl)))
  have HZ : Hid (∀ x ∈ acts, x.a.name.size ≤ 1048576) := Lib.hid HH.out.2.2.2
  go_loopw [9] (fun i wr => ∃ k : Nat, i = .int .i64 (k : Int) ∧ k ≤ acts.length ∧ k ≤ 300 ∧ Trio W0 D c1 r1 c2 r2 (o2 + 1) (12 * k) wr) (fun i _ => acts.length - (intOf i).toNat)
  case atStart => exact ⟨0, rfl, Nat.zero_le _, Nat.zero_le _, HT0.out⟩
  case round =>
    obtain ⟨k, rfl, hk1, hk2, ht⟩ := hrel
    have HT := Lib.hid ht
    obtain ⟨p1, q0, q1, s0, s1⟩ := HST.out wr ht.ch
    by_cases hlt : k < acts.length ∧ k < 300
    · obtain ⟨hl1, hl2⟩ := hlt
      have hj1 : (k : Int) < (acts.length : Int) := by omega
      have hj2 : (k : Int) < 300 := by omega
      obtain ⟨ad, rfl, hadl, h6⟩ := HAC.out wr ht.ch k hl1
      have hmu : acts.length - ((k : Int) + 1).toNat < acts.length - k := by omega
      have hwk : wrap64 ((k : Int) + 1) = (k : Int) + 1 := by unfold wrap64; omega
      obtain ⟨x, hx⟩ : ∃ x, x = acts[k] := ⟨_, rfl⟩
      have HX := Lib.hid hx
      have hxs : Hid (x.a.name.size ≤ 1048576) := Lib.hid (HZ.out x (by rw [hx]; exact List.getElem_mem hl1))
      have HAK : Hid (∀ W, Ch D W0 W → E6 W (ad.add (k * 6)) x) := Lib.hid fun W hc => by
        obtain ⟨ad', e, _, h⟩ := HAC.out W hc k hl1
        obtain rfl : ad = ad' := Option.some.inj e
        rw [hx]; exact h
      clear h6 hx ht
      obtain ⟨wx, hwx⟩ : ∃ wx, wx = wr.alloc (.cells #[.pointer (some ⟨c1, 0, none⟩), .pointer (some ⟨r1, 0, none⟩)] 75) := ⟨_, rfl⟩
      have HWX : Hid (Below wr.heap.size wr wx ∧ wx.heap.size = wr.heap.size + 1 ∧ wx.heap[wr.heap.size]? = some (.cells #[.pointer (some ⟨c1, 0, none⟩), .pointer (some ⟨r1, 0, none⟩)] 75 (0, 0))) := Lib.hid (by rw [hwx]; exact ⟨bel1 wr _, by simp, World.alloc_heap_new wr _⟩)
      have hcx := HT.out.ch.below HWX.out.1
      obtain ⟨t1, x0, x1, y0, y1⟩ := HST.out wx hcx
      obtain ⟨a0, a1, a2, a3, a4, a5⟩ := HAK.out wx hcx
      have z0 : wx.cell? ⟨wr.heap.size, 0, none⟩ = some (.pointer (some ⟨c1, 0, none⟩)) := by rw [cell_of_blk HWX.out.2.2]; rfl
      have z1 : wx.cell? ⟨wr.heap.size, 1, none⟩ = some (.pointer (some ⟨r1, 0, none⟩)) := by rw [cell_of_blk HWX.out.2.2]; rfl
      have g0 := frozen_blk HWX.out.2.2 0
      have g1 := frozen_blk HWX.out.2.2 1
      rw [hwx] at t1 x0 x1 y0 y1 a0 a1 a2 a3 a4 a5 z0 z1 g0 g1
      go_wp2
      · obtain ⟨wy, hwy⟩ : ∃ wy, wr.alloc (.cells #[.pointer (some ⟨c2, 0, none⟩), .pointer (some ⟨r2, 0, none⟩)] 75) = wy := ⟨_, rfl⟩
        have HWY : Hid (Below wr.heap.size wr wy ∧ wy.heap[wr.heap.size]? = some (.cells #[.pointer (some ⟨c2, 0, none⟩), .pointer (some ⟨r2, 0, none⟩)] 75 (0, 0)) ∧ wr.heap.size < wy.heap.size) := Lib.hid (by rw [← hwy]; exact ⟨bel1 wr _, World.alloc_heap_new wr _, by simp⟩)
        rw [hwy]
        clear hwy t1 x0 x1 y0 y1 a0 a1 a2 a3 a4 a5 z0 z1 g0 g1 p1 q0 q1 s0 s1 hcx hwx
        obtain ⟨D', hD'⟩ : ∃ D' : Nat → Prop, D' = fun q => (D q ∨ W0.heap.size ≤ q) ∧ q < wr.heap.size := ⟨_, rfl⟩
        have HTY : Hid (Trio wy D' c1 r1 c2 r2 (o2 + 1) (12 * k) wy) := Lib.hid (by rw [hD']; exact HT.out.rebase HWY.out.1)
        have HDD : Hid ((∀ q, D' q → D q ∨ W0.heap.size ≤ q) ∧ ¬ D' wr.heap.size) := Lib.hid (by rw [hD']; exact ⟨fun q hq => hq.1, fun hq => Nat.lt_irrefl _ hq.2⟩)
        clear hD'
        have HCW : Hid (∀ W, Ch D' wy W → Ch D W0 W) := Lib.hid fun W hc => (HT.out.ch.below HWY.out.1).trans hc HDD.out.1
        have HS : Hid (∀ W, Ch D' wy W → W.cell? ⟨wr.heap.size, 0, none⟩ = some (.pointer (some ⟨c2, 0, none⟩)) ∧ W.cell? ⟨wr.heap.size, 1, none⟩ = some (.pointer (some ⟨r2, 0, none⟩)) ∧ W.cell? ⟨w.heap.size, 1, none⟩ = some (.slice (some ad) acts.length ac) ∧ W.cell? (ad.add (k * 6)) = some (.int .i64 x.who) ∧ W.cell? ⟨(ad.add (k * 6)).block, (ad.add (k * 6)).off + 1, none⟩ = some (.int .i64 x.a.kind) ∧ W.cell? ⟨(ad.add (k * 6)).block, (ad.add (k * 6)).off + 2, none⟩ = some (.int .i64 x.a.typ) ∧ W.cell? ⟨(ad.add (k * 6)).block, (ad.add (k * 6)).off + 3, none⟩ = some (.int .i64 x.a.day) ∧ W.cell? ⟨(ad.add (k * 6)).block, (ad.add (k * 6)).off + 4, none⟩ = some (.string x.a.name) ∧ W.cell? ⟨(ad.add (k * 6)).block, (ad.add (k * 6)).off + 5, none⟩ = some (.string x.ask)) := Lib.hid fun W hc => by
          have hx := (hc.block _ HWY.out.2.2 HDD.out.2).trans HWY.out.2.1
          obtain ⟨a0, a1, a2, a3, a4, a5⟩ := HAK.out W (HCW.out W hc)
          exact ⟨by rw [cell_of_blk hx]; rfl, by rw [cell_of_blk hx]; rfl, (HST.out W (HCW.out W hc)).1, a0, a1, a2, a3, a4, a5⟩
        have hHeld := HS.out wy.drew (Ch.refl _ wy).drew
        have hdo := (HTY.out.below ((Below.refl _ wy).drew)).does2 x.who x.a x.ask hxs.out
        unfold actV2 at hdo
        refine wp_region_n (n := 8) (S := fun w' => w'.cell? ⟨wr.heap.size, 0, none⟩ = some (.pointer (some ⟨c2, 0, none⟩)) ∧ w'.cell? ⟨wr.heap.size, 1, none⟩ = some (.pointer (some ⟨r2, 0, none⟩)) ∧ w'.cell? ⟨w.heap.size, 1, none⟩ = some (.slice (some ad) acts.length ac) ∧ w'.cell? (ad.add (k * 6)) = some (.int .i64 x.who) ∧ w'.cell? ⟨(ad.add (k * 6)).block, (ad.add (k * 6)).off + 1, none⟩ = some (.int .i64 x.a.kind) ∧ w'.cell? ⟨(ad.add (k * 6)).block, (ad.add (k * 6)).off + 2, none⟩ = some (.int .i64 x.a.typ) ∧ w'.cell? ⟨(ad.add (k * 6)).block, (ad.add (k * 6)).off + 3, none⟩ = some (.int .i64 x.a.day) ∧ w'.cell? ⟨(ad.add (k * 6)).block, (ad.add (k * 6)).off + 4, none⟩ = some (.string x.a.name) ∧ w'.cell? ⟨(ad.add (k * 6)).block, (ad.add (k * 6)).off + 5, none⟩ = some (.string x.ask)) (by kernel_rfl) ?_
        refine wpAnyN_take (i := 0) (v := ?_) rfl (by kernel_rfl) (by kernel_rfl) (by kernel_rfl) (by kernel_rfl) (fun _ _ _ h => h) (Or.inl ⟨by kernel_rfl, ?y15⟩) hHeld ?_
        case y15 =>
          intro w0 hSw
          (try dsimp only at hSw)
          go_simp
          try with_reducible rfl
        try simp only [Act.put, qaPlaysA, qbPlaysA, qcPlaysA, qdPlaysA, qePlaysA, qfPlaysA]
        refine wpAnyN_take (i := 1) (v := ?_) rfl (by kernel_rfl) (by kernel_rfl) (by kernel_rfl) (by kernel_rfl) (fun _ _ _ h => h) (Or.inl ⟨by kernel_rfl, ?y16⟩) hHeld ?_
        case y16 =>
          intro w0 hSw
          (try dsimp only at hSw)
          go_simp
          try with_reducible rfl
        try simp only [Act.put, qaPlaysA, qbPlaysA, qcPlaysA, qdPlaysA, qePlaysA, qfPlaysA]
        refine wpAnyN_take (i := 2) (v := ?_) rfl (by kernel_rfl) (by kernel_rfl) (by kernel_rfl) (by kernel_rfl) (fun _ _ _ h => h) (Or.inl ⟨by kernel_rfl, ?y17⟩) hHeld ?_
        case y17 =>
          intro w0 hSw
          (try dsimp only at hSw)
          go_simp
          try with_reducible rfl
        try simp only [Act.put, qaPlaysA, qbPlaysA, qcPlaysA, qdPlaysA, qePlaysA, qfPlaysA]
        refine wpAnyN_take (i := 3) (v := ?_) rfl (by kernel_rfl) (by kernel_rfl) (by kernel_rfl) (by kernel_rfl) (fun _ _ _ h => h) (Or.inl ⟨by kernel_rfl, ?y18⟩) hHeld ?_
        case y18 =>
          intro w0 hSw
          (try dsimp only at hSw)
          go_simp
          try with_reducible rfl
        try simp only [Act.put, qaPlaysA, qbPlaysA, qcPlaysA, qdPlaysA, qePlaysA, qfPlaysA]
        refine wpAnyN_take (i := 4) (v := ?_) rfl (by kernel_rfl) (by kernel_rfl) (by kernel_rfl) (by kernel_rfl) (fun _ _ _ h => h) (Or.inl ⟨by kernel_rfl, ?y19⟩) hHeld ?_
        case y19 =>
          intro w0 hSw
          (try dsimp only at hSw)
          go_simp
          try with_reducible rfl
        try simp only [Act.put, qaPlaysA, qbPlaysA, qcPlaysA, qdPlaysA, qePlaysA, qfPlaysA]
        refine wpAnyN_take (i := 5) (v := ?_) rfl (by kernel_rfl) (by kernel_rfl) (by kernel_rfl) (by kernel_rfl) (fun _ _ _ h => h) (Or.inl ⟨by kernel_rfl, ?y20⟩) hHeld ?_
        case y20 =>
          intro w0 hSw
          (try dsimp only at hSw)
          go_simp
          try with_reducible rfl
        try simp only [Act.put, qaPlaysA, qbPlaysA, qcPlaysA, qdPlaysA, qePlaysA, qfPlaysA]
        refine wpAnyN_step (i := 6) (by kernel_rfl) rfl (fun K hK => ?_)
        go_simp
        go_at_call 76
        refine (hdo).mono ?_
        rintro en w5 ⟨rfl, ht⟩
        have HT5 := Lib.hid ht
        have hHeld := HS.out _ ht.ch
        clear ht
        go_wp2_with fail
        refine hK.out _ _ (fun _ => hHeld) ?_
        clear hK K
        try simp only [Act.put, qaPlaysA, qbPlaysA, qcPlaysA, qdPlaysA, qePlaysA, qfPlaysA]
        refine wpAnyN_take (i := 7) (v := ?_) rfl (by kernel_rfl) (by kernel_rfl) (by kernel_rfl) (by kernel_rfl) (fun _ _ _ h => h) (Or.inl ⟨by kernel_rfl, ?y21⟩) hHeld ?_
        case y21 =>
          intro w0 hSw
          (try dsimp only at hSw)
          go_simp
          try with_reducible rfl
        try simp only [Act.put, qaPlaysA, qbPlaysA, qcPlaysA, qdPlaysA, qePlaysA, qfPlaysA]
        refine wpAnyN_done (by kernel_rfl) ?_ _
        clear hHeld hdo
        obtain ⟨p1, q0, q1, s0, s1⟩ := HST.out w5 (HCW.out w5 HT5.out.ch)
        have HSB : Hid (∀ W, Ch D' wy W → W.cell? ⟨o1, 0, none⟩ = some (.pointer (some ⟨c1, 0, none⟩)) ∧ W.cell? ⟨o1, 1, none⟩ = some (.pointer (some ⟨r1, 0, none⟩)) ∧ W.cell? ⟨o2, 0, none⟩ = some (.pointer (some ⟨c2, 0, none⟩)) ∧ W.cell? ⟨o2, 1, none⟩ = some (.pointer (some ⟨r2, 0, none⟩)) ∧ W.cell? ⟨w.heap.size, 1, none⟩ = some (.slice (some ad) acts.length ac) ∧ W.cell? (ad.add (k * 6)) = some (.int .i64 x.who) ∧ W.cell? ⟨(ad.add (k * 6)).block, (ad.add (k * 6)).off + 1, none⟩ = some (.int .i64 x.a.kind) ∧ W.cell? ⟨(ad.add (k * 6)).block, (ad.add (k * 6)).off + 2, none⟩ = some (.int .i64 x.a.typ) ∧ W.cell? ⟨(ad.add (k * 6)).block, (ad.add (k * 6)).off + 3, none⟩ = some (.int .i64 x.a.day) ∧ W.cell? ⟨(ad.add (k * 6)).block, (ad.add (k * 6)).off + 4, none⟩ = some (.string x.a.name) ∧ W.cell? ⟨(ad.add (k * 6)).block, (ad.add (k * 6)).off + 5, none⟩ = some (.string x.ask)) := Lib.hid fun W hc => by
          obtain ⟨a0, a1, a2, a3, a4, a5⟩ := HAK.out W (HCW.out W hc)
          obtain ⟨p1, q0, q1, s0, s1⟩ := HST.out W (HCW.out W hc)
          exact ⟨q0, q1, s0, s1, p1, a0, a1, a2, a3, a4, a5⟩
        have hn6 : 12 * k + 6 < 1048576 := by omega
        have hn12 : 12 * k + 6 + 6 < 1048576 := by omega
        go_wp2
        · clear p1 q0 q1 s0 s1
          have hHeld := HSB.out w5.drew HT5.out.ch.drew
          have hak := (HT5.out.below ((Below.refl _ w5).drew)).asks1 hn6 x.ask
          refine wp_region_n (n := 10) (S := fun w' => w'.cell? ⟨o1, 0, none⟩ = some (.pointer (some ⟨c1, 0, none⟩)) ∧ w'.cell? ⟨o1, 1, none⟩ = some (.pointer (some ⟨r1, 0, none⟩)) ∧ w'.cell? ⟨o2, 0, none⟩ = some (.pointer (some ⟨c2, 0, none⟩)) ∧ w'.cell? ⟨o2, 1, none⟩ = some (.pointer (some ⟨r2, 0, none⟩)) ∧ w'.cell? ⟨w.heap.size, 1, none⟩ = some (.slice (some ad) acts.length ac) ∧ w'.cell? (ad.add (k * 6)) = some (.int .i64 x.who) ∧ w'.cell? ⟨(ad.add (k * 6)).block, (ad.add (k * 6)).off + 1, none⟩ = some (.int .i64 x.a.kind) ∧ w'.cell? ⟨(ad.add (k * 6)).block, (ad.add (k * 6)).off + 2, none⟩ = some (.int .i64 x.a.typ) ∧ w'.cell? ⟨(ad.add (k * 6)).block, (ad.add (k * 6)).off + 3, none⟩ = some (.int .i64 x.a.day) ∧ w'.cell? ⟨(ad.add (k * 6)).block, (ad.add (k * 6)).off + 4, none⟩ = some (.string x.a.name) ∧ w'.cell? ⟨(ad.add (k * 6)).block, (ad.add (k * 6)).off + 5, none⟩ = some (.string x.ask)) (by kernel_rfl) ?_
          refine wpAnyN_take (i := 0) (v := ?_) rfl (by kernel_rfl) (by kernel_rfl) (by kernel_rfl) (by kernel_rfl) (fun _ _ _ h => h) (Or.inl ⟨by kernel_rfl, ?y22⟩) hHeld ?_
          case y22 =>
            intro w0 hSw
            (try dsimp only at hSw)
            go_simp
            try with_reducible rfl
          try simp only [Act.put, qaPlaysA, qbPlaysA, qcPlaysA, qdPlaysA, qePlaysA, qfPlaysA]
          refine wpAnyN_take (i := 1) (v := ?_) rfl (by kernel_rfl) (by kernel_rfl) (by kernel_rfl) (by kernel_rfl) (fun _ _ _ h => h) (Or.inl ⟨by kernel_rfl, ?y23⟩) hHeld ?_
          case y23 =>
            intro w0 hSw
            (try dsimp only at hSw)
            go_simp
            try with_reducible rfl
          try simp only [Act.put, qaPlaysA, qbPlaysA, qcPlaysA, qdPlaysA, qePlaysA, qfPlaysA]
          refine wpAnyN_take (i := 2) (v := ?_) rfl (by kernel_rfl) (by kernel_rfl) (by kernel_rfl) (by kernel_rfl) (fun _ _ _ h => h) (Or.inl ⟨by kernel_rfl, ?y24⟩) hHeld ?_
          case y24 =>
            intro w0 hSw
            (try dsimp only at hSw)
            go_simp
            try with_reducible rfl
          try simp only [Act.put, qaPlaysA, qbPlaysA, qcPlaysA, qdPlaysA, qePlaysA, qfPlaysA]
          refine wpAnyN_take (i := 3) (v := ?_) rfl (by kernel_rfl) (by kernel_rfl) (by kernel_rfl) (by kernel_rfl) (fun _ _ _ h => h) (Or.inl ⟨by kernel_rfl, ?y25⟩) hHeld ?_
          case y25 =>
            intro w0 hSw
            (try dsimp only at hSw)
            go_simp
            try with_reducible rfl
          try simp only [Act.put, qaPlaysA, qbPlaysA, qcPlaysA, qdPlaysA, qePlaysA, qfPlaysA]
          refine wpAnyN_take (i := 4) (v := ?_) rfl (by kernel_rfl) (by kernel_rfl) (by kernel_rfl) (by kernel_rfl) (fun _ _ _ h => h) (Or.inl ⟨by kernel_rfl, ?y26⟩) hHeld ?_
          case y26 =>
            intro w0 hSw
            (try dsimp only at hSw)
            go_simp
            try with_reducible rfl
          try simp only [Act.put, qaPlaysA, qbPlaysA, qcPlaysA, qdPlaysA, qePlaysA, qfPlaysA]
          refine wpAnyN_take (i := 5) (v := ?_) rfl (by kernel_rfl) (by kernel_rfl) (by kernel_rfl) (by kernel_rfl) (fun _ _ _ h => h) (Or.inl ⟨by kernel_rfl, ?y27⟩) hHeld ?_
          case y27 =>
            intro w0 hSw
            (try dsimp only at hSw)
            go_simp
            try with_reducible rfl
          try simp only [Act.put, qaPlaysA, qbPlaysA, qcPlaysA, qdPlaysA, qePlaysA, qfPlaysA]
          refine wpAnyN_take (i := 6) (v := ?_) rfl (by kernel_rfl) (by kernel_rfl) (by kernel_rfl) (by kernel_rfl) (fun _ _ _ h => h) (Or.inl ⟨by kernel_rfl, ?y28⟩) hHeld ?_
          case y28 =>
            intro w0 hSw
            (try dsimp only at hSw)
            go_simp
            try with_reducible rfl
          try simp only [Act.put, qaPlaysA, qbPlaysA, qcPlaysA, qdPlaysA, qePlaysA, qfPlaysA]
          refine wpAnyN_take (i := 7) (v := ?_) rfl (by kernel_rfl) (by kernel_rfl) (by kernel_rfl) (by kernel_rfl) (fun _ _ _ h => h) (Or.inl ⟨by kernel_rfl, ?y29⟩) hHeld ?_
          case y29 =>
            intro w0 hSw
            (try dsimp only at hSw)
            go_simp
            try with_reducible rfl
          try simp only [Act.put, qaPlaysA, qbPlaysA, qcPlaysA, qdPlaysA, qePlaysA, qfPlaysA]
          refine wpAnyN_step (i := 8) (by kernel_rfl) rfl (fun K hK => ?_)
          go_simp
          go_at_call 77
          refine (hak).mono ?_
          rintro en w6 ⟨rfl, ht⟩
          have HT6 := Lib.hid ht
          have hHeld := HSB.out _ ht.ch
          clear ht
          go_wp2_with fail
          refine hK.out _ _ (fun _ => hHeld) ?_
          clear hK K
          try simp only [Act.put, qaPlaysA, qbPlaysA, qcPlaysA, qdPlaysA, qePlaysA, qfPlaysA]
          refine wpAnyN_take (i := 9) (v := ?_) rfl (by kernel_rfl) (by kernel_rfl) (by kernel_rfl) (by kernel_rfl) (fun _ _ _ h => h) (Or.inl ⟨by kernel_rfl, ?y30⟩) hHeld ?_
          case y30 =>
            intro w0 hSw
            (try dsimp only at hSw)
            go_simp
            try with_reducible rfl
          try simp only [Act.put, qaPlaysA, qbPlaysA, qcPlaysA, qdPlaysA, qePlaysA, qfPlaysA]
          refine wpAnyN_done (by kernel_rfl) ?_ _
          clear hHeld hak
          go_wp2
          have hHeld := HSB.out w6.drew HT6.out.ch.drew
          have hak := (HT6.out.below ((Below.refl _ w6).drew)).asks2 hn12 x.ask
          refine wp_region_n (n := 10) (S := fun w' => w'.cell? ⟨o1, 0, none⟩ = some (.pointer (some ⟨c1, 0, none⟩)) ∧ w'.cell? ⟨o1, 1, none⟩ = some (.pointer (some ⟨r1, 0, none⟩)) ∧ w'.cell? ⟨o2, 0, none⟩ = some (.pointer (some ⟨c2, 0, none⟩)) ∧ w'.cell? ⟨o2, 1, none⟩ = some (.pointer (some ⟨r2, 0, none⟩)) ∧ w'.cell? ⟨w.heap.size, 1, none⟩ = some (.slice (some ad) acts.length ac) ∧ w'.cell? (ad.add (k * 6)) = some (.int .i64 x.who) ∧ w'.cell? ⟨(ad.add (k * 6)).block, (ad.add (k * 6)).off + 1, none⟩ = some (.int .i64 x.a.kind) ∧ w'.cell? ⟨(ad.add (k * 6)).block, (ad.add (k * 6)).off + 2, none⟩ = some (.int .i64 x.a.typ) ∧ w'.cell? ⟨(ad.add (k * 6)).block, (ad.add (k * 6)).off + 3, none⟩ = some (.int .i64 x.a.day) ∧ w'.cell? ⟨(ad.add (k * 6)).block, (ad.add (k * 6)).off + 4, none⟩ = some (.string x.a.name) ∧ w'.cell? ⟨(ad.add (k * 6)).block, (ad.add (k * 6)).off + 5, none⟩ = some (.string x.ask)) (by kernel_rfl) ?_
          refine wpAnyN_take (i := 0) (v := ?_) rfl (by kernel_rfl) (by kernel_rfl) (by kernel_rfl) (by kernel_rfl) (fun _ _ _ h => h) (Or.inl ⟨by kernel_rfl, ?y31⟩) hHeld ?_
          case y31 =>
            intro w0 hSw
            (try dsimp only at hSw)
            go_simp
            try with_reducible rfl
          try simp only [Act.put, qaPlaysA, qbPlaysA, qcPlaysA, qdPlaysA, qePlaysA, qfPlaysA]
          refine wpAnyN_take (i := 1) (v := ?_) rfl (by kernel_rfl) (by kernel_rfl) (by kernel_rfl) (by kernel_rfl) (fun _ _ _ h => h) (Or.inl ⟨by kernel_rfl, ?y32⟩) hHeld ?_
          case y32 =>
            intro w0 hSw
            (try dsimp only at hSw)
            go_simp
            try with_reducible rfl
          try simp only [Act.put, qaPlaysA, qbPlaysA, qcPlaysA, qdPlaysA, qePlaysA, qfPlaysA]
          refine wpAnyN_take (i := 2) (v := ?_) rfl (by kernel_rfl) (by kernel_rfl) (by kernel_rfl) (by kernel_rfl) (fun _ _ _ h => h) (Or.inl ⟨by kernel_rfl, ?y33⟩) hHeld ?_
          case y33 =>
            intro w0 hSw
            (try dsimp only at hSw)
            go_simp
            try with_reducible rfl
          try simp only [Act.put, qaPlaysA, qbPlaysA, qcPlaysA, qdPlaysA, qePlaysA, qfPlaysA]
          refine wpAnyN_take (i := 3) (v := ?_) rfl (by kernel_rfl) (by kernel_rfl) (by kernel_rfl) (by kernel_rfl) (fun _ _ _ h => h) (Or.inl ⟨by kernel_rfl, ?y34⟩) hHeld ?_
          case y34 =>
            intro w0 hSw
            (try dsimp only at hSw)
            go_simp
            try with_reducible rfl
          try simp only [Act.put, qaPlaysA, qbPlaysA, qcPlaysA, qdPlaysA, qePlaysA, qfPlaysA]
          refine wpAnyN_take (i := 4) (v := ?_) rfl (by kernel_rfl) (by kernel_rfl) (by kernel_rfl) (by kernel_rfl) (fun _ _ _ h => h) (Or.inl ⟨by kernel_rfl, ?y35⟩) hHeld ?_
          case y35 =>
            intro w0 hSw
            (try dsimp only at hSw)
            go_simp
            try with_reducible rfl
          try simp only [Act.put, qaPlaysA, qbPlaysA, qcPlaysA, qdPlaysA, qePlaysA, qfPlaysA]
          refine wpAnyN_take (i := 5) (v := ?_) rfl (by kernel_rfl) (by kernel_rfl) (by kernel_rfl) (by kernel_rfl) (fun _ _ _ h => h) (Or.inl ⟨by kernel_rfl, ?y36⟩) hHeld ?_
          case y36 =>
            intro w0 hSw
            (try dsimp only at hSw)
            go_simp
            try with_reducible rfl
          try simp only [Act.put, qaPlaysA, qbPlaysA, qcPlaysA, qdPlaysA, qePlaysA, qfPlaysA]
          refine wpAnyN_take (i := 6) (v := ?_) rfl (by kernel_rfl) (by kernel_rfl) (by kernel_rfl) (by kernel_rfl) (fun _ _ _ h => h) (Or.inl ⟨by kernel_rfl, ?y37⟩) hHeld ?_
          case y37 =>
            intro w0 hSw
            (try dsimp only at hSw)
            go_simp
            try with_reducible rfl
          try simp only [Act.put, qaPlaysA, qbPlaysA, qcPlaysA, qdPlaysA, qePlaysA, qfPlaysA]
          refine wpAnyN_take (i := 7) (v := ?_) rfl (by kernel_rfl) (by kernel_rfl) (by kernel_rfl) (by kernel_rfl) (fun _ _ _ h => h) (Or.inl ⟨by kernel_rfl, ?y38⟩) hHeld ?_
          case y38 =>
            intro w0 hSw
            (try dsimp only at hSw)
            go_simp
            try with_reducible rfl
          try simp only [Act.put, qaPlaysA, qbPlaysA, qcPlaysA, qdPlaysA, qePlaysA, qfPlaysA]
          refine wpAnyN_step (i := 8) (by kernel_rfl) rfl (fun K hK => ?_)
          go_simp
          go_at_call 77
          refine (hak).mono ?_
          rintro en w7 ⟨rfl, ht⟩
          have HT7 := Lib.hid ht
          have hHeld := HSB.out _ ht.ch
          clear ht
          go_wp2_with fail
          refine hK.out _ _ (fun _ => hHeld) ?_
          clear hK K
          try simp only [Act.put, qaPlaysA, qbPlaysA, qcPlaysA, qdPlaysA, qePlaysA, qfPlaysA]
          refine wpAnyN_take (i := 9) (v := ?_) rfl (by kernel_rfl) (by kernel_rfl) (by kernel_rfl) (by kernel_rfl) (fun _ _ _ h => h) (Or.inl ⟨by kernel_rfl, ?y39⟩) hHeld ?_
          case y39 =>
            intro w0 hSw
            (try dsimp only at hSw)
            go_simp
            try with_reducible rfl
          try simp only [Act.put, qaPlaysA, qbPlaysA, qcPlaysA, qdPlaysA, qePlaysA, qfPlaysA]
          refine wpAnyN_done (by kernel_rfl) ?_ _
          clear hHeld hak
          go_wp2
          go_roundw
          case rel => exact ⟨k + 1, by go_num, by omega, by omega, (HT7.out.unbase (HT.out.ch.below HWY.out.1) HT.out.dp HDD.out.1).more (by omega)⟩
          case measure => simpa [intOf] using hmu
        · first
            | exact ⟨⟨k + 1, by go_num, by omega, by omega, (HT5.out.unbase (HT.out.ch.below HWY.out.1) HT.out.dp HDD.out.1).more (by omega)⟩, by simpa [intOf] using hmu⟩
            | (go_roundw; exact ⟨k + 1, by go_num, by omega, by omega, (HT5.out.unbase (HT.out.ch.below HWY.out.1) HT.out.dp HDD.out.1).more (by omega)⟩; simpa [intOf] using hmu)
        · clear p1 q0 q1 s0 s1
          have hHeld := HSB.out w5.drew HT5.out.ch.drew
          have hak := (HT5.out.below ((Below.refl _ w5).drew)).asks1 hn6 x.ask
          refine wp_region_n (n := 10) (S := fun w' => w'.cell? ⟨o1, 0, none⟩ = some (.pointer (some ⟨c1, 0, none⟩)) ∧ w'.cell? ⟨o1, 1, none⟩ = some (.pointer (some ⟨r1, 0, none⟩)) ∧ w'.cell? ⟨o2, 0, none⟩ = some (.pointer (some ⟨c2, 0, none⟩)) ∧ w'.cell? ⟨o2, 1, none⟩ = some (.pointer (some ⟨r2, 0, none⟩)) ∧ w'.cell? ⟨w.heap.size, 1, none⟩ = some (.slice (some ad) acts.length ac) ∧ w'.cell? (ad.add (k * 6)) = some (.int .i64 x.who) ∧ w'.cell? ⟨(ad.add (k * 6)).block, (ad.add (k * 6)).off + 1, none⟩ = some (.int .i64 x.a.kind) ∧ w'.cell? ⟨(ad.add (k * 6)).block, (ad.add (k * 6)).off + 2, none⟩ = some (.int .i64 x.a.typ) ∧ w'.cell? ⟨(ad.add (k * 6)).block, (ad.add (k * 6)).off + 3, none⟩ = some (.int .i64 x.a.day) ∧ w'.cell? ⟨(ad.add (k * 6)).block, (ad.add (k * 6)).off + 4, none⟩ = some (.string x.a.name) ∧ w'.cell? ⟨(ad.add (k * 6)).block, (ad.add (k * 6)).off + 5, none⟩ = some (.string x.ask)) (by kernel_rfl) ?_
          refine wpAnyN_take (i := 0) (v := ?_) rfl (by kernel_rfl) (by kernel_rfl) (by kernel_rfl) (by kernel_rfl) (fun _ _ _ h => h) (Or.inl ⟨by kernel_rfl, ?y22⟩) hHeld ?_
          case y22 =>
            intro w0 hSw
            (try dsimp only at hSw)
            go_simp
            try with_reducible rfl
          try simp only [Act.put, qaPlaysA, qbPlaysA, qcPlaysA, qdPlaysA, qePlaysA, qfPlaysA]
          refine wpAnyN_take (i := 1) (v := ?_) rfl (by kernel_rfl) (by kernel_rfl) (by kernel_rfl) (by kernel_rfl) (fun _ _ _ h => h) (Or.inl ⟨by kernel_rfl, ?y23⟩) hHeld ?_
          case y23 =>
            intro w0 hSw
            (try dsimp only at hSw)
            go_simp
            try with_reducible rfl
          try simp only [Act.put, qaPlaysA, qbPlaysA, qcPlaysA, qdPlaysA, qePlaysA, qfPlaysA]
          refine wpAnyN_take (i := 2) (v := ?_) rfl (by kernel_rfl) (by kernel_rfl) (by kernel_rfl) (by kernel_rfl) (fun _ _ _ h => h) (Or.inl ⟨by kernel_rfl, ?y24⟩) hHeld ?_
          case y24 =>
            intro w0 hSw
            (try dsimp only at hSw)
            go_simp
            try with_reducible rfl
          try simp only [Act.put, qaPlaysA, qbPlaysA, qcPlaysA, qdPlaysA, qePlaysA, qfPlaysA]
          refine wpAnyN_take (i := 3) (v := ?_) rfl (by kernel_rfl) (by kernel_rfl) (by kernel_rfl) (by kernel_rfl) (fun _ _ _ h => h) (Or.inl ⟨by kernel_rfl, ?y25⟩) hHeld ?_
          case y25 =>
            intro w0 hSw
            (try dsimp only at hSw)
            go_simp
            try with_reducible rfl
          try simp only [Act.put, qaPlaysA, qbPlaysA, qcPlaysA, qdPlaysA, qePlaysA, qfPlaysA]
          refine wpAnyN_take (i := 4) (v := ?_) rfl (by kernel_rfl) (by kernel_rfl) (by kernel_rfl) (by kernel_rfl) (fun _ _ _ h => h) (Or.inl ⟨by kernel_rfl, ?y26⟩) hHeld ?_
          case y26 =>
            intro w0 hSw
            (try dsimp only at hSw)
            go_simp
            try with_reducible rfl
          try simp only [Act.put, qaPlaysA, qbPlaysA, qcPlaysA, qdPlaysA, qePlaysA, qfPlaysA]
          refine wpAnyN_take (i := 5) (v := ?_) rfl (by kernel_rfl) (by kernel_rfl) (by kernel_rfl) (by kernel_rfl) (fun _ _ _ h => h) (Or.inl ⟨by kernel_rfl, ?y27⟩) hHeld ?_
          case y27 =>
            intro w0 hSw
            (try dsimp only at hSw)
            go_simp
            try with_reducible rfl
          try simp only [Act.put, qaPlaysA, qbPlaysA, qcPlaysA, qdPlaysA, qePlaysA, qfPlaysA]
          refine wpAnyN_take (i := 6) (v := ?_) rfl (by kernel_rfl) (by kernel_rfl) (by kernel_rfl) (by kernel_rfl) (fun _ _ _ h => h) (Or.inl ⟨by kernel_rfl, ?y28⟩) hHeld ?_
          case y28 =>
            intro w0 hSw
            (try dsimp only at hSw)
            go_simp
            try with_reducible rfl
          try simp only [Act.put, qaPlaysA, qbPlaysA, qcPlaysA, qdPlaysA, qePlaysA, qfPlaysA]
          refine wpAnyN_take (i := 7) (v := ?_) rfl (by kernel_rfl) (by kernel_rfl) (by kernel_rfl) (by kernel_rfl) (fun _ _ _ h => h) (Or.inl ⟨by kernel_rfl, ?y29⟩) hHeld ?_
          case y29 =>
            intro w0 hSw
            (try dsimp only at hSw)
            go_simp
            try with_reducible rfl
          try simp only [Act.put, qaPlaysA, qbPlaysA, qcPlaysA, qdPlaysA, qePlaysA, qfPlaysA]
          refine wpAnyN_step (i := 8) (by kernel_rfl) rfl (fun K hK => ?_)
          go_simp
          go_at_call 77
          refine (hak).mono ?_
          rintro en w6 ⟨rfl, ht⟩
          have HT6 := Lib.hid ht
          have hHeld := HSB.out _ ht.ch
          clear ht
          go_wp2_with fail
          refine hK.out _ _ (fun _ => hHeld) ?_
          clear hK K
          try simp only [Act.put, qaPlaysA, qbPlaysA, qcPlaysA, qdPlaysA, qePlaysA, qfPlaysA]
          refine wpAnyN_take (i := 9) (v := ?_) rfl (by kernel_rfl) (by kernel_rfl) (by kernel_rfl) (by kernel_rfl) (fun _ _ _ h => h) (Or.inl ⟨by kernel_rfl, ?y30⟩) hHeld ?_
          case y30 =>
            intro w0 hSw
            (try dsimp only at hSw)
            go_simp
            try with_reducible rfl
          try simp only [Act.put, qaPlaysA, qbPlaysA, qcPlaysA, qdPlaysA, qePlaysA, qfPlaysA]
          refine wpAnyN_done (by kernel_rfl) ?_ _
          clear hHeld hak
          go_wp2
          have hHeld := HSB.out w6.drew HT6.out.ch.drew
          have hak := (HT6.out.below ((Below.refl _ w6).drew)).asks2 hn12 x.ask
          refine wp_region_n (n := 10) (S := fun w' => w'.cell? ⟨o1, 0, none⟩ = some (.pointer (some ⟨c1, 0, none⟩)) ∧ w'.cell? ⟨o1, 1, none⟩ = some (.pointer (some ⟨r1, 0, none⟩)) ∧ w'.cell? ⟨o2, 0, none⟩ = some (.pointer (some ⟨c2, 0, none⟩)) ∧ w'.cell? ⟨o2, 1, none⟩ = some (.pointer (some ⟨r2, 0, none⟩)) ∧ w'.cell? ⟨w.heap.size, 1, none⟩ = some (.slice (some ad) acts.length ac) ∧ w'.cell? (ad.add (k * 6)) = some (.int .i64 x.who) ∧ w'.cell? ⟨(ad.add (k * 6)).block, (ad.add (k * 6)).off + 1, none⟩ = some (.int .i64 x.a.kind) ∧ w'.cell? ⟨(ad.add (k * 6)).block, (ad.add (k * 6)).off + 2, none⟩ = some (.int .i64 x.a.typ) ∧ w'.cell? ⟨(ad.add (k * 6)).block, (ad.add (k * 6)).off + 3, none⟩ = some (.int .i64 x.a.day) ∧ w'.cell? ⟨(ad.add (k * 6)).block, (ad.add (k * 6)).off + 4, none⟩ = some (.string x.a.name) ∧ w'.cell? ⟨(ad.add (k * 6)).block, (ad.add (k * 6)).off + 5, none⟩ = some (.string x.ask)) (by kernel_rfl) ?_
          refine wpAnyN_take (i := 0) (v := ?_) rfl (by kernel_rfl) (by kernel_rfl) (by kernel_rfl) (by kernel_rfl) (fun _ _ _ h => h) (Or.inl ⟨by kernel_rfl, ?y31⟩) hHeld ?_
          case y31 =>
            intro w0 hSw
            (try dsimp only at hSw)
            go_simp
            try with_reducible rfl
          try simp only [Act.put, qaPlaysA, qbPlaysA, qcPlaysA, qdPlaysA, qePlaysA, qfPlaysA]
          refine wpAnyN_take (i := 1) (v := ?_) rfl (by kernel_rfl) (by kernel_rfl) (by kernel_rfl) (by kernel_rfl) (fun _ _ _ h => h) (Or.inl ⟨by kernel_rfl, ?y32⟩) hHeld ?_
          case y32 =>
            intro w0 hSw
            (try dsimp only at hSw)
            go_simp
            try with_reducible rfl
          try simp only [Act.put, qaPlaysA, qbPlaysA, qcPlaysA, qdPlaysA, qePlaysA, qfPlaysA]
          refine wpAnyN_take (i := 2) (v := ?_) rfl (by kernel_rfl) (by kernel_rfl) (by kernel_rfl) (by kernel_rfl) (fun _ _ _ h => h) (Or.inl ⟨by kernel_rfl, ?y33⟩) hHeld ?_
          case y33 =>
            intro w0 hSw
            (try dsimp only at hSw)
            go_simp
            try with_reducible rfl
          try simp only [Act.put, qaPlaysA, qbPlaysA, qcPlaysA, qdPlaysA, qePlaysA, qfPlaysA]
          refine wpAnyN_take (i := 3) (v := ?_) rfl (by kernel_rfl) (by kernel_rfl) (by kernel_rfl) (by kernel_rfl) (fun _ _ _ h => h) (Or.inl ⟨by kernel_rfl, ?y34⟩) hHeld ?_
          case y34 =>
            intro w0 hSw
            (try dsimp only at hSw)
            go_simp
            try with_reducible rfl
          try simp only [Act.put, qaPlaysA, qbPlaysA, qcPlaysA, qdPlaysA, qePlaysA, qfPlaysA]
          refine wpAnyN_take (i := 4) (v := ?_) rfl (by kernel_rfl) (by kernel_rfl) (by kernel_rfl) (by kernel_rfl) (fun _ _ _ h => h) (Or.inl ⟨by kernel_rfl, ?y35⟩) hHeld ?_
          case y35 =>
            intro w0 hSw
            (try dsimp only at hSw)
            go_simp
            try with_reducible rfl
          try simp only [Act.put, qaPlaysA, qbPlaysA, qcPlaysA, qdPlaysA, qePlaysA, qfPlaysA]
          refine wpAnyN_take (i := 5) (v := ?_) rfl (by kernel_rfl) (by kernel_rfl) (by kernel_rfl) (by kernel_rfl) (fun _ _ _ h => h) (Or.inl ⟨by kernel_rfl, ?y36⟩) hHeld ?_
          case y36 =>
            intro w0 hSw
            (try dsimp only at hSw)
            go_simp
            try with_reducible rfl
          try simp only [Act.put, qaPlaysA, qbPlaysA, qcPlaysA, qdPlaysA, qePlaysA, qfPlaysA]
          refine wpAnyN_take (i := 6) (v := ?_) rfl (by kernel_rfl) (by kernel_rfl) (by kernel_rfl) (by kernel_rfl) (fun _ _ _ h => h) (Or.inl ⟨by kernel_rfl, ?y37⟩) hHeld ?_
          case y37 =>
            intro w0 hSw
            (try dsimp only at hSw)
            go_simp
            try with_reducible rfl
          try simp only [Act.put, qaPlaysA, qbPlaysA, qcPlaysA, qdPlaysA, qePlaysA, qfPlaysA]
          refine wpAnyN_take (i := 7) (v := ?_) rfl (by kernel_rfl) (by kernel_rfl) (by kernel_rfl) (by kernel_rfl) (fun _ _ _ h => h) (Or.inl ⟨by kernel_rfl, ?y38⟩) hHeld ?_
          case y38 =>
            intro w0 hSw
            (try dsimp only at hSw)
            go_simp
            try with_reducible rfl
          try simp only [Act.put, qaPlaysA, qbPlaysA, qcPlaysA, qdPlaysA, qePlaysA, qfPlaysA]
          refine wpAnyN_step (i := 8) (by kernel_rfl) rfl (fun K hK => ?_)
          go_simp
          go_at_call 77
          refine (hak).mono ?_
          rintro en w7 ⟨rfl, ht⟩
          have HT7 := Lib.hid ht
          have hHeld := HSB.out _ ht.ch
          clear ht
          go_wp2_with fail
          refine hK.out _ _ (fun _ => hHeld) ?_
          clear hK K
          try simp only [Act.put, qaPlaysA, qbPlaysA, qcPlaysA, qdPlaysA, qePlaysA, qfPlaysA]
          refine wpAnyN_take (i := 9) (v := ?_) rfl (by kernel_rfl) (by kernel_rfl) (by kernel_rfl) (by kernel_rfl) (fun _ _ _ h => h) (Or.inl ⟨by kernel_rfl, ?y39⟩) hHeld ?_
          case y39 =>
            intro w0 hSw
            (try dsimp only at hSw)
            go_simp
            try with_reducible rfl
          try simp only [Act.put, qaPlaysA, qbPlaysA, qcPlaysA, qdPlaysA, qePlaysA, qfPlaysA]
          refine wpAnyN_done (by kernel_rfl) ?_ _
          clear hHeld hak
          go_wp2
          go_roundw
          case rel => exact ⟨k + 1, by go_num, by omega, by omega, (HT7.out.unbase (HT.out.ch.below HWY.out.1) HT.out.dp HDD.out.1).more (by omega)⟩
          case measure => simpa [intOf] using hmu
      · obtain ⟨wy, hwy⟩ : ∃ wy, wr.alloc (.cells #[.pointer (some ⟨c1, 0, none⟩), .pointer (some ⟨r1, 0, none⟩)] 75) = wy := ⟨_, rfl⟩
        have HWY : Hid (Below wr.heap.size wr wy ∧ wy.heap[wr.heap.size]? = some (.cells #[.pointer (some ⟨c1, 0, none⟩), .pointer (some ⟨r1, 0, none⟩)] 75 (0, 0)) ∧ wr.heap.size < wy.heap.size) := Lib.hid (by rw [← hwy]; exact ⟨bel1 wr _, World.alloc_heap_new wr _, by simp⟩)
        rw [hwy]
        clear hwy t1 x0 x1 y0 y1 a0 a1 a2 a3 a4 a5 z0 z1 g0 g1 p1 q0 q1 s0 s1 hcx hwx
        obtain ⟨D', hD'⟩ : ∃ D' : Nat → Prop, D' = fun q => (D q ∨ W0.heap.size ≤ q) ∧ q < wr.heap.size := ⟨_, rfl⟩
        have HTY : Hid (Trio wy D' c1 r1 c2 r2 (o2 + 1) (12 * k) wy) := Lib.hid (by rw [hD']; exact HT.out.rebase HWY.out.1)
        have HDD : Hid ((∀ q, D' q → D q ∨ W0.heap.size ≤ q) ∧ ¬ D' wr.heap.size) := Lib.hid (by rw [hD']; exact ⟨fun q hq => hq.1, fun hq => Nat.lt_irrefl _ hq.2⟩)
        clear hD'
        have HCW : Hid (∀ W, Ch D' wy W → Ch D W0 W) := Lib.hid fun W hc => (HT.out.ch.below HWY.out.1).trans hc HDD.out.1
        have HS : Hid (∀ W, Ch D' wy W → W.cell? ⟨wr.heap.size, 0, none⟩ = some (.pointer (some ⟨c1, 0, none⟩)) ∧ W.cell? ⟨wr.heap.size, 1, none⟩ = some (.pointer (some ⟨r1, 0, none⟩)) ∧ W.cell? ⟨w.heap.size, 1, none⟩ = some (.slice (some ad) acts.length ac) ∧ W.cell? (ad.add (k * 6)) = some (.int .i64 x.who) ∧ W.cell? ⟨(ad.add (k * 6)).block, (ad.add (k * 6)).off + 1, none⟩ = some (.int .i64 x.a.kind) ∧ W.cell? ⟨(ad.add (k * 6)).block, (ad.add (k * 6)).off + 2, none⟩ = some (.int .i64 x.a.typ) ∧ W.cell? ⟨(ad.add (k * 6)).block, (ad.add (k * 6)).off + 3, none⟩ = some (.int .i64 x.a.day) ∧ W.cell? ⟨(ad.add (k * 6)).block, (ad.add (k * 6)).off + 4, none⟩ = some (.string x.a.name) ∧ W.cell? ⟨(ad.add (k * 6)).block, (ad.add (k * 6)).off + 5, none⟩ = some (.string x.ask)) := Lib.hid fun W hc => by
          have hx := (hc.block _ HWY.out.2.2 HDD.out.2).trans HWY.out.2.1
          obtain ⟨a0, a1, a2, a3, a4, a5⟩ := HAK.out W (HCW.out W hc)
          exact ⟨by rw [cell_of_blk hx]; rfl, by rw [cell_of_blk hx]; rfl, (HST.out W (HCW.out W hc)).1, a0, a1, a2, a3, a4, a5⟩
        have hHeld := HS.out wy.drew (Ch.refl _ wy).drew
        have hdo := (HTY.out.below ((Below.refl _ wy).drew)).does1 x.who x.a x.ask hxs.out
        unfold actV2 at hdo
        refine wp_region_n (n := 8) (S := fun w' => w'.cell? ⟨wr.heap.size, 0, none⟩ = some (.pointer (some ⟨c1, 0, none⟩)) ∧ w'.cell? ⟨wr.heap.size, 1, none⟩ = some (.pointer (some ⟨r1, 0, none⟩)) ∧ w'.cell? ⟨w.heap.size, 1, none⟩ = some (.slice (some ad) acts.length ac) ∧ w'.cell? (ad.add (k * 6)) = some (.int .i64 x.who) ∧ w'.cell? ⟨(ad.add (k * 6)).block, (ad.add (k * 6)).off + 1, none⟩ = some (.int .i64 x.a.kind) ∧ w'.cell? ⟨(ad.add (k * 6)).block, (ad.add (k * 6)).off + 2, none⟩ = some (.int .i64 x.a.typ) ∧ w'.cell? ⟨(ad.add (k * 6)).block, (ad.add (k * 6)).off + 3, none⟩ = some (.int .i64 x.a.day) ∧ w'.cell? ⟨(ad.add (k * 6)).block, (ad.add (k * 6)).off + 4, none⟩ = some (.string x.a.name) ∧ w'.cell? ⟨(ad.add (k * 6)).block, (ad.add (k * 6)).off + 5, none⟩ = some (.string x.ask)) (by kernel_rfl) ?_
        refine wpAnyN_take (i := 0) (v := ?_) rfl (by kernel_rfl) (by kernel_rfl) (by kernel_rfl) (by kernel_rfl) (fun _ _ _ h => h) (Or.inl ⟨by kernel_rfl, ?y40⟩) hHeld ?_
        case y40 =>
          intro w0 hSw
          (try dsimp only at hSw)
          go_simp
          try with_reducible rfl
        try simp only [Act.put, qaPlaysA, qbPlaysA, qcPlaysA, qdPlaysA, qePlaysA, qfPlaysA]
        refine wpAnyN_take (i := 1) (v := ?_) rfl (by kernel_rfl) (by kernel_rfl) (by kernel_rfl) (by kernel_rfl) (fun _ _ _ h => h) (Or.inl ⟨by kernel_rfl, ?y41⟩) hHeld ?_
        case y41 =>
          intro w0 hSw
          (try dsimp only at hSw)
          go_simp
          try with_reducible rfl
        try simp only [Act.put, qaPlaysA, qbPlaysA, qcPlaysA, qdPlaysA, qePlaysA, qfPlaysA]
        refine wpAnyN_take (i := 2) (v := ?_) rfl (by kernel_rfl) (by kernel_rfl) (by kernel_rfl) (by kernel_rfl) (fun _ _ _ h => h) (Or.inl ⟨by kernel_rfl, ?y42⟩) hHeld ?_
        case y42 =>
          intro w0 hSw
          (try dsimp only at hSw)
          go_simp
          try with_reducible rfl
        try simp only [Act.put, qaPlaysA, qbPlaysA, qcPlaysA, qdPlaysA, qePlaysA, qfPlaysA]
        refine wpAnyN_take (i := 3) (v := ?_) rfl (by kernel_rfl) (by kernel_rfl) (by kernel_rfl) (by kernel_rfl) (fun _ _ _ h => h) (Or.inl ⟨by kernel_rfl, ?y43⟩) hHeld ?_
        case y43 =>
          intro w0 hSw
          (try dsimp only at hSw)
          go_simp
          try with_reducible rfl
        try simp only [Act.put, qaPlaysA, qbPlaysA, qcPlaysA, qdPlaysA, qePlaysA, qfPlaysA]
        refine wpAnyN_take (i := 4) (v := ?_) rfl (by kernel_rfl) (by kernel_rfl) (by kernel_rfl) (by kernel_rfl) (fun _ _ _ h => h) (Or.inl ⟨by kernel_rfl, ?y44⟩) hHeld ?_
        case y44 =>
          intro w0 hSw
          (try dsimp only at hSw)
          go_simp
          try with_reducible rfl
        try simp only [Act.put, qaPlaysA, qbPlaysA, qcPlaysA, qdPlaysA, qePlaysA, qfPlaysA]
        refine wpAnyN_take (i := 5) (v := ?_) rfl (by kernel_rfl) (by kernel_rfl) (by kernel_rfl) (by kernel_rfl) (fun _ _ _ h => h) (Or.inl ⟨by kernel_rfl, ?y45⟩) hHeld ?_
        case y45 =>
          intro w0 hSw
          (try dsimp only at hSw)
          go_simp
          try with_reducible rfl
        try simp only [Act.put, qaPlaysA, qbPlaysA, qcPlaysA, qdPlaysA, qePlaysA, qfPlaysA]
        refine wpAnyN_step (i := 6) (by kernel_rfl) rfl (fun K hK => ?_)
        go_simp
        go_at_call 76
        refine (hdo).mono ?_
        rintro en w5 ⟨rfl, ht⟩
        have HT5 := Lib.hid ht
        have hHeld := HS.out _ ht.ch
        clear ht
        go_wp2_with fail
        refine hK.out _ _ (fun _ => hHeld) ?_
        clear hK K
        try simp only [Act.put, qaPlaysA, qbPlaysA, qcPlaysA, qdPlaysA, qePlaysA, qfPlaysA]
        refine wpAnyN_take (i := 7) (v := ?_) rfl (by kernel_rfl) (by kernel_rfl) (by kernel_rfl) (by kernel_rfl) (fun _ _ _ h => h) (Or.inl ⟨by kernel_rfl, ?y46⟩) hHeld ?_
        case y46 =>
          intro w0 hSw
          (try dsimp only at hSw)
          go_simp
          try with_reducible rfl
        try simp only [Act.put, qaPlaysA, qbPlaysA, qcPlaysA, qdPlaysA, qePlaysA, qfPlaysA]
        refine wpAnyN_done (by kernel_rfl) ?_ _
        clear hHeld hdo
        obtain ⟨p1, q0, q1, s0, s1⟩ := HST.out w5 (HCW.out w5 HT5.out.ch)
        have HSB : Hid (∀ W, Ch D' wy W → W.cell? ⟨o1, 0, none⟩ = some (.pointer (some ⟨c1, 0, none⟩)) ∧ W.cell? ⟨o1, 1, none⟩ = some (.pointer (some ⟨r1, 0, none⟩)) ∧ W.cell? ⟨o2, 0, none⟩ = some (.pointer (some ⟨c2, 0, none⟩)) ∧ W.cell? ⟨o2, 1, none⟩ = some (.pointer (some ⟨r2, 0, none⟩)) ∧ W.cell? ⟨w.heap.size, 1, none⟩ = some (.slice (some ad) acts.length ac) ∧ W.cell? (ad.add (k * 6)) = some (.int .i64 x.who) ∧ W.cell? ⟨(ad.add (k * 6)).block, (ad.add (k * 6)).off + 1, none⟩ = some (.int .i64 x.a.kind) ∧ W.cell? ⟨(ad.add (k * 6)).block, (ad.add (k * 6)).off + 2, none⟩ = some (.int .i64 x.a.typ) ∧ W.cell? ⟨(ad.add (k * 6)).block, (ad.add (k * 6)).off + 3, none⟩ = some (.int .i64 x.a.day) ∧ W.cell? ⟨(ad.add (k * 6)).block, (ad.add (k * 6)).off + 4, none⟩ = some (.string x.a.name) ∧ W.cell? ⟨(ad.add (k * 6)).block, (ad.add (k * 6)).off + 5, none⟩ = some (.string x.ask)) := Lib.hid fun W hc => by
          obtain ⟨a0, a1, a2, a3, a4, a5⟩ := HAK.out W (HCW.out W hc)
          obtain ⟨p1, q0, q1, s0, s1⟩ := HST.out W (HCW.out W hc)
          exact ⟨q0, q1, s0, s1, p1, a0, a1, a2, a3, a4, a5⟩
        have hn6 : 12 * k + 6 < 1048576 := by omega
        have hn12 : 12 * k + 6 + 6 < 1048576 := by omega
        go_wp2
        · clear p1 q0 q1 s0 s1
          have hHeld := HSB.out w5.drew HT5.out.ch.drew
          have hak := (HT5.out.below ((Below.refl _ w5).drew)).asks1 hn6 x.ask
          refine wp_region_n (n := 10) (S := fun w' => w'.cell? ⟨o1, 0, none⟩ = some (.pointer (some ⟨c1, 0, none⟩)) ∧ w'.cell? ⟨o1, 1, none⟩ = some (.pointer (some ⟨r1, 0, none⟩)) ∧ w'.cell? ⟨o2, 0, none⟩ = some (.pointer (some ⟨c2, 0, none⟩)) ∧ w'.cell? ⟨o2, 1, none⟩ = some (.pointer (some ⟨r2, 0, none⟩)) ∧ w'.cell? ⟨w.heap.size, 1, none⟩ = some (.slice (some ad) acts.length ac) ∧ w'.cell? (ad.add (k * 6)) = some (.int .i64 x.who) ∧ w'.cell? ⟨(ad.add (k * 6)).block, (ad.add (k * 6)).off + 1, none⟩ = some (.int .i64 x.a.kind) ∧ w'.cell? ⟨(ad.add (k * 6)).block, (ad.add (k * 6)).off + 2, none⟩ = some (.int .i64 x.a.typ) ∧ w'.cell? ⟨(ad.add (k * 6)).block, (ad.add (k * 6)).off + 3, none⟩ = some (.int .i64 x.a.day) ∧ w'.cell? ⟨(ad.add (k * 6)).block, (ad.add (k * 6)).off + 4, none⟩ = some (.string x.a.name) ∧ w'.cell? ⟨(ad.add (k * 6)).block, (ad.add (k * 6)).off + 5, none⟩ = some (.string x.ask)) (by kernel_rfl) ?_
          refine wpAnyN_take (i := 0) (v := ?_) rfl (by kernel_rfl) (by kernel_rfl) (by kernel_rfl) (by kernel_rfl) (fun _ _ _ h => h) (Or.inl ⟨by kernel_rfl, ?y47⟩) hHeld ?_
          case y47 =>
            intro w0 hSw
            (try dsimp only at hSw)
            go_simp
            try with_reducible rfl
          try simp only [Act.put, qaPlaysA, qbPlaysA, qcPlaysA, qdPlaysA, qePlaysA, qfPlaysA]
          refine wpAnyN_take (i := 1) (v := ?_) rfl (by kernel_rfl) (by kernel_rfl) (by kernel_rfl) (by kernel_rfl) (fun _ _ _ h => h) (Or.inl ⟨by kernel_rfl, ?y48⟩) hHeld ?_
          case y48 =>
            intro w0 hSw
            (try dsimp only at hSw)
            go_simp
            try with_reducible rfl
          try simp only [Act.put, qaPlaysA, qbPlaysA, qcPlaysA, qdPlaysA, qePlaysA, qfPlaysA]
          refine wpAnyN_take (i := 2) (v := ?_) rfl (by kernel_rfl) (by kernel_rfl) (by kernel_rfl) (by kernel_rfl) (fun _ _ _ h => h) (Or.inl ⟨by kernel_rfl, ?y49⟩) hHeld ?_
          case y49 =>
            intro w0 hSw
            (try dsimp only at hSw)
            go_simp
            try with_reducible rfl
          try simp only [Act.put, qaPlaysA, qbPlaysA, qcPlaysA, qdPlaysA, qePlaysA, qfPlaysA]
          refine wpAnyN_take (i := 3) (v := ?_) rfl (by kernel_rfl) (by kernel_rfl) (by kernel_rfl) (by kernel_rfl) (fun _ _ _ h => h) (Or.inl ⟨by kernel_rfl, ?y50⟩) hHeld ?_
          case y50 =>
            intro w0 hSw
            (try dsimp only at hSw)
            go_simp
            try with_reducible rfl
          try simp only [Act.put, qaPlaysA, qbPlaysA, qcPlaysA, qdPlaysA, qePlaysA, qfPlaysA]
          refine wpAnyN_take (i := 4) (v := ?_) rfl (by kernel_rfl) (by kernel_rfl) (by kernel_rfl) (by kernel_rfl) (fun _ _ _ h => h) (Or.inl ⟨by kernel_rfl, ?y51⟩) hHeld ?_
          case y51 =>
            intro w0 hSw
            (try dsimp only at hSw)
            go_simp
            try with_reducible rfl
          try simp only [Act.put, qaPlaysA, qbPlaysA, qcPlaysA, qdPlaysA, qePlaysA, qfPlaysA]
          refine wpAnyN_take (i := 5) (v := ?_) rfl (by kernel_rfl) (by kernel_rfl) (by kernel_rfl) (by kernel_rfl) (fun _ _ _ h => h) (Or.inl ⟨by kernel_rfl, ?y52⟩) hHeld ?_
          case y52 =>
            intro w0 hSw
            (try dsimp only at hSw)
            go_simp
            try with_reducible rfl
          try simp only [Act.put, qaPlaysA, qbPlaysA, qcPlaysA, qdPlaysA, qePlaysA, qfPlaysA]
          refine wpAnyN_take (i := 6) (v := ?_) rfl (by kernel_rfl) (by kernel_rfl) (by kernel_rfl) (by kernel_rfl) (fun _ _ _ h => h) (Or.inl ⟨by kernel_rfl, ?y53⟩) hHeld ?_
          case y53 =>
            intro w0 hSw
            (try dsimp only at hSw)
            go_simp
            try with_reducible rfl
          try simp only [Act.put, qaPlaysA, qbPlaysA, qcPlaysA, qdPlaysA, qePlaysA, qfPlaysA]
          refine wpAnyN_take (i := 7) (v := ?_) rfl (by kernel_rfl) (by kernel_rfl) (by kernel_rfl) (by kernel_rfl) (fun _ _ _ h => h) (Or.inl ⟨by kernel_rfl, ?y54⟩) hHeld ?_
          case y54 =>
            intro w0 hSw
            (try dsimp only at hSw)
            go_simp
            try with_reducible rfl
          try simp only [Act.put, qaPlaysA, qbPlaysA, qcPlaysA, qdPlaysA, qePlaysA, qfPlaysA]
          refine wpAnyN_step (i := 8) (by kernel_rfl) rfl (fun K hK => ?_)
          go_simp
          go_at_call 77
          refine (hak).mono ?_
          rintro en w6 ⟨rfl, ht⟩
          have HT6 := Lib.hid ht
          have hHeld := HSB.out _ ht.ch
          clear ht
          go_wp2_with fail
          refine hK.out _ _ (fun _ => hHeld) ?_
          clear hK K
          try simp only [Act.put, qaPlaysA, qbPlaysA, qcPlaysA, qdPlaysA, qePlaysA, qfPlaysA]
          refine wpAnyN_take (i := 9) (v := ?_) rfl (by kernel_rfl) (by kernel_rfl) (by kernel_rfl) (by kernel_rfl) (fun _ _ _ h => h) (Or.inl ⟨by kernel_rfl, ?y55⟩) hHeld ?_
          case y55 =>
            intro w0 hSw
            (try dsimp only at hSw)
            go_simp
            try with_reducible rfl
          try simp only [Act.put, qaPlaysA, qbPlaysA, qcPlaysA, qdPlaysA, qePlaysA, qfPlaysA]
          refine wpAnyN_done (by kernel_rfl) ?_ _
          clear hHeld hak
          go_wp2
          have hHeld := HSB.out w6.drew HT6.out.ch.drew
          have hak := (HT6.out.below ((Below.refl _ w6).drew)).asks2 hn12 x.ask
          refine wp_region_n (n := 10) (S := fun w' => w'.cell? ⟨o1, 0, none⟩ = some (.pointer (some ⟨c1, 0, none⟩)) ∧ w'.cell? ⟨o1, 1, none⟩ = some (.pointer (some ⟨r1, 0, none⟩)) ∧ w'.cell? ⟨o2, 0, none⟩ = some (.pointer (some ⟨c2, 0, none⟩)) ∧ w'.cell? ⟨o2, 1, none⟩ = some (.pointer (some ⟨r2, 0, none⟩)) ∧ w'.cell? ⟨w.heap.size, 1, none⟩ = some (.slice (some ad) acts.length ac) ∧ w'.cell? (ad.add (k * 6)) = some (.int .i64 x.who) ∧ w'.cell? ⟨(ad.add (k * 6)).block, (ad.add (k * 6)).off + 1, none⟩ = some (.int .i64 x.a.kind) ∧ w'.cell? ⟨(ad.add (k * 6)).block, (ad.add (k * 6)).off + 2, none⟩ = some (.int .i64 x.a.typ) ∧ w'.cell? ⟨(ad.add (k * 6)).block, (ad.add (k * 6)).off + 3, none⟩ = some (.int .i64 x.a.day) ∧ w'.cell? ⟨(ad.add (k * 6)).block, (ad.add (k * 6)).off + 4, none⟩ = some (.string x.a.name) ∧ w'.cell? ⟨(ad.add (k * 6)).block, (ad.add (k * 6)).off + 5, none⟩ = some (.string x.ask)) (by kernel_rfl) ?_
          refine wpAnyN_take (i := 0) (v := ?_) rfl (by kernel_rfl) (by kernel_rfl) (by kernel_rfl) (by kernel_rfl) (fun _ _ _ h => h) (Or.inl ⟨by kernel_rfl, ?y56⟩) hHeld ?_
          case y56 =>
            intro w0 hSw
            (try dsimp only at hSw)
            go_simp
            try with_reducible rfl
          try simp only [Act.put, qaPlaysA, qbPlaysA, qcPlaysA, qdPlaysA, qePlaysA, qfPlaysA]
          refine wpAnyN_take (i := 1) (v := ?_) rfl (by kernel_rfl) (by kernel_rfl) (by kernel_rfl) (by kernel_rfl) (fun _ _ _ h => h) (Or.inl ⟨by kernel_rfl, ?y57⟩) hHeld ?_
          case y57 =>
            intro w0 hSw
            (try dsimp only at hSw)
            go_simp
            try with_reducible rfl
          try simp only [Act.put, qaPlaysA, qbPlaysA, qcPlaysA, qdPlaysA, qePlaysA, qfPlaysA]
          refine wpAnyN_take (i := 2) (v := ?_) rfl (by kernel_rfl) (by kernel_rfl) (by kernel_rfl) (by kernel_rfl) (fun _ _ _ h => h) (Or.inl ⟨by kernel_rfl, ?y58⟩) hHeld ?_
          case y58 =>
            intro w0 hSw
            (try dsimp only at hSw)
            go_simp
            try with_reducible rfl
          try simp only [Act.put, qaPlaysA, qbPlaysA, qcPlaysA, qdPlaysA, qePlaysA, qfPlaysA]
          refine wpAnyN_take (i := 3) (v := ?_) rfl (by kernel_rfl) (by kernel_rfl) (by kernel_rfl) (by kernel_rfl) (fun _ _ _ h => h) (Or.inl ⟨by kernel_rfl, ?y59⟩) hHeld ?_
          case y59 =>
            intro w0 hSw
            (try dsimp only at hSw)
            go_simp
            try with_reducible rfl
          try simp only [Act.put, qaPlaysA, qbPlaysA, qcPlaysA, qdPlaysA, qePlaysA, qfPlaysA]
          refine wpAnyN_take (i := 4) (v := ?_) rfl (by kernel_rfl) (by kernel_rfl) (by kernel_rfl) (by kernel_rfl) (fun _ _ _ h => h) (Or.inl ⟨by kernel_rfl, ?y60⟩) hHeld ?_
          case y60 =>
            intro w0 hSw
            (try dsimp only at hSw)
            go_simp
            try with_reducible rfl
          try simp only [Act.put, qaPlaysA, qbPlaysA, qcPlaysA, qdPlaysA, qePlaysA, qfPlaysA]
          refine wpAnyN_take (i := 5) (v := ?_) rfl (by kernel_rfl) (by kernel_rfl) (by kernel_rfl) (by kernel_rfl) (fun _ _ _ h => h) (Or.inl ⟨by kernel_rfl, ?y61⟩) hHeld ?_
          case y61 =>
            intro w0 hSw
            (try dsimp only at hSw)
            go_simp
            try with_reducible rfl
          try simp only [Act.put, qaPlaysA, qbPlaysA, qcPlaysA, qdPlaysA, qePlaysA, qfPlaysA]
          refine wpAnyN_take (i := 6) (v := ?_) rfl (by kernel_rfl) (by kernel_rfl) (by kernel_rfl) (by kernel_rfl) (fun _ _ _ h => h) (Or.inl ⟨by kernel_rfl, ?y62⟩) hHeld ?_
          case y62 =>
            intro w0 hSw
            (try dsimp only at hSw)
            go_simp
            try with_reducible rfl
          try simp only [Act.put, qaPlaysA, qbPlaysA, qcPlaysA, qdPlaysA, qePlaysA, qfPlaysA]
          refine wpAnyN_take (i := 7) (v := ?_) rfl (by kernel_rfl) (by kernel_rfl) (by kernel_rfl) (by kernel_rfl) (fun _ _ _ h => h) (Or.inl ⟨by kernel_rfl, ?y63⟩) hHeld ?_
          case y63 =>
            intro w0 hSw
            (try dsimp only at hSw)
            go_simp
            try with_reducible rfl
          try simp only [Act.put, qaPlaysA, qbPlaysA, qcPlaysA, qdPlaysA, qePlaysA, qfPlaysA]
          refine wpAnyN_step (i := 8) (by kernel_rfl) rfl (fun K hK => ?_)
          go_simp
          go_at_call 77
          refine (hak).mono ?_
          rintro en w7 ⟨rfl, ht⟩
          have HT7 := Lib.hid ht
          have hHeld := HSB.out _ ht.ch
          clear ht
          go_wp2_with fail
          refine hK.out _ _ (fun _ => hHeld) ?_
          clear hK K
          try simp only [Act.put, qaPlaysA, qbPlaysA, qcPlaysA, qdPlaysA, qePlaysA, qfPlaysA]
          refine wpAnyN_take (i := 9) (v := ?_) rfl (by kernel_rfl) (by kernel_rfl) (by kernel_rfl) (by kernel_rfl) (fun _ _ _ h => h) (Or.inl ⟨by kernel_rfl, ?y64⟩) hHeld ?_
          case y64 =>
            intro w0 hSw
            (try dsimp only at hSw)
            go_simp
            try with_reducible rfl
          try simp only [Act.put, qaPlaysA, qbPlaysA, qcPlaysA, qdPlaysA, qePlaysA, qfPlaysA]
          refine wpAnyN_done (by kernel_rfl) ?_ _
          clear hHeld hak
          go_wp2
          go_roundw
          case rel => exact ⟨k + 1, by go_num, by omega, by omega, (HT7.out.unbase (HT.out.ch.below HWY.out.1) HT.out.dp HDD.out.1).more (by omega)⟩
          case measure => simpa [intOf] using hmu
        · first
            | exact ⟨⟨k + 1, by go_num, by omega, by omega, (HT5.out.unbase (HT.out.ch.below HWY.out.1) HT.out.dp HDD.out.1).more (by omega)⟩, by simpa [intOf] using hmu⟩
            | (go_roundw; exact ⟨k + 1, by go_num, by omega, by omega, (HT5.out.unbase (HT.out.ch.below HWY.out.1) HT.out.dp HDD.out.1).more (by omega)⟩; simpa [intOf] using hmu)
        · clear p1 q0 q1 s0 s1
          have hHeld := HSB.out w5.drew HT5.out.ch.drew
          have hak := (HT5.out.below ((Below.refl _ w5).drew)).asks1 hn6 x.ask
          refine wp_region_n (n := 10) (S := fun w' => w'.cell? ⟨o1, 0, none⟩ = some (.pointer (some ⟨c1, 0, none⟩)) ∧ w'.cell? ⟨o1, 1, none⟩ = some (.pointer (some ⟨r1, 0, none⟩)) ∧ w'.cell? ⟨o2, 0, none⟩ = some (.pointer (some ⟨c2, 0, none⟩)) ∧ w'.cell? ⟨o2, 1, none⟩ = some (.pointer (some ⟨r2, 0, none⟩)) ∧ w'.cell? ⟨w.heap.size, 1, none⟩ = some (.slice (some ad) acts.length ac) ∧ w'.cell? (ad.add (k * 6)) = some (.int .i64 x.who) ∧ w'.cell? ⟨(ad.add (k * 6)).block, (ad.add (k * 6)).off + 1, none⟩ = some (.int .i64 x.a.kind) ∧ w'.cell? ⟨(ad.add (k * 6)).block, (ad.add (k * 6)).off + 2, none⟩ = some (.int .i64 x.a.typ) ∧ w'.cell? ⟨(ad.add (k * 6)).block, (ad.add (k * 6)).off + 3, none⟩ = some (.int .i64 x.a.day) ∧ w'.cell? ⟨(ad.add (k * 6)).block, (ad.add (k * 6)).off + 4, none⟩ = some (.string x.a.name) ∧ w'.cell? ⟨(ad.add (k * 6)).block, (ad.add (k * 6)).off + 5, none⟩ = some (.string x.ask)) (by kernel_rfl) ?_
          refine wpAnyN_take (i := 0) (v := ?_) rfl (by kernel_rfl) (by kernel_rfl) (by kernel_rfl) (by kernel_rfl) (fun _ _ _ h => h) (Or.inl ⟨by kernel_rfl, ?y47⟩) hHeld ?_
          case y47 =>
            intro w0 hSw
            (try dsimp only at hSw)
            go_simp
            try with_reducible rfl
          try simp only [Act.put, qaPlaysA, qbPlaysA, qcPlaysA, qdPlaysA, qePlaysA, qfPlaysA]
          refine wpAnyN_take (i := 1) (v := ?_) rfl (by kernel_rfl) (by kernel_rfl) (by kernel_rfl) (by kernel_rfl) (fun _ _ _ h => h) (Or.inl ⟨by kernel_rfl, ?y48⟩) hHeld ?_
          case y48 =>
            intro w0 hSw
            (try dsimp only at hSw)
            go_simp
            try with_reducible rfl
          try simp only [Act.put, qaPlaysA, qbPlaysA, qcPlaysA, qdPlaysA, qePlaysA, qfPlaysA]
          refine wpAnyN_take (i := 2) (v := ?_) rfl (by kernel_rfl) (by kernel_rfl) (by kernel_rfl) (by kernel_rfl) (fun _ _ _ h => h) (Or.inl ⟨by kernel_rfl, ?y49⟩) hHeld ?_
          case y49 =>
            intro w0 hSw
            (try dsimp only at hSw)
            go_simp
            try with_reducible rfl
          try simp only [Act.put, qaPlaysA, qbPlaysA, qcPlaysA, qdPlaysA, qePlaysA, qfPlaysA]
          refine wpAnyN_take (i := 3) (v := ?_) rfl (by kernel_rfl) (by kernel_rfl) (by kernel_rfl) (by kernel_rfl) (fun _ _ _ h => h) (Or.inl ⟨by kernel_rfl, ?y50⟩) hHeld ?_
          case y50 =>
            intro w0 hSw
            (try dsimp only at hSw)
            go_simp
            try with_reducible rfl
          try simp only [Act.put, qaPlaysA, qbPlaysA, qcPlaysA, qdPlaysA, qePlaysA, qfPlaysA]
          refine wpAnyN_take (i := 4) (v := ?_) rfl (by kernel_rfl) (by kernel_rfl) (by kernel_rfl) (by kernel_rfl) (fun _ _ _ h => h) (Or.inl ⟨by kernel_rfl, ?y51⟩) hHeld ?_
          case y51 =>
            intro w0 hSw
            (try dsimp only at hSw)
            go_simp
            try with_reducible rfl
          try simp only [Act.put, qaPlaysA, qbPlaysA, qcPlaysA, qdPlaysA, qePlaysA, qfPlaysA]
          refine wpAnyN_take (i := 5) (v := ?_) rfl (by kernel_rfl) (by kernel_rfl) (by kernel_rfl) (by kernel_rfl) (fun _ _ _ h => h) (Or.inl ⟨by kernel_rfl, ?y52⟩) hHeld ?_
          case y52 =>
            intro w0 hSw
            (try dsimp only at hSw)
            go_simp
            try with_reducible rfl
          try simp only [Act.put, qaPlaysA, qbPlaysA, qcPlaysA, qdPlaysA, qePlaysA, qfPlaysA]
          refine wpAnyN_take (i := 6) (v := ?_) rfl (by kernel_rfl) (by kernel_rfl) (by kernel_rfl) (by kernel_rfl) (fun _ _ _ h => h) (Or.inl ⟨by kernel_rfl, ?y53⟩) hHeld ?_
          case y53 =>
            intro w0 hSw
            (try dsimp only at hSw)
            go_simp
            try with_reducible rfl
          try simp only [Act.put, qaPlaysA, qbPlaysA, qcPlaysA, qdPlaysA, qePlaysA, qfPlaysA]
          refine wpAnyN_take (i := 7) (v := ?_) rfl (by kernel_rfl) (by kernel_rfl) (by kernel_rfl) (by kernel_rfl) (fun _ _ _ h => h) (Or.inl ⟨by kernel_rfl, ?y54⟩) hHeld ?_
          case y54 =>
            intro w0 hSw
            (try dsimp only at hSw)
            go_simp
            try with_reducible rfl
          try simp only [Act.put, qaPlaysA, qbPlaysA, qcPlaysA, qdPlaysA, qePlaysA, qfPlaysA]
          refine wpAnyN_step (i := 8) (by kernel_rfl) rfl (fun K hK => ?_)
          go_simp
          go_at_call 77
          refine (hak).mono ?_
          rintro en w6 ⟨rfl, ht⟩
          have HT6 := Lib.hid ht
          have hHeld := HSB.out _ ht.ch
          clear ht
          go_wp2_with fail
          refine hK.out _ _ (fun _ => hHeld) ?_
          clear hK K
          try simp only [Act.put, qaPlaysA, qbPlaysA, qcPlaysA, qdPlaysA, qePlaysA, qfPlaysA]
          refine wpAnyN_take (i := 9) (v := ?_) rfl (by kernel_rfl) (by kernel_rfl) (by kernel_rfl) (by kernel_rfl) (fun _ _ _ h => h) (Or.inl ⟨by kernel_rfl, ?y55⟩) hHeld ?_
          case y55 =>
            intro w0 hSw
            (try dsimp only at hSw)
            go_simp
            try with_reducible rfl
          try simp only [Act.put, qaPlaysA, qbPlaysA, qcPlaysA, qdPlaysA, qePlaysA, qfPlaysA]
          refine wpAnyN_done (by kernel_rfl) ?_ _
          clear hHeld hak
          go_wp2
          have hHeld := HSB.out w6.drew HT6.out.ch.drew
          have hak := (HT6.out.below ((Below.refl _ w6).drew)).asks2 hn12 x.ask
          refine wp_region_n (n := 10) (S := fun w' => w'.cell? ⟨o1, 0, none⟩ = some (.pointer (some ⟨c1, 0, none⟩)) ∧ w'.cell? ⟨o1, 1, none⟩ = some (.pointer (some ⟨r1, 0, none⟩)) ∧ w'.cell? ⟨o2, 0, none⟩ = some (.pointer (some ⟨c2, 0, none⟩)) ∧ w'.cell? ⟨o2, 1, none⟩ = some (.pointer (some ⟨r2, 0, none⟩)) ∧ w'.cell? ⟨w.heap.size, 1, none⟩ = some (.slice (some ad) acts.length ac) ∧ w'.cell? (ad.add (k * 6)) = some (.int .i64 x.who) ∧ w'.cell? ⟨(ad.add (k * 6)).block, (ad.add (k * 6)).off + 1, none⟩ = some (.int .i64 x.a.kind) ∧ w'.cell? ⟨(ad.add (k * 6)).block, (ad.add (k * 6)).off + 2, none⟩ = some (.int .i64 x.a.typ) ∧ w'.cell? ⟨(ad.add (k * 6)).block, (ad.add (k * 6)).off + 3, none⟩ = some (.int .i64 x.a.day) ∧ w'.cell? ⟨(ad.add (k * 6)).block, (ad.add (k * 6)).off + 4, none⟩ = some (.string x.a.name) ∧ w'.cell? ⟨(ad.add (k * 6)).block, (ad.add (k * 6)).off + 5, none⟩ = some (.string x.ask)) (by kernel_rfl) ?_
          refine wpAnyN_take (i := 0) (v := ?_) rfl (by kernel_rfl) (by kernel_rfl) (by kernel_rfl) (by kernel_rfl) (fun _ _ _ h => h) (Or.inl ⟨by kernel_rfl, ?y56⟩) hHeld ?_
          case y56 =>
            intro w0 hSw
            (try dsimp only at hSw)
            go_simp
            try with_reducible rfl
          try simp only [Act.put, qaPlaysA, qbPlaysA, qcPlaysA, qdPlaysA, qePlaysA, qfPlaysA]
          refine wpAnyN_take (i := 1) (v := ?_) rfl (by kernel_rfl) (by kernel_rfl) (by kernel_rfl) (by kernel_rfl) (fun _ _ _ h => h) (Or.inl ⟨by kernel_rfl, ?y57⟩) hHeld ?_
          case y57 =>
            intro w0 hSw
            (try dsimp only at hSw)
            go_simp
            try with_reducible rfl
          try simp only [Act.put, qaPlaysA, qbPlaysA, qcPlaysA, qdPlaysA, qePlaysA, qfPlaysA]
          refine wpAnyN_take (i := 2) (v := ?_) rfl (by kernel_rfl) (by kernel_rfl) (by kernel_rfl) (by kernel_rfl) (fun _ _ _ h => h) (Or.inl ⟨by kernel_rfl, ?y58⟩) hHeld ?_
          case y58 =>
            intro w0 hSw
            (try dsimp only at hSw)
            go_simp
            try with_reducible rfl
          try simp only [Act.put, qaPlaysA, qbPlaysA, qcPlaysA, qdPlaysA, qePlaysA, qfPlaysA]
          refine wpAnyN_take (i := 3) (v := ?_) rfl (by kernel_rfl) (by kernel_rfl) (by kernel_rfl) (by kernel_rfl) (fun _ _ _ h => h) (Or.inl ⟨by kernel_rfl, ?y59⟩) hHeld ?_
          case y59 =>
            intro w0 hSw
            (try dsimp only at hSw)
            go_simp
            try with_reducible rfl
          try simp only [Act.put, qaPlaysA, qbPlaysA, qcPlaysA, qdPlaysA, qePlaysA, qfPlaysA]
          refine wpAnyN_take (i := 4) (v := ?_) rfl (by kernel_rfl) (by kernel_rfl) (by kernel_rfl) (by kernel_rfl) (fun _ _ _ h => h) (Or.inl ⟨by kernel_rfl, ?y60⟩) hHeld ?_
          case y60 =>
            intro w0 hSw
            (try dsimp only at hSw)
            go_simp
            try with_reducible rfl
          try simp only [Act.put, qaPlaysA, qbPlaysA, qcPlaysA, qdPlaysA, qePlaysA, qfPlaysA]
          refine wpAnyN_take (i := 5) (v := ?_) rfl (by kernel_rfl) (by kernel_rfl) (by kernel_rfl) (by kernel_rfl) (fun _ _ _ h => h) (Or.inl ⟨by kernel_rfl, ?y61⟩) hHeld ?_
          case y61 =>
            intro w0 hSw
            (try dsimp only at hSw)
            go_simp
            try with_reducible rfl
          try simp only [Act.put, qaPlaysA, qbPlaysA, qcPlaysA, qdPlaysA, qePlaysA, qfPlaysA]
          refine wpAnyN_take (i := 6) (v := ?_) rfl (by kernel_rfl) (by kernel_rfl) (by kernel_rfl) (by kernel_rfl) (fun _ _ _ h => h) (Or.inl ⟨by kernel_rfl, ?y62⟩) hHeld ?_
          case y62 =>
            intro w0 hSw
            (try dsimp only at hSw)
            go_simp
            try with_reducible rfl
          try simp only [Act.put, qaPlaysA, qbPlaysA, qcPlaysA, qdPlaysA, qePlaysA, qfPlaysA]
          refine wpAnyN_take (i := 7) (v := ?_) rfl (by kernel_rfl) (by kernel_rfl) (by kernel_rfl) (by kernel_rfl) (fun _ _ _ h => h) (Or.inl ⟨by kernel_rfl, ?y63⟩) hHeld ?_
          case y63 =>
            intro w0 hSw
            (try dsimp only at hSw)
            go_simp
            try with_reducible rfl
          try simp only [Act.put, qaPlaysA, qbPlaysA, qcPlaysA, qdPlaysA, qePlaysA, qfPlaysA]
          refine wpAnyN_step (i := 8) (by kernel_rfl) rfl (fun K hK => ?_)
          go_simp
          go_at_call 77
          refine (hak).mono ?_
          rintro en w7 ⟨rfl, ht⟩
          have HT7 := Lib.hid ht
          have hHeld := HSB.out _ ht.ch
          clear ht
          go_wp2_with fail
          refine hK.out _ _ (fun _ => hHeld) ?_
          clear hK K
          try simp only [Act.put, qaPlaysA, qbPlaysA, qcPlaysA, qdPlaysA, qePlaysA, qfPlaysA]
          refine wpAnyN_take (i := 9) (v := ?_) rfl (by kernel_rfl) (by kernel_rfl) (by kernel_rfl) (by kernel_rfl) (fun _ _ _ h => h) (Or.inl ⟨by kernel_rfl, ?y64⟩) hHeld ?_
          case y64 =>
            intro w0 hSw
            (try dsimp only at hSw)
            go_simp
            try with_reducible rfl
          try simp only [Act.put, qaPlaysA, qbPlaysA, qcPlaysA, qdPlaysA, qePlaysA, qfPlaysA]
          refine wpAnyN_done (by kernel_rfl) ?_ _
          clear hHeld hak
          go_wp2
          go_roundw
          case rel => exact ⟨k + 1, by go_num, by omega, by omega, (HT7.out.unbase (HT.out.ch.below HWY.out.1) HT.out.dp HDD.out.1).more (by omega)⟩
          case measure => simpa [intOf] using hmu
    · by_cases hl1 : k < acts.length
      · have hj1 : (k : Int) < (acts.length : Int) := by omega
        have hj2 : ¬ (k : Int) < 300 := by omega
        have hn6 : 12 * k + 6 < 1048576 := by omega
        have hn12 : 12 * k + 6 + 6 < 1048576 := by omega
        clear ht hlt hl1
        go_wp2_with (go_at_call 77; with_reducible refine (HT.out.asks1 hn6 ⟨#[65]⟩).mono ?_; rintro en w6 ⟨rfl, ht⟩; have HT6 := Lib.hid ht; obtain ⟨p1, q0, q1, s0, s1⟩ := HST.out w6 ht.ch; clear ht)
        go_wp2_with (go_at_call 77; with_reducible refine (HT6.out.asks2 hn12 ⟨#[65, 58, 66]⟩).mono ?_; rintro en w7 ⟨rfl, ht⟩; have HT7 := Lib.hid ht; clear ht)
        go_wp2_with (go_at_call 19; refine (HT7.out.settle).mono ?_; rintro en w8 ⟨rfl, hc⟩; have HC8 := Lib.hid hc; clear hc)
        go_ret
        have hb03 := HBW.out.mono HB3.out.size
        exact ⟨rfl, (HB3.out.trans hb03).trans (HC8.out.toBelow (Nat.le_trans HB3.out.size hb03.size) fun q hq => by rw [HD.out] at hq; omega)⟩
      · have hj1 : ¬ (k : Int) < (acts.length : Int) := by omega
        have hn6 : 12 * k + 6 < 1048576 := by omega
        have hn12 : 12 * k + 6 + 6 < 1048576 := by omega
        clear ht hlt hl1
        go_wp2_with (go_at_call 77; with_reducible refine (HT.out.asks1 hn6 ⟨#[65]⟩).mono ?_; rintro en w6 ⟨rfl, ht⟩; have HT6 := Lib.hid ht; obtain ⟨p1, q0, q1, s0, s1⟩ := HST.out w6 ht.ch; clear ht)
        go_wp2_with (go_at_call 77; with_reducible refine (HT6.out.asks2 hn12 ⟨#[65, 58, 66]⟩).mono ?_; rintro en w7 ⟨rfl, ht⟩; have HT7 := Lib.hid ht; clear ht)
        go_wp2_with (go_at_call 19; refine (HT7.out.settle).mono ?_; rintro en w8 ⟨rfl, hc⟩; have HC8 := Lib.hid hc; clear hc)
        go_ret
        have hb03 := HBW.out.mono HB3.out.size
        exact ⟨rfl, (HB3.out.trans hb03).trans (HC8.out.toBelow (Nat.le_trans HB3.out.size hb03.size) fun q hq => by rw [HD.out] at hq; omega)⟩
end Go.Proofs.YtplocldnklccfaaGreatDoor
