/- BookRefused: the walk. Printed by gen_refused.py. -/
import Derived.Test.YtgocoofcelggcaaGreatDoorPack16
import Derived.Deep.RegionHeld3
namespace Go.Proofs.YtgocoofcelggcaaGreatDoor
theorem qaRe {T : Type} (l : List T) (i : Nat) (a : T) : l.toArray.setIfInBounds i a = (l.set i a).toArray := List.setIfInBounds_toArray l i a
theorem qbRe {T : Type} {x : T} {xs : List T} {a : T} : (x :: xs).set 0 a = a :: xs := List.set_cons_zero
theorem qcRe {T : Type} {x : T} {xs : List T} {i : Nat} {a : T} : (x :: xs).set (i + 1) a = x :: xs.set i a := List.set_cons_succ
theorem qdRe {T : Type} {xs : List T} {i : Nat} (h : i < xs.toArray.size) : xs.toArray[i] = xs[i]'(by simpa using h) := List.getElem_toArray h
theorem qeRe {T : Type} (a : T) (ys : List T) (i : Nat) (h : i + 1 < (a :: ys).length) : (a :: ys)[i + 1] = ys[i]'(by simpa using h) := List.getElem_cons_succ a ys i h
theorem qfRe {T : Type} (a : T) (ys : List T) (h : 0 < (a :: ys).length) : (a :: ys)[0] = a := List.getElem_cons_zero a ys h
theorem tkRe {P : Program} {ops : Array Oper} {Q : Exit → Act → World → Prop} {md : Region.Mode} {S : World → Prop} {n i : Nat} {oi : Oper} {v : Value} {fuel : Nat} {listed : Array Bool} {a : Act} {w : World} (hi : ops[i]? = some oi)
    (hy : ∀ w, S w → (execOp a.eval oi).run P w = .ok (.value v) w) (hS : S w) (h : wpAnyN P md ops Q S n fuel (listed.setIfInBounds i true) (a.put oi.dst v) w)
    (hs : Region.noSelect ops = true := by kernel_rfl) (hf : Region.free md ops listed i = true := by kernel_rfl) (hr : (Region.ready md ops listed).contains i = true := by kernel_rfl) (hk : sinkN md ops n i = true := by kernel_rfl)
    (hw : Region.wanted oi (yielded ops a.tmps) = true := by kernel_rfl) (hQ : ∀ c a w, Q (.panic c) (a.put oi.dst v) w → Q (.panic c) a w := by exact fun _ _ _ h => h) : wpAnyN P md ops Q S n (fuel + 1) listed a w :=
  wpAnyN_take hi hs hf hr hk hQ (Or.inl ⟨hw, hy⟩) hS h
open Go.RowKit
set_option linter.unusedVariables false
set_option linter.unusedSimpArgs false

theorem le_ok {S : BookS} (h : OkS S) : BaseLe S := by
  have e1 := h.ev1
  have hk := h.keysLe
  have hc := h.chart.le
  have hr := h.rowsLe
  have he := h.entLe
  have hcl := h.claLe
  have ha := h.allLe
  refine ⟨by omega, by omega, by omega, by omega, fun x hx => ?_, by omega, by omega⟩
  have := h.entFit x hx
  unfold fitB at this
  simp at this
  omega
def foldS (l : List EventV) : BookS := l.foldl applyS newS
theorem fold_ok {l : List EventV} (h : ∀ e ∈ l, InEv e) : OkT (foldS l) := by
  unfold foldS
  suffices H : ∀ (l : List EventV) (S : BookS), OkT S → (∀ e ∈ l, InEv e) → OkT (l.foldl applyS S) from H l newS okT_new h
  intro l
  induction l with
  | nil => intro S hS _; exact hS
  | cons e l ih => intro S hS hl; exact ih _ (ok_apply hS (hl e (by simp))) fun x hx => hl x (by simp [hx])
theorem fold_take {l : List EventV} {k : Nat} (hk : k < l.length) : foldS (l.take (k + 1)) = applyS (foldS (l.take k)) l[k] := by
  unfold foldS
  rw [List.take_succ_eq_append_getElem hk, List.foldl_append]
  rfl
/-- Books behind the first k of the events, applied. -/
structure RefInv (w : World) (l : List EventV) (bt bb : Nat) (wr : World) (k : Nat) : Prop where
  bel : Below w.heap.size w wr
  head : wr.heap[bt]? = some (.cells #[ptrV bb, .slice none 0 0, .slice none 0 0] 31 (0, 0))
  book : ∃ F, BookAt wr F bb (foldS (l.take k)) ∧ (∀ q, F q → w.heap.size ≤ q) ∧ ¬ F bt

set_option maxRecDepth 100000 in
set_option maxHeartbeats 8000000 in
theorem refused_walk (w : World) (v : Value) (l : List EventV) (hl : EventsAt w v l) :
    Calls Tryz.prog 6 #[v] w fun en w' => en = .returned (.bool true) ∧ Below w.heap.size w w' := by
  obtain ⟨⟨A, c, rfl, hcl⟩, hlen, hsm⟩ := hl
  have HCL := Lib.hid hcl
  have HSM := Lib.hid hsm
  have hnew := New_book w
  clear hcl hsm
  go_enter Tryz.func6, Tryz.ntmps6
  go_wp2_with (go_at_call 15; refine hnew.mono ?_)
  rintro en w1 ⟨rfl, hb1, hz1, hbel1⟩
  unfold ptrV
  obtain ⟨bb, hbb⟩ : ∃ bb, bb = w.heap.size + 7 := ⟨_, rfl⟩
  rw [← hbb] at hb1
  have hT : RefInv w l w1.heap.size bb (w1.alloc (.cells #[ptrV bb, .slice none 0 0, .slice none 0 0] 31)) 0 :=
    ⟨hbel1.alloc hbel1.size _, World.alloc_heap_new w1 _, _, hb1.below (bel1 w1 _), fun k hk => hk.1, fun hf => by have := hb1.lt _ hf; omega⟩
  have HT := Lib.hid hT
  have hz1' : w.heap.size ≤ w1.heap.size := hbel1.size
  clear hnew hb1 hz1 hbel1 hT
  rw [← hbb]
  clear hbb
  unfold ptrV at HT
  go_wp2
  go_loopw [4] (fun i wr => ∃ k : Nat, i = .int .i64 (k : Int) ∧ k ≤ l.length ∧ RefInv w l w1.heap.size bb wr k) (fun i _ => l.length - (intOf i).toNat)
  case atStart => exact ⟨0, rfl, Nat.zero_le _, HT.out⟩
  case round =>
    obtain ⟨k, rfl, hk, hinv⟩ := hrel
    clear HT
    by_cases hlt : k < l.length
    · by_cases h4 : k < 100
      · obtain ⟨ad, lv, rfl, hab, hcs, hL, hn⟩ := HCL.out k hlt
        obtain ⟨hbel, hhd, F, hbk, hFw, hFt⟩ := hinv
        have hok := fold_ok (l := l.take k) fun e he => (HSM.out e (List.mem_of_mem_take he)).2
        have hxs := HSM.out _ (List.getElem_mem hlt)
        have hft := fold_take hlt
        obtain ⟨x, hx⟩ : ∃ x, x = l[k] := ⟨_, rfl⟩
        obtain ⟨S, hS⟩ : ∃ S, S = foldS (l.take k) := ⟨_, rfl⟩
        rw [← hx] at hcs hxs hft hL
        rw [← hS] at hbk hok hft
        have HOK := Lib.hid hok
        have HX := Lib.hid hxs
        have HFT := Lib.hid hft
        have HLE := Lib.hid (le_ok hok.ok)
        have EVC := Lib.hid (ev_at (by rw [block_add]; exact hab) hcs)
        have HL := Lib.hid (And.intro hL hn)
        have b0 : wr.cell? ⟨w1.heap.size, 0, none⟩ = some (.pointer (some ⟨bb, 0, none⟩)) := by rw [cell_of_blk hhd]; rfl
        have hbase := Base_all hbk hok.ok
        have h4' : decide ((k : Int) < 100) = true := decide_eq_true (by omega)
        have hFl := hbk.lt
        obtain ⟨wq, hwq⟩ : ∃ wq, wq = wr := ⟨_, rfl⟩
        subst hwq
        have HBK0 := Lib.hid (And.intro hbk (And.intro hhd hbel))
        have HF := Lib.hid (And.intro hFl (And.intro hFw hFt))
        unfold ptrV at hbase
        clear hcs hL hn hx hS hok hxs hft hhd hbk hFw hFt hFl hbel
        go_wp2_with (go_at_call 19; refine hbase.mono ?_)
        rintro en wb ⟨kV, aV, rV, eV, iV, pV, lV, lv1, rfl, hbp1, hbb⟩
        have hcop7 := Copied_all hbp1 HLE.out
        have HBB := Lib.hid hbb
        clear hbase hbp1 hbb b0
        go_wp2_with (go_at_call 18; refine hcop7.mono ?_)
        rintro en wc ⟨kV, aV, rV, eV, iV, pV, lV, lv2, rfl, hbp, hbc⟩
        obtain ⟨kA, kc, hfk, _⟩ := hbp.keys.form
        obtain ⟨aA, ac, hfa, _⟩ := hbp.accs.form
        obtain ⟨rA, rc, hfr, _⟩ := hbp.rows.form
        obtain ⟨eA, ec, hfe, _⟩ := hbp.ents.form
        obtain ⟨iA, ic, hfi, _⟩ := hbp.invs.form
        obtain ⟨pA, pc, hfp, _⟩ := hbp.pays.form
        obtain ⟨lA, lc, hfl, _⟩ := hbp.alls.form
        rw [List.length_map] at hfk hfa hfr hfi hfp hfl
        rw [entC_len] at hfe
        subst hfk hfa hfr hfe hfi hfp hfl
        have hBC := HBB.out.trans (hbc.mono HBB.out.size)
        have hbbs := HBB.out.size
        unfold baseV
        clear hcop7 hbc HBB
        have hz5 := World.alloc_heap_new wc (.cells #[.int .i64 S.events, .slice kA S.keys.length kc, .slice aA S.chart.length ac, .slice rA S.rows.length rc, .slice eA S.entries.length ec, .slice iA (invs S).length ic, .slice pA (pays S).length pc, .slice lA S.allots.length lc, .int .i64 S.lock] 50)
        have hB5 := bel1 wc (.cells #[.int .i64 S.events, .slice kA S.keys.length kc, .slice aA S.chart.length ac, .slice rA S.rows.length rc, .slice eA S.entries.length ec, .slice iA (invs S).length ic, .slice pA (pays S).length pc, .slice lA S.allots.length lc, .int .i64 S.lock] 50)
        obtain ⟨wz, hwz⟩ : ∃ wz, wc.alloc (.cells #[.int .i64 S.events, .slice kA S.keys.length kc, .slice aA S.chart.length ac, .slice rA S.rows.length rc, .slice eA S.entries.length ec, .slice iA (invs S).length ic, .slice pA (pays S).length pc, .slice lA S.allots.length lc, .int .i64 S.lock] 50) = wz := ⟨_, rfl⟩
        rw [hwz] at hz5 hB5
        obtain ⟨B5, hB5e⟩ : ∃ B5, B5 = wc.heap.size := ⟨_, rfl⟩
        have hbz : Below wq.heap.size wq wz := hBC.trans (hB5.mono hBC.size)
        have HBPZ := Lib.hid (hbp.below hB5)
        have HBZ := Lib.hid hbz
        have hs5 : wq.heap.size ≤ B5 := by rw [hB5e]; exact hBC.size
        rw [← hB5e] at hz5
        have HB5E := Lib.hid hB5e
        have HZ5 := Lib.hid hz5
        have hbk := Lib.hid (fun W (hb : Below wz.heap.size wz W) => HBK0.out.1.below (HBZ.out.trans (hb.mono HBZ.out.size)))
        have HBK := hbk
        have hhd := Lib.hid (fun W (hb : Below wz.heap.size wz W) => (HBZ.out.trans (hb.mono HBZ.out.size)).block _ (heap_lt HBK0.out.2.1))
        have hwb := Lib.hid (fun W (hb : Below wz.heap.size wz W) => HBK0.out.2.2.trans ((HBZ.out.trans (hb.mono HBZ.out.size)).mono HBK0.out.2.2.size))
        have HSG := Lib.hid (fun W (h1 : Below w.heap.size w W) (h2 : W.heap[w1.heap.size]? = some (.cells #[.pointer (some ⟨bb, 0, none⟩), .slice none 0 0, .slice none 0 0] 31 (0, 0))) => (show W.cell? ⟨w1.heap.size, 0, none⟩ = some (.pointer (some ⟨bb, 0, none⟩)) ∧ W.cell? (ad.add (k * 12)) = some (.int .i64 x.kind) ∧ W.cell? ⟨(ad.add (k * 12)).block, (ad.add (k * 12)).off + 1, none⟩ = some (.int .i64 x.day) ∧ W.cell? ⟨(ad.add (k * 12)).block, (ad.add (k * 12)).off + 2, none⟩ = some (.string x.key) ∧ W.cell? ⟨(ad.add (k * 12)).block, (ad.add (k * 12)).off + 3, none⟩ = some (.string x.account) ∧ W.cell? ⟨(ad.add (k * 12)).block, (ad.add (k * 12)).off + 4, none⟩ = some (.string x.other) ∧ W.cell? ⟨(ad.add (k * 12)).block, (ad.add (k * 12)).off + 5, none⟩ = some (.string x.ref) ∧ W.cell? ⟨(ad.add (k * 12)).block, (ad.add (k * 12)).off + 6, none⟩ = some (.string x.ref2) ∧ W.cell? ⟨(ad.add (k * 12)).block, (ad.add (k * 12)).off + 7, none⟩ = some (.int .i64 x.typ) ∧ W.cell? ⟨(ad.add (k * 12)).block, (ad.add (k * 12)).off + 8, none⟩ = some (.int .i64 x.due) ∧ W.cell? ⟨(ad.add (k * 12)).block, (ad.add (k * 12)).off + 9, none⟩ = some (.int .i64 x.amount) ∧ W.cell? ⟨(ad.add (k * 12)).block, (ad.add (k * 12)).off + 10, none⟩ = some (.string x.memo) ∧ W.cell? ⟨(ad.add (k * 12)).block, (ad.add (k * 12)).off + 11, none⟩ = some (lv) from ⟨by rw [cell_of_blk h2]; rfl, EVC.out W h1⟩))
        have HS := Lib.hid (fun W (hb : Below wz.heap.size wz W) => HSG.out W (hwb.out W hb) ((hhd.out W hb).trans HBK0.out.2.1))
        have HCOP := Lib.hid (fun W (hb : Below wz.heap.size wz W) => (copied_any (w := W) (HL.out.1.below (hwb.out W hb)) HL.out.2 HX.out.1.count))
        have HBLT := Lib.hid (fun q (hq : F q) => (show q < wz.heap.size by have := HF.out.1 q hq; have := HBZ.out.size; omega))
        have HSA := Lib.hid (fun wa wd (hba : Below wz.heap.size wz wa) (hch : Ch F wa wd) => HSG.out wd ((hwb.out wa hba).trans (hch.toBelow (hwb.out wa hba).size HF.out.2.1)) ((hch.block _ (by have := heap_lt HBK0.out.2.1; have := HBZ.out.size; have := hba.size; omega) HF.out.2.2).trans ((hhd.out wa hba).trans HBK0.out.2.1)))
        unfold evV at HCOP
        clear hbp hBC hB5 hB5e hz5 hbz
        go_wp2
        (try rw [hwz])
        clear hwz
        rw [← HB5E.out]
        clear HB5E
        have hB0 : Below wz.heap.size wz wz.drew := (Below.refl _ wz).drew
        have hHeld := HS.out wz.drew hB0
        refine wp_region_n (n := 12) (S := fun w' => w'.cell? ⟨w1.heap.size, 0, none⟩ = some (.pointer (some ⟨bb, 0, none⟩)) ∧ w'.cell? (ad.add (k * 12)) = some (.int .i64 x.kind) ∧ w'.cell? ⟨(ad.add (k * 12)).block, (ad.add (k * 12)).off + 1, none⟩ = some (.int .i64 x.day) ∧ w'.cell? ⟨(ad.add (k * 12)).block, (ad.add (k * 12)).off + 2, none⟩ = some (.string x.key) ∧ w'.cell? ⟨(ad.add (k * 12)).block, (ad.add (k * 12)).off + 3, none⟩ = some (.string x.account) ∧ w'.cell? ⟨(ad.add (k * 12)).block, (ad.add (k * 12)).off + 4, none⟩ = some (.string x.other) ∧ w'.cell? ⟨(ad.add (k * 12)).block, (ad.add (k * 12)).off + 5, none⟩ = some (.string x.ref) ∧ w'.cell? ⟨(ad.add (k * 12)).block, (ad.add (k * 12)).off + 6, none⟩ = some (.string x.ref2) ∧ w'.cell? ⟨(ad.add (k * 12)).block, (ad.add (k * 12)).off + 7, none⟩ = some (.int .i64 x.typ) ∧ w'.cell? ⟨(ad.add (k * 12)).block, (ad.add (k * 12)).off + 8, none⟩ = some (.int .i64 x.due) ∧ w'.cell? ⟨(ad.add (k * 12)).block, (ad.add (k * 12)).off + 9, none⟩ = some (.int .i64 x.amount) ∧ w'.cell? ⟨(ad.add (k * 12)).block, (ad.add (k * 12)).off + 10, none⟩ = some (.string x.memo) ∧ w'.cell? ⟨(ad.add (k * 12)).block, (ad.add (k * 12)).off + 11, none⟩ = some (lv)) (by kernel_rfl) ?_
        refine tkRe (i := 0) (v := ?_) rfl ?y1 hHeld ?_
        case y1 => intro w0 hSw; (try dsimp only at hSw); go_simp; (try with_reducible rfl)
        try simp only [Act.put, qaRe, qbRe, qcRe, qdRe, qeRe, qfRe]
        refine tkRe (i := 1) (v := ?_) rfl ?y2 hHeld ?_
        case y2 => intro w0 hSw; (try dsimp only at hSw); go_simp; (try with_reducible rfl)
        try simp only [Act.put, qaRe, qbRe, qcRe, qdRe, qeRe, qfRe]
        refine tkRe (i := 2) (v := ?_) rfl ?y3 hHeld ?_
        case y3 => intro w0 hSw; (try dsimp only at hSw); go_simp; (try with_reducible rfl)
        try simp only [Act.put, qaRe, qbRe, qcRe, qdRe, qeRe, qfRe]
        refine tkRe (i := 3) (v := ?_) rfl ?y4 hHeld ?_
        case y4 => intro w0 hSw; (try dsimp only at hSw); go_simp; (try with_reducible rfl)
        try simp only [Act.put, qaRe, qbRe, qcRe, qdRe, qeRe, qfRe]
        refine tkRe (i := 4) (v := ?_) rfl ?y5 hHeld ?_
        case y5 => intro w0 hSw; (try dsimp only at hSw); go_simp; (try with_reducible rfl)
        try simp only [Act.put, qaRe, qbRe, qcRe, qdRe, qeRe, qfRe]
        refine tkRe (i := 5) (v := ?_) rfl ?y6 hHeld ?_
        case y6 => intro w0 hSw; (try dsimp only at hSw); go_simp; (try with_reducible rfl)
        try simp only [Act.put, qaRe, qbRe, qcRe, qdRe, qeRe, qfRe]
        refine tkRe (i := 6) (v := ?_) rfl ?y7 hHeld ?_
        case y7 => intro w0 hSw; (try dsimp only at hSw); go_simp; (try with_reducible rfl)
        try simp only [Act.put, qaRe, qbRe, qcRe, qdRe, qeRe, qfRe]
        refine tkRe (i := 7) (v := ?_) rfl ?y8 hHeld ?_
        case y8 => intro w0 hSw; (try dsimp only at hSw); go_simp; (try with_reducible rfl)
        try simp only [Act.put, qaRe, qbRe, qcRe, qdRe, qeRe, qfRe]
        refine wpAnyN_step (i := 8) (by kernel_rfl) rfl (fun K hK => ?_)
        go_simp
        go_at_call 12
        refine (HCOP.out _ hB0).mono ?_
        rintro en wa ⟨cv, rfl, hcv, hba⟩
        obtain ⟨cA, cc, hcf⟩ := own_form hcv
        subst hcf
        have hBA := hB0.trans (hba.mono hB0.size)
        have hLc : LinesAt wa (fun q => wz.drew.heap.size ≤ q) (.slice cA x.lines.length cc) x.lines := row_own (enc := encLine) hcv (fun _ => rfl) fun q h _ => h
        have hHeld := HS.out wa hBA
        go_wp2_with fail
        refine hK.out _ _ (fun _ => hHeld) ?_
        clear hK K
        try simp only [Act.put, qaRe, qbRe, qcRe, qdRe, qeRe, qfRe]
        have hchk := check_any (S := S) (HBK.out wa hBA) HOK.out HX.out.1 HX.out.2 cA cc hLc
        unfold evV ptrV at hchk
        refine wpAnyN_step (i := 9) (by kernel_rfl) rfl (fun K hK => ?_)
        go_simp
        go_at_call 21
        refine (hchk).mono ?_
        rintro en wc ⟨rfl, hbc⟩
        have hBC := hBA.trans (hbc.mono hBA.size)
        have hHeld := HS.out wc hBC
        clear hchk
        go_wp2_with fail
        refine hK.out _ _ (fun _ => hHeld) ?_
        clear hK K
        try simp only [Act.put, qaRe, qbRe, qcRe, qdRe, qeRe, qfRe]
        refine wpAnyN_step (i := 10) (by kernel_rfl) rfl (fun K hK => ?_)
        go_simp
        go_at_call 20
        refine (num_any _ _).mono ?_
        rintro en wn ⟨rfl, hwn⟩
        have hwn := hwn.symm
        subst hwn
        go_wp2_with fail
        refine hK.out _ _ (fun _ => hHeld) ?_
        clear hK K
        try simp only [Act.put, qaRe, qbRe, qcRe, qdRe, qeRe, qfRe]
        refine tkRe (i := 11) (v := ?_) rfl ?y9 hHeld ?_
        case y9 => intro w0 hSw; (try dsimp only at hSw); go_simp; (try with_reducible rfl)
        try simp only [Act.put, qaRe, qbRe, qcRe, qdRe, qeRe, qfRe]
        refine wpAnyN_done (by kernel_rfl) ?_ _
        obtain ⟨wy, hwy⟩ : ∃ wy, wy = wc := ⟨_, rfl⟩
        subst hwy
        have HBy := Lib.hid hBC
        clear hBA hBC hba hbc hcv hLc hHeld hB0
        go_wp2
        have hB0 : Below wz.heap.size wz wy.drew := HBy.out.drew
        have hHeld := HS.out wy.drew hB0
        refine wp_region_n (n := 15) (S := fun w' => w'.cell? ⟨w1.heap.size, 0, none⟩ = some (.pointer (some ⟨bb, 0, none⟩)) ∧ w'.cell? (ad.add (k * 12)) = some (.int .i64 x.kind) ∧ w'.cell? ⟨(ad.add (k * 12)).block, (ad.add (k * 12)).off + 1, none⟩ = some (.int .i64 x.day) ∧ w'.cell? ⟨(ad.add (k * 12)).block, (ad.add (k * 12)).off + 2, none⟩ = some (.string x.key) ∧ w'.cell? ⟨(ad.add (k * 12)).block, (ad.add (k * 12)).off + 3, none⟩ = some (.string x.account) ∧ w'.cell? ⟨(ad.add (k * 12)).block, (ad.add (k * 12)).off + 4, none⟩ = some (.string x.other) ∧ w'.cell? ⟨(ad.add (k * 12)).block, (ad.add (k * 12)).off + 5, none⟩ = some (.string x.ref) ∧ w'.cell? ⟨(ad.add (k * 12)).block, (ad.add (k * 12)).off + 6, none⟩ = some (.string x.ref2) ∧ w'.cell? ⟨(ad.add (k * 12)).block, (ad.add (k * 12)).off + 7, none⟩ = some (.int .i64 x.typ) ∧ w'.cell? ⟨(ad.add (k * 12)).block, (ad.add (k * 12)).off + 8, none⟩ = some (.int .i64 x.due) ∧ w'.cell? ⟨(ad.add (k * 12)).block, (ad.add (k * 12)).off + 9, none⟩ = some (.int .i64 x.amount) ∧ w'.cell? ⟨(ad.add (k * 12)).block, (ad.add (k * 12)).off + 10, none⟩ = some (.string x.memo) ∧ w'.cell? ⟨(ad.add (k * 12)).block, (ad.add (k * 12)).off + 11, none⟩ = some (lv)) (by kernel_rfl) ?_
        refine tkRe (i := 0) (v := ?_) rfl ?y10 hHeld ?_
        case y10 => intro w0 hSw; (try dsimp only at hSw); go_simp; (try with_reducible rfl)
        try simp only [Act.put, qaRe, qbRe, qcRe, qdRe, qeRe, qfRe]
        refine tkRe (i := 1) (v := ?_) rfl ?y11 hHeld ?_
        case y11 => intro w0 hSw; (try dsimp only at hSw); go_simp; (try with_reducible rfl)
        try simp only [Act.put, qaRe, qbRe, qcRe, qdRe, qeRe, qfRe]
        refine tkRe (i := 2) (v := ?_) rfl ?y12 hHeld ?_
        case y12 => intro w0 hSw; (try dsimp only at hSw); go_simp; (try with_reducible rfl)
        try simp only [Act.put, qaRe, qbRe, qcRe, qdRe, qeRe, qfRe]
        refine tkRe (i := 3) (v := ?_) rfl ?y13 hHeld ?_
        case y13 => intro w0 hSw; (try dsimp only at hSw); go_simp; (try with_reducible rfl)
        try simp only [Act.put, qaRe, qbRe, qcRe, qdRe, qeRe, qfRe]
        refine tkRe (i := 4) (v := ?_) rfl ?y14 hHeld ?_
        case y14 => intro w0 hSw; (try dsimp only at hSw); go_simp; (try with_reducible rfl)
        try simp only [Act.put, qaRe, qbRe, qcRe, qdRe, qeRe, qfRe]
        refine tkRe (i := 5) (v := ?_) rfl ?y15 hHeld ?_
        case y15 => intro w0 hSw; (try dsimp only at hSw); go_simp; (try with_reducible rfl)
        try simp only [Act.put, qaRe, qbRe, qcRe, qdRe, qeRe, qfRe]
        refine tkRe (i := 6) (v := ?_) rfl ?y16 hHeld ?_
        case y16 => intro w0 hSw; (try dsimp only at hSw); go_simp; (try with_reducible rfl)
        try simp only [Act.put, qaRe, qbRe, qcRe, qdRe, qeRe, qfRe]
        refine tkRe (i := 7) (v := ?_) rfl ?y17 hHeld ?_
        case y17 => intro w0 hSw; (try dsimp only at hSw); go_simp; (try with_reducible rfl)
        try simp only [Act.put, qaRe, qbRe, qcRe, qdRe, qeRe, qfRe]
        refine wpAnyN_step (i := 8) (by kernel_rfl) rfl (fun K hK => ?_)
        go_simp
        go_at_call 12
        refine (HCOP.out _ hB0).mono ?_
        rintro en wa ⟨cv, rfl, hcv, hba⟩
        obtain ⟨cA, cc, hcf⟩ := own_form hcv
        subst hcf
        have hBA := hB0.trans (hba.mono hB0.size)
        have hLc : LinesAt wa (fun q => wy.drew.heap.size ≤ q) (.slice cA x.lines.length cc) x.lines := row_own (enc := encLine) hcv (fun _ => rfl) fun q h _ => h
        have hHeld := HS.out wa hBA
        go_wp2_with fail
        refine hK.out _ _ (fun _ => hHeld) ?_
        clear hK K
        try simp only [Act.put, qaRe, qbRe, qcRe, qdRe, qeRe, qfRe]
        have happ := apply_any (S := S) (HBK.out wa hBA) HOK.out HX.out.1 HX.out.2 cA cc hLc (fun q hq hf => by have := HBLT.out q hf; have := hB0.size; omega)
        unfold evV ptrV at happ
        refine wpAnyN_step (i := 9) (by kernel_rfl) rfl (fun K hK => ?_)
        go_simp
        go_at_call 22
        refine (happ).mono ?_
        rintro en wd ⟨rv, F2, rfl, hrv, hb2, hch2, hnw2, _⟩
        have hHeld := HSA.out wa wd hBA hch2
        clear happ
        go_wp2_with fail
        refine hK.out _ _ (fun _ => hHeld) ?_
        clear hK K
        try simp only [Act.put, qaRe, qbRe, qcRe, qdRe, qeRe, qfRe]
        refine tkRe (i := 10) (v := ?_) rfl ?y18 hHeld ?_
        case y18 => intro w0 hSw; (try dsimp only at hSw); go_simp; (try with_reducible rfl)
        try simp only [Act.put, qaRe, qbRe, qcRe, qdRe, qeRe, qfRe]
        refine tkRe (i := 11) (v := ?_) rfl ?y19 hHeld ?_
        case y19 => intro w0 hSw; (try dsimp only at hSw); go_simp; (try with_reducible rfl)
        try simp only [Act.put, qaRe, qbRe, qcRe, qdRe, qeRe, qfRe]
        refine tkRe (i := 12) (v := ?_) rfl ?y20 hHeld ?_
        case y20 => intro w0 hSw; (try dsimp only at hSw); go_simp; (try with_reducible rfl)
        try simp only [Act.put, qaRe, qbRe, qcRe, qdRe, qeRe, qfRe]
        refine tkRe (i := 13) (v := ?_) rfl ?y21 hHeld ?_
        case y21 => intro w0 hSw; (try dsimp only at hSw); go_simp; (try with_reducible rfl)
        try simp only [Act.put, qaRe, qbRe, qcRe, qdRe, qeRe, qfRe]
        refine tkRe (i := 14) (v := ?_) rfl ?y22 hHeld ?_
        case y22 => intro w0 hSw; (try dsimp only at hSw); go_simp; (try with_reducible rfl)
        try simp only [Act.put, qaRe, qbRe, qcRe, qdRe, qeRe, qfRe]
        refine wpAnyN_done (by kernel_rfl) ?_ _
        have hbtl : w1.heap.size < wa.heap.size := by have := heap_lt HBK0.out.2.1; have := HBZ.out.size; have := hBA.size; omega
        have hWD := (hwb.out wa hBA).trans (hch2.toBelow (hwb.out wa hBA).size HF.out.2.1)
        have hHD := (hch2.block _ hbtl HF.out.2.2).trans ((hhd.out wa hBA).trans HBK0.out.2.1)
        have hB5l := heap_lt HZ5.out
        have hZD := (hch2.block B5 (by have := hBA.size; omega) (fun hf => by have := HF.out.1 B5 hf; omega)).trans ((hBA.block B5 hB5l).trans HZ5.out)
        have hBPD := (HBPZ.out.below hBA).ch hch2 fun q h1 hf => by have := HF.out.1 q hf; omega
        have hF2w : ∀ q, F2 q → w.heap.size ≤ q := fun q hq => by
          rcases hnw2 q hq with h | h
          · exact HF.out.2.1 q h
          · have := (hwb.out wa hBA).size; omega
        have hF2t : ¬ F2 w1.heap.size := fun hf => by
          rcases hnw2 _ hf with h | h
          · exact HF.out.2.2 h
          · omega
        have HWD := Lib.hid hWD
        have HHD := Lib.hid hHD
        have HZD := Lib.hid hZD
        have HBPD := Lib.hid hBPD
        have HF2 := Lib.hid (And.intro hF2w hF2t)
        have HB2 := Lib.hid hb2
        obtain ⟨r, hr⟩ : ∃ r, r = checkE S x := ⟨_, rfl⟩
        have HR := Lib.hid hr
        rw [← hr]
        clear hWD hHD hZD hBPD hF2w hF2t hb2 hnw2 hch2 hrv hBA hba hcv hLc hHeld hB0 hbtl hB5l hr
        by_cases hr0 : r = 0
        · as_aux_lemma =>
            have hc : checkE S x = 0 := by rw [← HR.out]; exact hr0
            have hnm : (applyS S x).events = S.events + 1 := by rw [applyS_yes hc, keepS_events]; rfl
            have hln := fun n => BLen_any (w := wd.drewN n) (HB2.out.below (below_drewN (Below.refl _ wd) n))
            rw [hnm] at hln
            have he1 := HOK.out.ok.ev1
            have he0 := HOK.out.ok.ev0
            obtain ⟨EV, hEV⟩ : ∃ EV, EV = S.events := ⟨_, rfl⟩
            have z50 : wd.cell? ⟨B5, 0, none⟩ = some (.int .i64 EV) := by rw [cell_of_blk HZD.out, hEV]; rfl
            have b0 : wd.cell? ⟨w1.heap.size, 0, none⟩ = some (.pointer (some ⟨bb, 0, none⟩)) := by rw [cell_of_blk HHD.out]; rfl
            rw [← hEV] at hln he0 he1
            have hw : wrap64 (EV + 1) = EV + 1 := by unfold wrap64; omega
            have hw' : IntKind.i64.wrap (EV + 1) = EV + 1 := IntWalk.i64_in _ (by omega)
            subst hr0
            unfold ptrV at hln
            clear hc hnm hEV
            go_wp2_with (go_at_call 20; refine (num_any _ _).mono ?_; rintro en wn ⟨rfl, hwn⟩; have hwn := hwn.symm; subst hwn)
            go_quiet ((go_at_call 23; with_reducible refine (hln _).mono ?_; rintro en w9 ⟨rfl, rfl⟩; exact ⟨rfl, _, rfl⟩))
            go_wp2
            go_roundw
            case rel => exact ⟨k + 1, by go_num, by omega, below_drewN HWD.out _, HHD.out, F2, by rw [HFT.out]; exact HB2.out.below (below_drewN (Below.refl _ _) _), HF2.out.1, HF2.out.2⟩
            case measure => simp [intOf]; omega
        · as_aux_lemma =>
            have hc : ¬ checkE S x = 0 := by rw [← HR.out]; exact hr0
            have hSS : applyS S x = S := by unfold applyS; rw [if_neg hc]
            rw [hSS] at HB2 HFT
            have HBK := Lib.hid (fun W (hb : Below wd.heap.size wd W) => HB2.out.below hb)
            have HS13 := Lib.hid (fun W (hb : Below wd.heap.size wd W) => (show W.cell? ⟨w1.heap.size, 0, none⟩ = some (.pointer (some ⟨bb, 0, none⟩)) ∧ W.cell? (ad.add (k * 12)) = some (.int .i64 x.kind) ∧ W.cell? ⟨(ad.add (k * 12)).block, (ad.add (k * 12)).off + 1, none⟩ = some (.int .i64 x.day) ∧ W.cell? ⟨(ad.add (k * 12)).block, (ad.add (k * 12)).off + 2, none⟩ = some (.string x.key) ∧ W.cell? ⟨(ad.add (k * 12)).block, (ad.add (k * 12)).off + 3, none⟩ = some (.string x.account) ∧ W.cell? ⟨(ad.add (k * 12)).block, (ad.add (k * 12)).off + 4, none⟩ = some (.string x.other) ∧ W.cell? ⟨(ad.add (k * 12)).block, (ad.add (k * 12)).off + 5, none⟩ = some (.string x.ref) ∧ W.cell? ⟨(ad.add (k * 12)).block, (ad.add (k * 12)).off + 6, none⟩ = some (.string x.ref2) ∧ W.cell? ⟨(ad.add (k * 12)).block, (ad.add (k * 12)).off + 7, none⟩ = some (.int .i64 x.typ) ∧ W.cell? ⟨(ad.add (k * 12)).block, (ad.add (k * 12)).off + 8, none⟩ = some (.int .i64 x.due) ∧ W.cell? ⟨(ad.add (k * 12)).block, (ad.add (k * 12)).off + 9, none⟩ = some (.int .i64 x.amount) ∧ W.cell? ⟨(ad.add (k * 12)).block, (ad.add (k * 12)).off + 10, none⟩ = some (.string x.memo) ∧ W.cell? ⟨(ad.add (k * 12)).block, (ad.add (k * 12)).off + 11, none⟩ = some (lv) ∧ W.cell? ⟨B5, 0, none⟩ = some (.int .i64 S.events) ∧ W.cell? ⟨B5, 1, none⟩ = some (.slice kA S.keys.length kc) ∧ W.cell? ⟨B5, 2, none⟩ = some (.slice aA S.chart.length ac) ∧ W.cell? ⟨B5, 3, none⟩ = some (.slice rA S.rows.length rc) ∧ W.cell? ⟨B5, 4, none⟩ = some (.slice eA S.entries.length ec) ∧ W.cell? ⟨B5, 5, none⟩ = some (.slice iA (invs S).length ic) ∧ W.cell? ⟨B5, 6, none⟩ = some (.slice pA (pays S).length pc) ∧ W.cell? ⟨B5, 7, none⟩ = some (.slice lA S.allots.length lc) ∧ W.cell? ⟨B5, 8, none⟩ = some (.int .i64 S.lock) from by
              have h5 := (hb.block B5 (heap_lt HZD.out)).trans HZD.out
              obtain ⟨i0, i1, i2, i3, i4, i5, i6, i7, i8, i9, i10, i11, i12⟩ := HSG.out W (HWD.out.trans (hb.mono HWD.out.size)) ((hb.block _ (heap_lt HHD.out)).trans HHD.out)
              exact ⟨i0, i1, i2, i3, i4, i5, i6, i7, i8, i9, i10, i11, i12, by rw [cell_of_blk h5]; rfl, by rw [cell_of_blk h5]; rfl, by rw [cell_of_blk h5]; rfl, by rw [cell_of_blk h5]; rfl, by rw [cell_of_blk h5]; rfl, by rw [cell_of_blk h5]; rfl, by rw [cell_of_blk h5]; rfl, by rw [cell_of_blk h5]; rfl, by rw [cell_of_blk h5]; rfl⟩))
            have HCOP := Lib.hid (fun W (hb : Below wd.heap.size wd W) => (copied_any (w := W) (HL.out.1.below (HWD.out.trans (hb.mono HWD.out.size))) HL.out.2 HX.out.1.count))
            unfold evV at HCOP
            have HBP := Lib.hid (fun W (hb : Below wd.heap.size wd W) => HBPD.out.below hb)
            have hB0 : Below wd.heap.size wd wd.drew := (Below.refl _ wd).drew
            have hbase := Base_all (HBK.out wd.drew hB0) HOK.out.ok
            unfold ptrV at hbase
            have hr1 : (r == 0) = false := by simpa using hr0
            clear hc hSS
            go_wp2_with (go_at_call 20; refine (num_any _ _).mono ?_; rintro en wn ⟨rfl, hwn⟩; have hwn := hwn.symm; subst hwn)
            have hHeld := HS13.out wd.drew hB0
            refine wp_region_n (n := 23) (S := fun w' => w'.cell? ⟨w1.heap.size, 0, none⟩ = some (.pointer (some ⟨bb, 0, none⟩)) ∧ w'.cell? (ad.add (k * 12)) = some (.int .i64 x.kind) ∧ w'.cell? ⟨(ad.add (k * 12)).block, (ad.add (k * 12)).off + 1, none⟩ = some (.int .i64 x.day) ∧ w'.cell? ⟨(ad.add (k * 12)).block, (ad.add (k * 12)).off + 2, none⟩ = some (.string x.key) ∧ w'.cell? ⟨(ad.add (k * 12)).block, (ad.add (k * 12)).off + 3, none⟩ = some (.string x.account) ∧ w'.cell? ⟨(ad.add (k * 12)).block, (ad.add (k * 12)).off + 4, none⟩ = some (.string x.other) ∧ w'.cell? ⟨(ad.add (k * 12)).block, (ad.add (k * 12)).off + 5, none⟩ = some (.string x.ref) ∧ w'.cell? ⟨(ad.add (k * 12)).block, (ad.add (k * 12)).off + 6, none⟩ = some (.string x.ref2) ∧ w'.cell? ⟨(ad.add (k * 12)).block, (ad.add (k * 12)).off + 7, none⟩ = some (.int .i64 x.typ) ∧ w'.cell? ⟨(ad.add (k * 12)).block, (ad.add (k * 12)).off + 8, none⟩ = some (.int .i64 x.due) ∧ w'.cell? ⟨(ad.add (k * 12)).block, (ad.add (k * 12)).off + 9, none⟩ = some (.int .i64 x.amount) ∧ w'.cell? ⟨(ad.add (k * 12)).block, (ad.add (k * 12)).off + 10, none⟩ = some (.string x.memo) ∧ w'.cell? ⟨(ad.add (k * 12)).block, (ad.add (k * 12)).off + 11, none⟩ = some (lv) ∧ w'.cell? ⟨B5, 0, none⟩ = some (.int .i64 S.events) ∧ w'.cell? ⟨B5, 1, none⟩ = some (.slice kA S.keys.length kc) ∧ w'.cell? ⟨B5, 2, none⟩ = some (.slice aA S.chart.length ac) ∧ w'.cell? ⟨B5, 3, none⟩ = some (.slice rA S.rows.length rc) ∧ w'.cell? ⟨B5, 4, none⟩ = some (.slice eA S.entries.length ec) ∧ w'.cell? ⟨B5, 5, none⟩ = some (.slice iA (invs S).length ic) ∧ w'.cell? ⟨B5, 6, none⟩ = some (.slice pA (pays S).length pc) ∧ w'.cell? ⟨B5, 7, none⟩ = some (.slice lA S.allots.length lc) ∧ w'.cell? ⟨B5, 8, none⟩ = some (.int .i64 S.lock)) (by kernel_rfl) ?_
            refine tkRe (i := 0) (v := ?_) rfl ?y23 hHeld ?_
            case y23 => intro w0 hSw; (try dsimp only at hSw); go_simp; (try with_reducible rfl)
            try simp only [Act.put, qaRe, qbRe, qcRe, qdRe, qeRe, qfRe]
            refine tkRe (i := 1) (v := ?_) rfl ?y24 hHeld ?_
            case y24 => intro w0 hSw; (try dsimp only at hSw); go_simp; (try with_reducible rfl)
            try simp only [Act.put, qaRe, qbRe, qcRe, qdRe, qeRe, qfRe]
            refine tkRe (i := 2) (v := ?_) rfl ?y25 hHeld ?_
            case y25 => intro w0 hSw; (try dsimp only at hSw); go_simp; (try with_reducible rfl)
            try simp only [Act.put, qaRe, qbRe, qcRe, qdRe, qeRe, qfRe]
            refine tkRe (i := 3) (v := ?_) rfl ?y26 hHeld ?_
            case y26 => intro w0 hSw; (try dsimp only at hSw); go_simp; (try with_reducible rfl)
            try simp only [Act.put, qaRe, qbRe, qcRe, qdRe, qeRe, qfRe]
            refine tkRe (i := 5) (v := ?_) rfl ?y27 hHeld ?_
            case y27 => intro w0 hSw; (try dsimp only at hSw); go_simp; (try with_reducible rfl)
            try simp only [Act.put, qaRe, qbRe, qcRe, qdRe, qeRe, qfRe]
            refine wpAnyN_step (i := 4) (by kernel_rfl) rfl (fun K hK => ?_)
            go_simp
            go_at_call 19
            refine (hbase).mono ?_
            rintro en wb ⟨kV, aV, rV, eV, iV, pV, lV, lv2, rfl, hbp2, hbb⟩
            have hBA := hB0.trans (hbb.mono hB0.size)
            have hHeld := HS13.out wb hBA
            have hsame := same_at hbp2 (HBP.out wb hBA) HLE.out
            unfold baseV at hsame ⊢
            clear hbase hbp2 hbb
            go_wp2_with fail
            refine hK.out _ _ (fun _ => hHeld) ?_
            clear hK K
            try simp only [Act.put, qaRe, qbRe, qcRe, qdRe, qeRe, qfRe]
            refine wpAnyN_step (i := 6) (by kernel_rfl) rfl (fun K hK => ?_)
            go_simp
            go_at_call 24
            refine (hsame).mono ?_
            rintro en ws ⟨rfl, hbs⟩
            have hB9 := hBA.trans (hbs.mono hBA.size)
            have hHeld := HS13.out ws hB9
            clear hsame hbs
            go_wp2_with fail
            refine hK.out _ _ (fun _ => hHeld) ?_
            clear hK K
            try simp only [Act.put, qaRe, qbRe, qcRe, qdRe, qeRe, qfRe]
            refine tkRe (i := 7) (v := ?_) rfl ?y28 hHeld ?_
            case y28 => intro w0 hSw; (try dsimp only at hSw); go_simp; (try with_reducible rfl)
            try simp only [Act.put, qaRe, qbRe, qcRe, qdRe, qeRe, qfRe]
            refine tkRe (i := 8) (v := ?_) rfl ?y29 hHeld ?_
            case y29 => intro w0 hSw; (try dsimp only at hSw); go_simp; (try with_reducible rfl)
            try simp only [Act.put, qaRe, qbRe, qcRe, qdRe, qeRe, qfRe]
            refine tkRe (i := 9) (v := ?_) rfl ?y30 hHeld ?_
            case y30 => intro w0 hSw; (try dsimp only at hSw); go_simp; (try with_reducible rfl)
            try simp only [Act.put, qaRe, qbRe, qcRe, qdRe, qeRe, qfRe]
            refine tkRe (i := 10) (v := ?_) rfl ?y31 hHeld ?_
            case y31 => intro w0 hSw; (try dsimp only at hSw); go_simp; (try with_reducible rfl)
            try simp only [Act.put, qaRe, qbRe, qcRe, qdRe, qeRe, qfRe]
            refine tkRe (i := 11) (v := ?_) rfl ?y32 hHeld ?_
            case y32 => intro w0 hSw; (try dsimp only at hSw); go_simp; (try with_reducible rfl)
            try simp only [Act.put, qaRe, qbRe, qcRe, qdRe, qeRe, qfRe]
            refine tkRe (i := 12) (v := ?_) rfl ?y33 hHeld ?_
            case y33 => intro w0 hSw; (try dsimp only at hSw); go_simp; (try with_reducible rfl)
            try simp only [Act.put, qaRe, qbRe, qcRe, qdRe, qeRe, qfRe]
            refine tkRe (i := 13) (v := ?_) rfl ?y34 hHeld ?_
            case y34 => intro w0 hSw; (try dsimp only at hSw); go_simp; (try with_reducible rfl)
            try simp only [Act.put, qaRe, qbRe, qcRe, qdRe, qeRe, qfRe]
            refine tkRe (i := 14) (v := ?_) rfl ?y35 hHeld ?_
            case y35 => intro w0 hSw; (try dsimp only at hSw); go_simp; (try with_reducible rfl)
            try simp only [Act.put, qaRe, qbRe, qcRe, qdRe, qeRe, qfRe]
            refine tkRe (i := 15) (v := ?_) rfl ?y36 hHeld ?_
            case y36 => intro w0 hSw; (try dsimp only at hSw); go_simp; (try with_reducible rfl)
            try simp only [Act.put, qaRe, qbRe, qcRe, qdRe, qeRe, qfRe]
            refine tkRe (i := 16) (v := ?_) rfl ?y37 hHeld ?_
            case y37 => intro w0 hSw; (try dsimp only at hSw); go_simp; (try with_reducible rfl)
            try simp only [Act.put, qaRe, qbRe, qcRe, qdRe, qeRe, qfRe]
            refine tkRe (i := 20) (v := ?_) rfl ?y38 hHeld ?_
            case y38 => intro w0 hSw; (try dsimp only at hSw); go_simp; (try with_reducible rfl)
            try simp only [Act.put, qaRe, qbRe, qcRe, qdRe, qeRe, qfRe]
            refine wpAnyN_step (i := 17) (by kernel_rfl) rfl (fun K hK => ?_)
            go_simp
            go_at_call 12
            refine (HCOP.out _ hB9).mono ?_
            rintro en wa ⟨cv, rfl, hcv, hba⟩
            obtain ⟨cA, cc, hcf⟩ := own_form hcv
            subst hcf
            have hBA := hB9.trans (hba.mono hB9.size)
            have hLc : LinesAt wa (fun q => ws.heap.size ≤ q) (.slice cA x.lines.length cc) x.lines := row_own (enc := encLine) hcv (fun _ => rfl) fun q h _ => h
            have hHeld := HS13.out wa hBA
            go_wp2_with fail
            refine hK.out _ _ (fun _ => hHeld) ?_
            clear hK K
            try simp only [Act.put, qaRe, qbRe, qcRe, qdRe, qeRe, qfRe]
            have hchk := check_any (S := S) (HBK.out wa hBA) HOK.out HX.out.1 HX.out.2 cA cc hLc
            unfold evV ptrV at hchk
            refine wpAnyN_step (i := 18) (by kernel_rfl) rfl (fun K hK => ?_)
            go_simp
            go_at_call 21
            refine (hchk).mono ?_
            rintro en wc ⟨rfl, hbc⟩
            have hBC := hBA.trans (hbc.mono hBA.size)
            have hHeld := HS13.out wc hBC
            clear hchk
            go_wp2_with fail
            refine hK.out _ _ (fun _ => hHeld) ?_
            clear hK K
            try simp only [Act.put, qaRe, qbRe, qcRe, qdRe, qeRe, qfRe]
            refine wpAnyN_step (i := 19) (by kernel_rfl) rfl (fun K hK => ?_)
            go_simp
            go_at_call 20
            refine (num_any _ _).mono ?_
            rintro en wn ⟨rfl, hwn⟩
            have hwn := hwn.symm
            subst hwn
            go_wp2_with fail
            refine hK.out _ _ (fun _ => hHeld) ?_
            clear hK K
            try simp only [Act.put, qaRe, qbRe, qcRe, qdRe, qeRe, qfRe]
            refine tkRe (i := 21) (v := ?_) rfl ?y39 hHeld ?_
            case y39 => intro w0 hSw; (try dsimp only at hSw); go_simp; (try with_reducible rfl)
            try simp only [Act.put, qaRe, qbRe, qcRe, qdRe, qeRe, qfRe]
            refine tkRe (i := 22) (v := ?_) rfl ?y40 hHeld ?_
            case y40 => intro w0 hSw; (try dsimp only at hSw); go_simp; (try with_reducible rfl)
            try simp only [Act.put, qaRe, qbRe, qcRe, qdRe, qeRe, qfRe]
            refine wpAnyN_done (by kernel_rfl) ?_ _
            rw [← HR.out]
            go_wp2
            go_roundw
            case rel => exact ⟨k + 1, by go_num, by omega, HWD.out.trans (hBC.mono HWD.out.size), (hBC.block _ (heap_lt HHD.out)).trans HHD.out, F2, by rw [HFT.out]; exact HBK.out _ hBC, HF2.out.1, HF2.out.2⟩
            case measure => simp [intOf]; omega
      · have h4' : decide ((k : Int) < 100) = false := decide_eq_false (by omega)
        have hbel := Lib.hid hinv.bel
        clear hinv
        go_wp2_with (go_at_call 14; refine (first_any _).mono ?_; rintro en wf ⟨rfl, hbf⟩; have HBF := Lib.hid hbf; clear hbf)
        go_ret
        exact ⟨rfl, hbel.out.trans (HBF.out.mono hbel.out.size)⟩
    · have hbel := Lib.hid hinv.bel
      clear hinv
      go_wp2_with (go_at_call 14; refine (first_any _).mono ?_; rintro en wf ⟨rfl, hbf⟩; have HBF := Lib.hid hbf; clear hbf)
      go_ret
      exact ⟨rfl, hbel.out.trans (HBF.out.mono hbel.out.size)⟩
end Go.Proofs.YtgocoofcelggcaaGreatDoor
