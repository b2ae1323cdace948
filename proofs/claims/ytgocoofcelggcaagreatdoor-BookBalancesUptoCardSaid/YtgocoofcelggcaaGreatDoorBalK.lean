/- BookBalances: the walk. Printed by gen_bal.py. -/
import Derived.Test.YtgocoofcelggcaaGreatDoorPack15
import Derived.Test.YtgocoofcelggcaaGreatDoorPack16
import Derived.Deep.RegionHeld3
namespace Go.Proofs.YtgocoofcelggcaaGreatDoor
open Go.RowKit
set_option linter.unusedVariables false
set_option linter.unusedSimpArgs false

theorem run_rows_field (w : World) (e k a r en i p l lk : Value) : Sem.run Tryz.prog (Instr.field 50 (.agg #[e, k, a, r, en, i, p, l, lk]) 3) w = .ok r w := by kernel_rfl
theorem meas_step (n q : Nat) (h : q < n) : n - ((q : Int) + 1).toNat < n - q := by omega
theorem i64_small (n : Nat) (h : n ≤ 1048576) : wrap64 ((n : Int) + 1) = (n : Int) + 1 ∧ IntKind.i64.wrap ((n : Int) + 1) = (n : Int) + 1 := ⟨by unfold wrap64; omega, IntWalk.i64_in _ (by omega)⟩

/-- What one event that is told leaves: with the answer as a letter. -/
structure TellOut2 (w : World) (l : List EventV) (bt : Nat) (k : Nat) (t : ToldS) (x : EventV) (n : Nat) (ok : Bool) (rs : List PostV) (en : Ending) (w' : World) : Prop where
  inv : TellInv w l bt w' (k + 1)
  ret : ∃ A c, en = .returned (.tuple #[.slice A rs.length c, .bool ok]) ∧ w'.ownsRow n 39 9 (.slice A rs.length c) rs.length (rs.map encPost).flatten ∧
    ∃ H G, ToldAt w' H G bt (tellF t x) ∧ (∀ q, H q → w.heap.size ≤ q) ∧ ∀ q, (Value.slice A rs.length c).ownBlock = some q → ¬ H q

set_option maxRecDepth 100000 in
set_option maxHeartbeats 8000000 in
theorem balances_walk (w : World) (v : Value) (l : List EventV) (hl : EventsAt w v l) :
    Calls Tryz.prog 7 #[v] w fun en w' => en = .returned (.bool true) ∧ Below w.heap.size w w' := by
  obtain ⟨⟨A, c, rfl, hcl⟩, hlen, hsm⟩ := hl
  have HCL := Lib.hid hcl
  have HSM := Lib.hid hsm
  have hnew := New_book w
  clear hcl hsm
  go_enter Tryz.func7, Tryz.ntmps7
  go_wp2_with (go_at_call 15; refine hnew.mono ?_; rintro en w1 ⟨rfl, hb1, hz1, hbel1⟩; unfold ptrV; have HT := Lib.hid (told_new hb1 (fun k hk => hk.1) hbel1); have hz1' : w.heap.size ≤ w1.heap.size := (by omega); clear hnew hb1 hbel1 hz1)
  go_loopw [4] (fun i wr => ∃ k : Nat, i = .int .i64 (k : Int) ∧ k ≤ l.length ∧ TellInv w l w1.heap.size wr k) (fun i _ => l.length - (intOf i).toNat)
  case atStart => exact ⟨0, rfl, Nat.zero_le _, HT.out.zero⟩
  case round =>
    obtain ⟨k, rfl, hk, hinv⟩ := hrel
    clear HT
    by_cases hlt : k < l.length
    · by_cases h4 : k < 400
      · obtain ⟨ad, lv, rfl, hab, hcs, hL, hn⟩ := HCL.out k hlt
        have htl := hinv.tell HSM.out hlt hL hn
        have hinv' := hinv
        obtain ⟨⟨H, Gs, hto, hHw⟩, hbel⟩ := hinv'
        have hok := told_ok HSM.out k
        have hbal := bal_tells (l := l.take k) (t := toldNew) bal_new
        have hix := (HSM.out _ (List.getElem_mem hlt)).2
        obtain ⟨x, hx⟩ : ∃ x, x = l[k] := ⟨_, rfl⟩
        obtain ⟨t, ht⟩ : ∃ t, t = tellsF toldNew (l.take k) := ⟨_, rfl⟩
        rw [← hx] at hcs htl hix
        rw [← ht] at htl hto hok hbal
        obtain ⟨F, bb, tv, rv, tl, hp, hHH⟩ := hto
        obtain ⟨tA, tc, htv⟩ := own_form hp.taken
        subst htv
        have hTL : t.T.length ≤ 1000 := by have := hok.len; have := hok.ok.ok.ev1; omega
        have HEVN := Lib.hid hok.len.symm
        have HOK := Lib.hid hok
        have HBAL := Lib.hid hbal
        have HIX := Lib.hid hix
        have EVC := Lib.hid (ev_at (by rw [block_add]; exact hab) hcs)
        obtain ⟨g0, g1, g2, g3, g4, g5, g6, g7, g8, g9, g10, g11⟩ := EVC.out wr hbel
        have b0 : wr.cell? ⟨w1.heap.size, 0, none⟩ = some (ptrV bb) := by rw [cell_of_blk hp.head]; rfl
        have b1 : wr.cell? ⟨w1.heap.size, 1, none⟩ = some (.slice tA t.T.length tc) := by rw [cell_of_blk hp.head]; rfl
        have htn0 := Turnover_any hp.book
        obtain ⟨TS, hTS⟩ : ∃ TS, TS = t.S.turnover := ⟨_, rfl⟩
        rw [← hTS] at htn0
        have HTS := Lib.hid hTS
        clear hTS
        have h4' : decide ((k : Int) < 400) = true := decide_eq_true (by omega)
        have htl' : Calls Tryz.prog 13 #[ptrV w1.heap.size, evV x lv] wr (TellOut2 w l w1.heap.size k t x wr.heap.size (decide (checkE t.S x = 0)) (applyR t.S x)) := htl.mono fun en w' hh => ⟨hh.inv, hh.ret⟩
        unfold evV ptrV at htl'
        unfold ptrV at b0 htn0
        clear hcs hL hn hinv hx ht hp hHH hHw hok hbal hix htl hbel
        go_wp2_with (go_at_call 25; refine htn0.mono ?_; rintro en wx ⟨rfl, hwx⟩; obtain rfl := hwx; clear htn0 b0)
        clear b1
        by_cases hc : checkE t.S x = 0
        · have _u := 0
          as_aux_lemma =>
            have hz := rows_zero HBAL.out hc
            have hnm := apply_nums hc
            have happ : applyR t.S x = rowsOf t.S x := by unfold applyR; rw [if_pos hc]
            have hfs := rows_f t.S x
            have hrf := rows_facts HOK.out.ok HIX.out (taken_of hc).fields
            have hgr := (taken_of hc).grown
            have h0 := (turn_range HOK.out.ok.ok).1
            have hSt : (tellF t x).S = applyS t.S x := by rw [tellF_yes hc]
            rw [decide_eq_true hc] at htl'
            go_wp2_with (go_at_call 13; refine htl'.mono ?_)
            rintro en w2 ⟨hinv2, rA, rc, rfl, hown, H2, G2, hto2, _, _⟩
            obtain ⟨F2, bb2, tv2, rv2, tl2, hp2, _⟩ := hto2
            have htn := Turnover_any hp2.book
            have hln := Len_any hp2.book
            rw [hSt, hnm.1] at htn
            rw [hSt, hnm.2] at hln
            rw [happ] at hown ⊢
            rw [HEVN.out] at hln
            obtain ⟨SZ, hSZ⟩ : ∃ SZ, SZ = sumAbs (rowsOf t.S x) := ⟨_, rfl⟩
            obtain ⟨rs, hrs⟩ : ∃ rs, rs = rowsOf t.S x := ⟨_, rfl⟩
            rw [← hSZ, ← HTS.out] at htn
            have hnn := sumAbs_nonneg (rowsOf t.S x)
            rw [← hSZ] at hnn hgr
            rw [← HTS.out] at hgr h0
            have htot := tot_any (rowsOf t.S x) hown (by have := hrf.1; omega) hrf.2 (by rw [← hSZ]; omega)
            rw [hz, ← hSZ] at htot
            obtain ⟨T2, hT2⟩ : ∃ T2, T2 = TS + SZ := ⟨_, rfl⟩
            rw [← hT2] at htn
            have hw1 : wrap64 (T2 - TS) = SZ := by unfold maxA at hgr; unfold wrap64; omega
            have hw1' : IntKind.i64.wrap (T2 - TS) = SZ := by rw [show T2 - TS = SZ by omega]; exact IntWalk.i64_in _ (by unfold maxA at hgr; omega)
            have b0 : w2.cell? ⟨w1.heap.size, 0, none⟩ = some (ptrV bb2) := by rw [cell_of_blk hp2.head]; rfl
            unfold ptrV at b0 htn hln
            have hfs' : ∀ q (hq : q < rs.length), RowF t.S x q rs[q] := by subst hrs; exact hfs
            have HFS := Lib.hid hfs'
            rw [← hrs] at hown htot ⊢
            have HOW := Lib.hid hown
            have HI2 := Lib.hid hinv2
            have hrl := hrf.1
            rw [← hrs] at hrl
            have EV2 := EVC.out w2 hinv2.bel
            obtain ⟨g0, g1, g2, g3, g4, g5, g6, g7, g8, g9, g10, g11⟩ := EV2
            clear hz hnm hfs hfs' hrf hp2 hown hinv2 hSZ hrs hT2 htl' happ hSt
            go_wp2_with (first
              | (go_at_call 26; refine htot.mono ?_; rintro en wx ⟨rfl, hwx⟩; obtain rfl := hwx.symm; clear htot)
              | (go_at_call 25; refine htn.mono ?_; rintro en wx ⟨rfl, hwx⟩; obtain rfl := hwx; clear htn)
              | (go_at_call 23; refine hln.mono ?_; rintro en wx ⟨rfl, hwx⟩; obtain rfl := hwx; clear hln))
            go_loopw [12] (fun j wr => ∃ q : Nat, j = .int .i64 (q : Int) ∧ q ≤ rs.length ∧ Below w2.heap.size w2 wr) (fun j _ => rs.length - (intOf j).toNat)
            case atStart => exact ⟨0, rfl, Nat.zero_le _, Below.refl _ _⟩
            case round =>
              obtain ⟨q, rfl, hq, hb2⟩ := hrel
              by_cases hqn : q < rs.length
              · as_aux_lemma =>
                  obtain ⟨ad2, rfl, hab2, hcs2⟩ := row_read (own_below HOW.out hb2) q hqn
                  obtain ⟨f1, f2, f3, f4, f5, f6⟩ := HFS.out q hqn
                  obtain ⟨r, hr⟩ : ∃ r, r = rs[q] := ⟨_, rfl⟩
                  rw [← hr] at hcs2 f1 f2 f3 f4 f5 f6
                  rw [HEVN.out] at f1
                  have c0 : wr.cell? (ad2.add (q * 9)) = some (.int .i64 r.seq) := hcs2 0 _ rfl
                  have c1 : wr.cell? ⟨(ad2.add (q * 9)).block, (ad2.add (q * 9)).off + 1, none⟩ = some (.int .i64 r.line) := hcs2 1 _ rfl
                  have c2 : wr.cell? ⟨(ad2.add (q * 9)).block, (ad2.add (q * 9)).off + 2, none⟩ = some (.int .i64 r.day) := hcs2 2 _ rfl
                  have c3 : wr.cell? ⟨(ad2.add (q * 9)).block, (ad2.add (q * 9)).off + 3, none⟩ = some (.int .i64 r.kind) := hcs2 3 _ rfl
                  have c4 : wr.cell? ⟨(ad2.add (q * 9)).block, (ad2.add (q * 9)).off + 4, none⟩ = some (.string r.key) := hcs2 4 _ rfl
                  have c5 : wr.cell? ⟨(ad2.add (q * 9)).block, (ad2.add (q * 9)).off + 5, none⟩ = some (.string r.account) := hcs2 5 _ rfl
                  have c6 : wr.cell? ⟨(ad2.add (q * 9)).block, (ad2.add (q * 9)).off + 6, none⟩ = some (.int .i64 r.amount) := hcs2 6 _ rfl
                  have c7 : wr.cell? ⟨(ad2.add (q * 9)).block, (ad2.add (q * 9)).off + 7, none⟩ = some (.string r.tag) := hcs2 7 _ rfl
                  have c8 : wr.cell? ⟨(ad2.add (q * 9)).block, (ad2.add (q * 9)).off + 8, none⟩ = some (.string r.memo) := hcs2 8 _ rfl
                  rw [f1] at c0
                  rw [f2] at c1
                  rw [f3] at c2
                  rw [f4] at c3
                  rw [f5] at c4
                  rw [f6] at c8
                  obtain ⟨g0, g1, g2, g3, g4, g5, g6, g7, g8, g9, g10, g11⟩ := EVC.out wr (HI2.out.bel.trans (hb2.mono HI2.out.bel.size))
                  obtain ⟨hwn, hwn'⟩ := i64_small t.T.length (Nat.le_trans hTL (by decide))
                  obtain ⟨hwq, hwq'⟩ := i64_small q (Nat.le_of_lt (Nat.lt_of_lt_of_le hqn (Nat.le_trans hrl (by decide))))
                  (try clear htn)
                  (try clear hln)
                  clear hcs2 hr f1 f2 f3 f4 f5 f6 c5 c6 c7 g3 g4 g5 g6 g7 g8 g9 g11 b0 hw1 hw1' hgr h0 hnn
                  go_wp2
                  go_quiet (fail)
                  have HB := Lib.hid (below_drewN hb2 nq)
                  go_wp2
                  go_roundw
                  case rel => exact ⟨q + 1, by go_num, Nat.succ_le_of_lt hqn, HB.out⟩
                  case measure => simpa [intOf] using meas_step rs.length q hqn
              · have HB := Lib.hid hb2
                clear hb2
                go_wp2
                go_roundw
                case rel => exact ⟨k + 1, by go_num, by omega, HI2.out.below HB.out⟩
                case measure => simp [intOf]; omega
        · have _u := 0
          as_aux_lemma =>
            have happ : applyR t.S x = [] := by unfold applyR; rw [if_neg hc]
            have hSt : (tellF t x).S = t.S := by rw [tellF_no hc]
            rw [decide_eq_false hc, happ] at htl'
            go_wp2_with (go_at_call 13; refine htl'.mono ?_)
            rintro en w2 ⟨hinv2, rA, rc, rfl, hown, H2, G2, hto2, _, _⟩
            obtain ⟨F2, bb2, tv2, rv2, tl2, hp2, _⟩ := hto2
            have htn := Turnover_any hp2.book
            have hln := Len_any hp2.book
            rw [hSt, ← HTS.out] at htn
            rw [hSt, HEVN.out] at hln
            have b0 : w2.cell? ⟨w1.heap.size, 0, none⟩ = some (ptrV bb2) := by rw [cell_of_blk hp2.head]; rfl
            unfold ptrV at b0 htn hln
            have HI2 := Lib.hid hinv2
            clear hp2 hown hinv2 htl' happ hSt
            go_wp2_with (first
              | (go_at_call 25; refine htn.mono ?_; rintro en wx ⟨rfl, hwx⟩; obtain rfl := hwx; clear htn)
              | (go_at_call 23; refine hln.mono ?_; rintro en wx ⟨rfl, hwx⟩; obtain rfl := hwx; clear hln))
            go_roundw
            case rel => exact ⟨k + 1, by go_num, by omega, HI2.out⟩
            case measure => simp [intOf]; omega
      · have h4' : decide ((k : Int) < 400) = false := decide_eq_false (by omega)
        as_aux_lemma =>
          have hinv' := hinv
          obtain ⟨⟨H, Gs, hto, hHw⟩, hbel⟩ := hinv'
          have hok := told_ok HSM.out k
          have hbal := bal_tells (l := l.take k) (t := toldNew) bal_new
          obtain ⟨t, ht⟩ : ∃ t, t = tellsF toldNew (l.take k) := ⟨_, rfl⟩
          rw [← ht] at hto hok hbal
          obtain ⟨F, bb, tv, rv, tl, hp, hHH⟩ := hto
          obtain ⟨vA, vc, hvf⟩ := own_form hp.rows
          subst hvf
          have hrl : t.S.rows.length ≤ 12000 := by have := hok.ok.ok.rowsLe; have := hok.ok.ok.ev1; omega
          have htot := tot_any t.S.rows hp.rows (by omega) hok.ok.ok.rowsAmt (by rw [hok.ok.ok.turn]; exact hok.ok.ok.turnLe)
          rw [hbal.rows, hok.ok.ok.turn] at htot
          have b2 : wr.cell? ⟨w1.heap.size, 2, none⟩ = some (.slice vA t.S.rows.length vc) := by rw [cell_of_blk hp.head]; rfl
          have HI := Lib.hid hbel
          have HROW := Lib.hid hp.rows
          have hbl := heap_lt hp.head
          have htn := Turnover_any (w := wr.drew) (hp.book.below (Below.refl _ wr).drew)
          have hbase := Base_any (w := wr.drew) (hp.book.below (Below.refl _ wr).drew) hok.ok.ok
          have hs : ∀ W : World, W.heap[w1.heap.size]? = wr.heap[w1.heap.size]? → W.cell? ⟨w1.heap.size, 0, none⟩ = some (.pointer (some ⟨bb, 0, none⟩)) ∧ W.cell? ⟨w1.heap.size, 2, none⟩ = some (.slice vA t.S.rows.length vc) := fun W hW => ⟨by rw [cell_of_blk (hW.trans hp.head)]; rfl, by rw [cell_of_blk (hW.trans hp.head)]; rfl⟩
          have HS := Lib.hid hs
          unfold ptrV at htn hbase
          obtain ⟨TS, hTS⟩ : ∃ TS, TS = t.S.turnover := ⟨_, rfl⟩
          rw [← hTS] at htot htn
          have HTS := Lib.hid hTS
          clear hinv hok hbal hp hHH hs hHw hbel ht hTS
          go_wp2_with (go_at_call 26; refine htot.mono ?_)
          rintro en wx ⟨rfl, hwx⟩
          obtain rfl := hwx.symm
          clear htot b2
          go_wp2
          have hHeld := HS.out wr.drew rfl
          refine wp_region_n (n := 31) (S := fun w' => w'.cell? ⟨w1.heap.size, 0, none⟩ = some (.pointer (some ⟨bb, 0, none⟩)) ∧ w'.cell? ⟨w1.heap.size, 2, none⟩ = some (.slice vA t.S.rows.length vc)) (by kernel_rfl) ?_
          refine wpAnyN_take (i := 0) (v := ?_) rfl (by kernel_rfl) (by kernel_rfl) (by kernel_rfl) (by kernel_rfl) (fun _ _ _ h => h) (Or.inl ⟨by kernel_rfl, ?y1⟩) hHeld ?_
          case y1 =>
            intro w0 hSw
            (try dsimp only at hSw)
            go_simp
            try with_reducible rfl
          try simp only [Act.put, List.setIfInBounds_toArray, List.set_cons_zero, List.set_cons_succ, List.getElem_toArray, List.getElem_cons_succ, List.getElem_cons_zero]
          refine wpAnyN_take (i := 1) (v := ?_) rfl (by kernel_rfl) (by kernel_rfl) (by kernel_rfl) (by kernel_rfl) (fun _ _ _ h => h) (Or.inl ⟨by kernel_rfl, ?y2⟩) hHeld ?_
          case y2 =>
            intro w0 hSw
            (try dsimp only at hSw)
            go_simp
            try with_reducible rfl
          try simp only [Act.put, List.setIfInBounds_toArray, List.set_cons_zero, List.set_cons_succ, List.getElem_toArray, List.getElem_cons_succ, List.getElem_cons_zero]
          refine wpAnyN_take (i := 2) (v := ?_) rfl (by kernel_rfl) (by kernel_rfl) (by kernel_rfl) (by kernel_rfl) (fun _ _ _ h => h) (Or.inl ⟨by kernel_rfl, ?y3⟩) hHeld ?_
          case y3 =>
            intro w0 hSw
            (try dsimp only at hSw)
            go_simp
            try with_reducible rfl
          try simp only [Act.put, List.setIfInBounds_toArray, List.set_cons_zero, List.set_cons_succ, List.getElem_toArray, List.getElem_cons_succ, List.getElem_cons_zero]
          refine wpAnyN_take (i := 3) (v := ?_) rfl (by kernel_rfl) (by kernel_rfl) (by kernel_rfl) (by kernel_rfl) (fun _ _ _ h => h) (Or.inl ⟨by kernel_rfl, ?y4⟩) hHeld ?_
          case y4 =>
            intro w0 hSw
            (try dsimp only at hSw)
            go_simp
            try with_reducible rfl
          try simp only [Act.put, List.setIfInBounds_toArray, List.set_cons_zero, List.set_cons_succ, List.getElem_toArray, List.getElem_cons_succ, List.getElem_cons_zero]
          refine wpAnyN_take (i := 4) (v := ?_) rfl (by kernel_rfl) (by kernel_rfl) (by kernel_rfl) (by kernel_rfl) (fun _ _ _ h => h) (Or.inl ⟨by kernel_rfl, ?y5⟩) hHeld ?_
          case y5 =>
            intro w0 hSw
            (try dsimp only at hSw)
            go_simp
            try with_reducible rfl
          try simp only [Act.put, List.setIfInBounds_toArray, List.set_cons_zero, List.set_cons_succ, List.getElem_toArray, List.getElem_cons_succ, List.getElem_cons_zero]
          refine wpAnyN_take (i := 5) (v := ?_) rfl (by kernel_rfl) (by kernel_rfl) (by kernel_rfl) (by kernel_rfl) (fun _ _ _ h => h) (Or.inl ⟨by kernel_rfl, ?y6⟩) hHeld ?_
          case y6 =>
            intro w0 hSw
            (try dsimp only at hSw)
            go_simp
            try with_reducible rfl
          try simp only [Act.put, List.setIfInBounds_toArray, List.set_cons_zero, List.set_cons_succ, List.getElem_toArray, List.getElem_cons_succ, List.getElem_cons_zero]
          refine wpAnyN_take (i := 6) (v := ?_) rfl (by kernel_rfl) (by kernel_rfl) (by kernel_rfl) (by kernel_rfl) (fun _ _ _ h => h) (Or.inl ⟨by kernel_rfl, ?y7⟩) hHeld ?_
          case y7 =>
            intro w0 hSw
            (try dsimp only at hSw)
            go_simp
            try with_reducible rfl
          try simp only [Act.put, List.setIfInBounds_toArray, List.set_cons_zero, List.set_cons_succ, List.getElem_toArray, List.getElem_cons_succ, List.getElem_cons_zero]
          refine wpAnyN_take (i := 7) (v := ?_) rfl (by kernel_rfl) (by kernel_rfl) (by kernel_rfl) (by kernel_rfl) (fun _ _ _ h => h) (Or.inl ⟨by kernel_rfl, ?y8⟩) hHeld ?_
          case y8 =>
            intro w0 hSw
            (try dsimp only at hSw)
            go_simp
            try with_reducible rfl
          try simp only [Act.put, List.setIfInBounds_toArray, List.set_cons_zero, List.set_cons_succ, List.getElem_toArray, List.getElem_cons_succ, List.getElem_cons_zero]
          refine wpAnyN_take (i := 8) (v := ?_) rfl (by kernel_rfl) (by kernel_rfl) (by kernel_rfl) (by kernel_rfl) (fun _ _ _ h => h) (Or.inl ⟨by kernel_rfl, ?y9⟩) hHeld ?_
          case y9 =>
            intro w0 hSw
            (try dsimp only at hSw)
            go_simp
            try with_reducible rfl
          try simp only [Act.put, List.setIfInBounds_toArray, List.set_cons_zero, List.set_cons_succ, List.getElem_toArray, List.getElem_cons_succ, List.getElem_cons_zero]
          refine wpAnyN_take (i := 9) (v := ?_) rfl (by kernel_rfl) (by kernel_rfl) (by kernel_rfl) (by kernel_rfl) (fun _ _ _ h => h) (Or.inl ⟨by kernel_rfl, ?y10⟩) hHeld ?_
          case y10 =>
            intro w0 hSw
            (try dsimp only at hSw)
            go_simp
            try with_reducible rfl
          try simp only [Act.put, List.setIfInBounds_toArray, List.set_cons_zero, List.set_cons_succ, List.getElem_toArray, List.getElem_cons_succ, List.getElem_cons_zero]
          refine wpAnyN_take (i := 10) (v := ?_) rfl (by kernel_rfl) (by kernel_rfl) (by kernel_rfl) (by kernel_rfl) (fun _ _ _ h => h) (Or.inl ⟨by kernel_rfl, ?y11⟩) hHeld ?_
          case y11 =>
            intro w0 hSw
            (try dsimp only at hSw)
            go_simp
            try with_reducible rfl
          try simp only [Act.put, List.setIfInBounds_toArray, List.set_cons_zero, List.set_cons_succ, List.getElem_toArray, List.getElem_cons_succ, List.getElem_cons_zero]
          refine wpAnyN_step (i := 11) (by kernel_rfl) rfl (fun K hK => ?_)
          go_simp
          go_at_call 25
          refine htn.mono ?_
          rintro en wx ⟨rfl, hwx⟩
          subst hwx
          clear htn
          go_wp2_with fail
          refine hK.out _ _ (fun _ => hHeld) ?_
          clear hK K
          try simp only [Act.put, List.setIfInBounds_toArray, List.set_cons_zero, List.set_cons_succ, List.getElem_toArray, List.getElem_cons_succ, List.getElem_cons_zero]
          refine wpAnyN_take (i := 12) (v := ?_) rfl (by kernel_rfl) (by kernel_rfl) (by kernel_rfl) (by kernel_rfl) (fun _ _ _ h => h) (Or.inl ⟨by kernel_rfl, ?y12⟩) hHeld ?_
          case y12 =>
            intro w0 hSw
            (try dsimp only at hSw)
            go_simp
            try with_reducible rfl
          try simp only [Act.put, List.setIfInBounds_toArray, List.set_cons_zero, List.set_cons_succ, List.getElem_toArray, List.getElem_cons_succ, List.getElem_cons_zero]
          refine wpAnyN_take (i := 13) (v := ?_) rfl (by kernel_rfl) (by kernel_rfl) (by kernel_rfl) (by kernel_rfl) (fun _ _ _ h => h) (Or.inl ⟨by kernel_rfl, ?y13⟩) hHeld ?_
          case y13 =>
            intro w0 hSw
            (try dsimp only at hSw)
            go_simp
            try with_reducible rfl
          try simp only [Act.put, List.setIfInBounds_toArray, List.set_cons_zero, List.set_cons_succ, List.getElem_toArray, List.getElem_cons_succ, List.getElem_cons_zero]
          refine wpAnyN_take (i := 14) (v := ?_) rfl (by kernel_rfl) (by kernel_rfl) (by kernel_rfl) (by kernel_rfl) (fun _ _ _ h => h) (Or.inl ⟨by kernel_rfl, ?y14⟩) hHeld ?_
          case y14 =>
            intro w0 hSw
            (try dsimp only at hSw)
            go_simp
            try with_reducible rfl
          try simp only [Act.put, List.setIfInBounds_toArray, List.set_cons_zero, List.set_cons_succ, List.getElem_toArray, List.getElem_cons_succ, List.getElem_cons_zero]
          refine wpAnyN_take (i := 15) (v := ?_) rfl (by kernel_rfl) (by kernel_rfl) (by kernel_rfl) (by kernel_rfl) (fun _ _ _ h => h) (Or.inl ⟨by kernel_rfl, ?y15⟩) hHeld ?_
          case y15 =>
            intro w0 hSw
            (try dsimp only at hSw)
            go_simp
            try with_reducible rfl
          try simp only [Act.put, List.setIfInBounds_toArray, List.set_cons_zero, List.set_cons_succ, List.getElem_toArray, List.getElem_cons_succ, List.getElem_cons_zero]
          refine wpAnyN_take (i := 16) (v := ?_) rfl (by kernel_rfl) (by kernel_rfl) (by kernel_rfl) (by kernel_rfl) (fun _ _ _ h => h) (Or.inl ⟨by kernel_rfl, ?y16⟩) hHeld ?_
          case y16 =>
            intro w0 hSw
            (try dsimp only at hSw)
            go_simp
            try with_reducible rfl
          try simp only [Act.put, List.setIfInBounds_toArray, List.set_cons_zero, List.set_cons_succ, List.getElem_toArray, List.getElem_cons_succ, List.getElem_cons_zero]
          refine wpAnyN_take (i := 17) (v := ?_) rfl (by kernel_rfl) (by kernel_rfl) (by kernel_rfl) (by kernel_rfl) (fun _ _ _ h => h) (Or.inl ⟨by kernel_rfl, ?y17⟩) hHeld ?_
          case y17 =>
            intro w0 hSw
            (try dsimp only at hSw)
            go_simp
            try with_reducible rfl
          try simp only [Act.put, List.setIfInBounds_toArray, List.set_cons_zero, List.set_cons_succ, List.getElem_toArray, List.getElem_cons_succ, List.getElem_cons_zero]
          refine wpAnyN_take (i := 18) (v := ?_) rfl (by kernel_rfl) (by kernel_rfl) (by kernel_rfl) (by kernel_rfl) (fun _ _ _ h => h) (Or.inl ⟨by kernel_rfl, ?y18⟩) hHeld ?_
          case y18 =>
            intro w0 hSw
            (try dsimp only at hSw)
            go_simp
            try with_reducible rfl
          try simp only [Act.put, List.setIfInBounds_toArray, List.set_cons_zero, List.set_cons_succ, List.getElem_toArray, List.getElem_cons_succ, List.getElem_cons_zero]
          refine wpAnyN_take (i := 21) (v := ?_) rfl (by kernel_rfl) (by kernel_rfl) (by kernel_rfl) (by kernel_rfl) (fun _ _ _ h => h) (Or.inl ⟨by kernel_rfl, ?y19⟩) hHeld ?_
          case y19 =>
            intro w0 hSw
            (try dsimp only at hSw)
            go_simp
            try with_reducible rfl
          try simp only [Act.put, List.setIfInBounds_toArray, List.set_cons_zero, List.set_cons_succ, List.getElem_toArray, List.getElem_cons_succ, List.getElem_cons_zero]
          refine wpAnyN_take (i := 22) (v := ?_) rfl (by kernel_rfl) (by kernel_rfl) (by kernel_rfl) (by kernel_rfl) (fun _ _ _ h => h) (Or.inl ⟨by kernel_rfl, ?y20⟩) hHeld ?_
          case y20 =>
            intro w0 hSw
            (try dsimp only at hSw)
            go_simp
            try with_reducible rfl
          try simp only [Act.put, List.setIfInBounds_toArray, List.set_cons_zero, List.set_cons_succ, List.getElem_toArray, List.getElem_cons_succ, List.getElem_cons_zero]
          refine wpAnyN_take (i := 23) (v := ?_) rfl (by kernel_rfl) (by kernel_rfl) (by kernel_rfl) (by kernel_rfl) (fun _ _ _ h => h) (Or.inl ⟨by kernel_rfl, ?y21⟩) hHeld ?_
          case y21 =>
            intro w0 hSw
            (try dsimp only at hSw)
            go_simp
            try with_reducible rfl
          try simp only [Act.put, List.setIfInBounds_toArray, List.set_cons_zero, List.set_cons_succ, List.getElem_toArray, List.getElem_cons_succ, List.getElem_cons_zero]
          refine wpAnyN_take (i := 24) (v := ?_) rfl (by kernel_rfl) (by kernel_rfl) (by kernel_rfl) (by kernel_rfl) (fun _ _ _ h => h) (Or.inl ⟨by kernel_rfl, ?y22⟩) hHeld ?_
          case y22 =>
            intro w0 hSw
            (try dsimp only at hSw)
            go_simp
            try with_reducible rfl
          try simp only [Act.put, List.setIfInBounds_toArray, List.set_cons_zero, List.set_cons_succ, List.getElem_toArray, List.getElem_cons_succ, List.getElem_cons_zero]
          refine wpAnyN_step (i := 19) (by kernel_rfl) rfl (fun K hK => ?_)
          go_simp
          go_at_call 19
          refine hbase.mono ?_
          rintro en wb ⟨kV, aV, rV, eV, iV, pV, lV, rfl, _, hrb, hbb⟩
          obtain ⟨rA, rc, hrf⟩ := own_form hrb
          subst hrf
          have hfld := fun w0 => run_rows_field w0 (.int .i64 t.S.events) kV aV (.slice rA t.S.rows.length rc) eV iV pV lV (.int .i64 t.S.lock)
          have hsr := sameRows_any t.S.rows (w := wb) hrb (own_below HROW.out (below_undrew hbb)) (by omega)
          have HBB := Lib.hid (below_undrew hbb)
          have hHeld := HS.out wb ((below_undrew hbb).block _ hbl)
          clear hbase hrb hbb
          go_wp2_with fail
          refine hK.out _ _ (fun _ => hHeld) ?_
          clear hK K
          try simp only [Act.put, List.setIfInBounds_toArray, List.set_cons_zero, List.set_cons_succ, List.getElem_toArray, List.getElem_cons_succ, List.getElem_cons_zero]
          refine wpAnyN_take (i := 20) (v := ?_) rfl (by kernel_rfl) (by kernel_rfl) (by kernel_rfl) (by kernel_rfl) (fun _ _ _ h => h) (Or.inl ⟨by kernel_rfl, ?y23⟩) hHeld ?_
          case y23 =>
            intro w0 hSw
            (try dsimp only at hSw)
            go_simp
            try with_reducible rfl
          try simp only [Act.put, List.setIfInBounds_toArray, List.set_cons_zero, List.set_cons_succ, List.getElem_toArray, List.getElem_cons_succ, List.getElem_cons_zero]
          refine wpAnyN_step (i := 25) (by kernel_rfl) rfl (fun K hK => ?_)
          go_simp
          go_at_call 27
          refine hsr.mono ?_
          rintro en wc ⟨rfl, hbc⟩
          have HBC := Lib.hid (HBB.out.trans (hbc.mono HBB.out.size))
          have hHeld := HS.out wc (HBC.out.block _ hbl)
          clear hsr hbc
          go_wp2_with fail
          refine hK.out _ _ (fun _ => hHeld) ?_
          clear hK K
          try simp only [Act.put, List.setIfInBounds_toArray, List.set_cons_zero, List.set_cons_succ, List.getElem_toArray, List.getElem_cons_succ, List.getElem_cons_zero]
          refine wpAnyN_take (i := 26) (v := ?_) rfl (by kernel_rfl) (by kernel_rfl) (by kernel_rfl) (by kernel_rfl) (fun _ _ _ h => h) (Or.inl ⟨by kernel_rfl, ?y24⟩) hHeld ?_
          case y24 =>
            intro w0 hSw
            (try dsimp only at hSw)
            go_simp
            try with_reducible rfl
          try simp only [Act.put, List.setIfInBounds_toArray, List.set_cons_zero, List.set_cons_succ, List.getElem_toArray, List.getElem_cons_succ, List.getElem_cons_zero]
          refine wpAnyN_take (i := 27) (v := ?_) rfl (by kernel_rfl) (by kernel_rfl) (by kernel_rfl) (by kernel_rfl) (fun _ _ _ h => h) (Or.inl ⟨by kernel_rfl, ?y25⟩) hHeld ?_
          case y25 =>
            intro w0 hSw
            (try dsimp only at hSw)
            go_simp
            try with_reducible rfl
          try simp only [Act.put, List.setIfInBounds_toArray, List.set_cons_zero, List.set_cons_succ, List.getElem_toArray, List.getElem_cons_succ, List.getElem_cons_zero]
          refine wpAnyN_step (i := 28) (by kernel_rfl) rfl (fun K hK => ?_)
          go_simp
          go_at_call 14
          refine (first_any wc).mono ?_
          rintro en wd ⟨rfl, hbd⟩
          have HBD := Lib.hid (HBC.out.trans (hbd.mono HBC.out.size))
          have hHeld := HS.out wd (HBD.out.block _ hbl)
          clear hbd
          go_wp2_with fail
          refine hK.out _ _ (fun _ => hHeld) ?_
          clear hK K
          try simp only [Act.put, List.setIfInBounds_toArray, List.set_cons_zero, List.set_cons_succ, List.getElem_toArray, List.getElem_cons_succ, List.getElem_cons_zero]
          refine wpAnyN_take (i := 29) (v := ?_) rfl (by kernel_rfl) (by kernel_rfl) (by kernel_rfl) (by kernel_rfl) (fun _ _ _ h => h) (Or.inl ⟨by kernel_rfl, ?y26⟩) hHeld ?_
          case y26 =>
            intro w0 hSw
            (try dsimp only at hSw)
            go_simp
            try with_reducible rfl
          try simp only [Act.put, List.setIfInBounds_toArray, List.set_cons_zero, List.set_cons_succ, List.getElem_toArray, List.getElem_cons_succ, List.getElem_cons_zero]
          refine wpAnyN_take (i := 30) (v := ?_) rfl (by kernel_rfl) (by kernel_rfl) (by kernel_rfl) (by kernel_rfl) (fun _ _ _ h => h) (Or.inl ⟨by kernel_rfl, ?y27⟩) hHeld ?_
          case y27 =>
            intro w0 hSw
            (try dsimp only at hSw)
            go_simp
            try with_reducible rfl
          try simp only [Act.put, List.setIfInBounds_toArray, List.set_cons_zero, List.set_cons_succ, List.getElem_toArray, List.getElem_cons_succ, List.getElem_cons_zero]
          refine wpAnyN_done (by kernel_rfl) ?_ _
          go_wp2
          go_ret
          exact ⟨rfl, HI.out.trans (HBD.out.mono HI.out.size)⟩
    · have _u := 0
      as_aux_lemma =>
        have hinv' := hinv
        obtain ⟨⟨H, Gs, hto, hHw⟩, hbel⟩ := hinv'
        have hok := told_ok HSM.out k
        have hbal := bal_tells (l := l.take k) (t := toldNew) bal_new
        obtain ⟨t, ht⟩ : ∃ t, t = tellsF toldNew (l.take k) := ⟨_, rfl⟩
        rw [← ht] at hto hok hbal
        obtain ⟨F, bb, tv, rv, tl, hp, hHH⟩ := hto
        obtain ⟨vA, vc, hvf⟩ := own_form hp.rows
        subst hvf
        have hrl : t.S.rows.length ≤ 12000 := by have := hok.ok.ok.rowsLe; have := hok.ok.ok.ev1; omega
        have htot := tot_any t.S.rows hp.rows (by omega) hok.ok.ok.rowsAmt (by rw [hok.ok.ok.turn]; exact hok.ok.ok.turnLe)
        rw [hbal.rows, hok.ok.ok.turn] at htot
        have b2 : wr.cell? ⟨w1.heap.size, 2, none⟩ = some (.slice vA t.S.rows.length vc) := by rw [cell_of_blk hp.head]; rfl
        have HI := Lib.hid hbel
        have HROW := Lib.hid hp.rows
        have hbl := heap_lt hp.head
        have htn := Turnover_any (w := wr.drew) (hp.book.below (Below.refl _ wr).drew)
        have hbase := Base_any (w := wr.drew) (hp.book.below (Below.refl _ wr).drew) hok.ok.ok
        have hs : ∀ W : World, W.heap[w1.heap.size]? = wr.heap[w1.heap.size]? → W.cell? ⟨w1.heap.size, 0, none⟩ = some (.pointer (some ⟨bb, 0, none⟩)) ∧ W.cell? ⟨w1.heap.size, 2, none⟩ = some (.slice vA t.S.rows.length vc) := fun W hW => ⟨by rw [cell_of_blk (hW.trans hp.head)]; rfl, by rw [cell_of_blk (hW.trans hp.head)]; rfl⟩
        have HS := Lib.hid hs
        unfold ptrV at htn hbase
        obtain ⟨TS, hTS⟩ : ∃ TS, TS = t.S.turnover := ⟨_, rfl⟩
        rw [← hTS] at htot htn
        have HTS := Lib.hid hTS
        clear hinv hok hbal hp hHH hs hHw hbel ht hTS
        go_wp2_with (go_at_call 26; refine htot.mono ?_)
        rintro en wx ⟨rfl, hwx⟩
        obtain rfl := hwx.symm
        clear htot b2
        go_wp2
        have hHeld := HS.out wr.drew rfl
        refine wp_region_n (n := 31) (S := fun w' => w'.cell? ⟨w1.heap.size, 0, none⟩ = some (.pointer (some ⟨bb, 0, none⟩)) ∧ w'.cell? ⟨w1.heap.size, 2, none⟩ = some (.slice vA t.S.rows.length vc)) (by kernel_rfl) ?_
        refine wpAnyN_take (i := 0) (v := ?_) rfl (by kernel_rfl) (by kernel_rfl) (by kernel_rfl) (by kernel_rfl) (fun _ _ _ h => h) (Or.inl ⟨by kernel_rfl, ?y1⟩) hHeld ?_
        case y1 =>
          intro w0 hSw
          (try dsimp only at hSw)
          go_simp
          try with_reducible rfl
        try simp only [Act.put, List.setIfInBounds_toArray, List.set_cons_zero, List.set_cons_succ, List.getElem_toArray, List.getElem_cons_succ, List.getElem_cons_zero]
        refine wpAnyN_take (i := 1) (v := ?_) rfl (by kernel_rfl) (by kernel_rfl) (by kernel_rfl) (by kernel_rfl) (fun _ _ _ h => h) (Or.inl ⟨by kernel_rfl, ?y2⟩) hHeld ?_
        case y2 =>
          intro w0 hSw
          (try dsimp only at hSw)
          go_simp
          try with_reducible rfl
        try simp only [Act.put, List.setIfInBounds_toArray, List.set_cons_zero, List.set_cons_succ, List.getElem_toArray, List.getElem_cons_succ, List.getElem_cons_zero]
        refine wpAnyN_take (i := 2) (v := ?_) rfl (by kernel_rfl) (by kernel_rfl) (by kernel_rfl) (by kernel_rfl) (fun _ _ _ h => h) (Or.inl ⟨by kernel_rfl, ?y3⟩) hHeld ?_
        case y3 =>
          intro w0 hSw
          (try dsimp only at hSw)
          go_simp
          try with_reducible rfl
        try simp only [Act.put, List.setIfInBounds_toArray, List.set_cons_zero, List.set_cons_succ, List.getElem_toArray, List.getElem_cons_succ, List.getElem_cons_zero]
        refine wpAnyN_take (i := 3) (v := ?_) rfl (by kernel_rfl) (by kernel_rfl) (by kernel_rfl) (by kernel_rfl) (fun _ _ _ h => h) (Or.inl ⟨by kernel_rfl, ?y4⟩) hHeld ?_
        case y4 =>
          intro w0 hSw
          (try dsimp only at hSw)
          go_simp
          try with_reducible rfl
        try simp only [Act.put, List.setIfInBounds_toArray, List.set_cons_zero, List.set_cons_succ, List.getElem_toArray, List.getElem_cons_succ, List.getElem_cons_zero]
        refine wpAnyN_take (i := 4) (v := ?_) rfl (by kernel_rfl) (by kernel_rfl) (by kernel_rfl) (by kernel_rfl) (fun _ _ _ h => h) (Or.inl ⟨by kernel_rfl, ?y5⟩) hHeld ?_
        case y5 =>
          intro w0 hSw
          (try dsimp only at hSw)
          go_simp
          try with_reducible rfl
        try simp only [Act.put, List.setIfInBounds_toArray, List.set_cons_zero, List.set_cons_succ, List.getElem_toArray, List.getElem_cons_succ, List.getElem_cons_zero]
        refine wpAnyN_take (i := 5) (v := ?_) rfl (by kernel_rfl) (by kernel_rfl) (by kernel_rfl) (by kernel_rfl) (fun _ _ _ h => h) (Or.inl ⟨by kernel_rfl, ?y6⟩) hHeld ?_
        case y6 =>
          intro w0 hSw
          (try dsimp only at hSw)
          go_simp
          try with_reducible rfl
        try simp only [Act.put, List.setIfInBounds_toArray, List.set_cons_zero, List.set_cons_succ, List.getElem_toArray, List.getElem_cons_succ, List.getElem_cons_zero]
        refine wpAnyN_take (i := 6) (v := ?_) rfl (by kernel_rfl) (by kernel_rfl) (by kernel_rfl) (by kernel_rfl) (fun _ _ _ h => h) (Or.inl ⟨by kernel_rfl, ?y7⟩) hHeld ?_
        case y7 =>
          intro w0 hSw
          (try dsimp only at hSw)
          go_simp
          try with_reducible rfl
        try simp only [Act.put, List.setIfInBounds_toArray, List.set_cons_zero, List.set_cons_succ, List.getElem_toArray, List.getElem_cons_succ, List.getElem_cons_zero]
        refine wpAnyN_take (i := 7) (v := ?_) rfl (by kernel_rfl) (by kernel_rfl) (by kernel_rfl) (by kernel_rfl) (fun _ _ _ h => h) (Or.inl ⟨by kernel_rfl, ?y8⟩) hHeld ?_
        case y8 =>
          intro w0 hSw
          (try dsimp only at hSw)
          go_simp
          try with_reducible rfl
        try simp only [Act.put, List.setIfInBounds_toArray, List.set_cons_zero, List.set_cons_succ, List.getElem_toArray, List.getElem_cons_succ, List.getElem_cons_zero]
        refine wpAnyN_take (i := 8) (v := ?_) rfl (by kernel_rfl) (by kernel_rfl) (by kernel_rfl) (by kernel_rfl) (fun _ _ _ h => h) (Or.inl ⟨by kernel_rfl, ?y9⟩) hHeld ?_
        case y9 =>
          intro w0 hSw
          (try dsimp only at hSw)
          go_simp
          try with_reducible rfl
        try simp only [Act.put, List.setIfInBounds_toArray, List.set_cons_zero, List.set_cons_succ, List.getElem_toArray, List.getElem_cons_succ, List.getElem_cons_zero]
        refine wpAnyN_take (i := 9) (v := ?_) rfl (by kernel_rfl) (by kernel_rfl) (by kernel_rfl) (by kernel_rfl) (fun _ _ _ h => h) (Or.inl ⟨by kernel_rfl, ?y10⟩) hHeld ?_
        case y10 =>
          intro w0 hSw
          (try dsimp only at hSw)
          go_simp
          try with_reducible rfl
        try simp only [Act.put, List.setIfInBounds_toArray, List.set_cons_zero, List.set_cons_succ, List.getElem_toArray, List.getElem_cons_succ, List.getElem_cons_zero]
        refine wpAnyN_take (i := 10) (v := ?_) rfl (by kernel_rfl) (by kernel_rfl) (by kernel_rfl) (by kernel_rfl) (fun _ _ _ h => h) (Or.inl ⟨by kernel_rfl, ?y11⟩) hHeld ?_
        case y11 =>
          intro w0 hSw
          (try dsimp only at hSw)
          go_simp
          try with_reducible rfl
        try simp only [Act.put, List.setIfInBounds_toArray, List.set_cons_zero, List.set_cons_succ, List.getElem_toArray, List.getElem_cons_succ, List.getElem_cons_zero]
        refine wpAnyN_step (i := 11) (by kernel_rfl) rfl (fun K hK => ?_)
        go_simp
        go_at_call 25
        refine htn.mono ?_
        rintro en wx ⟨rfl, hwx⟩
        subst hwx
        clear htn
        go_wp2_with fail
        refine hK.out _ _ (fun _ => hHeld) ?_
        clear hK K
        try simp only [Act.put, List.setIfInBounds_toArray, List.set_cons_zero, List.set_cons_succ, List.getElem_toArray, List.getElem_cons_succ, List.getElem_cons_zero]
        refine wpAnyN_take (i := 12) (v := ?_) rfl (by kernel_rfl) (by kernel_rfl) (by kernel_rfl) (by kernel_rfl) (fun _ _ _ h => h) (Or.inl ⟨by kernel_rfl, ?y12⟩) hHeld ?_
        case y12 =>
          intro w0 hSw
          (try dsimp only at hSw)
          go_simp
          try with_reducible rfl
        try simp only [Act.put, List.setIfInBounds_toArray, List.set_cons_zero, List.set_cons_succ, List.getElem_toArray, List.getElem_cons_succ, List.getElem_cons_zero]
        refine wpAnyN_take (i := 13) (v := ?_) rfl (by kernel_rfl) (by kernel_rfl) (by kernel_rfl) (by kernel_rfl) (fun _ _ _ h => h) (Or.inl ⟨by kernel_rfl, ?y13⟩) hHeld ?_
        case y13 =>
          intro w0 hSw
          (try dsimp only at hSw)
          go_simp
          try with_reducible rfl
        try simp only [Act.put, List.setIfInBounds_toArray, List.set_cons_zero, List.set_cons_succ, List.getElem_toArray, List.getElem_cons_succ, List.getElem_cons_zero]
        refine wpAnyN_take (i := 14) (v := ?_) rfl (by kernel_rfl) (by kernel_rfl) (by kernel_rfl) (by kernel_rfl) (fun _ _ _ h => h) (Or.inl ⟨by kernel_rfl, ?y14⟩) hHeld ?_
        case y14 =>
          intro w0 hSw
          (try dsimp only at hSw)
          go_simp
          try with_reducible rfl
        try simp only [Act.put, List.setIfInBounds_toArray, List.set_cons_zero, List.set_cons_succ, List.getElem_toArray, List.getElem_cons_succ, List.getElem_cons_zero]
        refine wpAnyN_take (i := 15) (v := ?_) rfl (by kernel_rfl) (by kernel_rfl) (by kernel_rfl) (by kernel_rfl) (fun _ _ _ h => h) (Or.inl ⟨by kernel_rfl, ?y15⟩) hHeld ?_
        case y15 =>
          intro w0 hSw
          (try dsimp only at hSw)
          go_simp
          try with_reducible rfl
        try simp only [Act.put, List.setIfInBounds_toArray, List.set_cons_zero, List.set_cons_succ, List.getElem_toArray, List.getElem_cons_succ, List.getElem_cons_zero]
        refine wpAnyN_take (i := 16) (v := ?_) rfl (by kernel_rfl) (by kernel_rfl) (by kernel_rfl) (by kernel_rfl) (fun _ _ _ h => h) (Or.inl ⟨by kernel_rfl, ?y16⟩) hHeld ?_
        case y16 =>
          intro w0 hSw
          (try dsimp only at hSw)
          go_simp
          try with_reducible rfl
        try simp only [Act.put, List.setIfInBounds_toArray, List.set_cons_zero, List.set_cons_succ, List.getElem_toArray, List.getElem_cons_succ, List.getElem_cons_zero]
        refine wpAnyN_take (i := 17) (v := ?_) rfl (by kernel_rfl) (by kernel_rfl) (by kernel_rfl) (by kernel_rfl) (fun _ _ _ h => h) (Or.inl ⟨by kernel_rfl, ?y17⟩) hHeld ?_
        case y17 =>
          intro w0 hSw
          (try dsimp only at hSw)
          go_simp
          try with_reducible rfl
        try simp only [Act.put, List.setIfInBounds_toArray, List.set_cons_zero, List.set_cons_succ, List.getElem_toArray, List.getElem_cons_succ, List.getElem_cons_zero]
        refine wpAnyN_take (i := 18) (v := ?_) rfl (by kernel_rfl) (by kernel_rfl) (by kernel_rfl) (by kernel_rfl) (fun _ _ _ h => h) (Or.inl ⟨by kernel_rfl, ?y18⟩) hHeld ?_
        case y18 =>
          intro w0 hSw
          (try dsimp only at hSw)
          go_simp
          try with_reducible rfl
        try simp only [Act.put, List.setIfInBounds_toArray, List.set_cons_zero, List.set_cons_succ, List.getElem_toArray, List.getElem_cons_succ, List.getElem_cons_zero]
        refine wpAnyN_take (i := 21) (v := ?_) rfl (by kernel_rfl) (by kernel_rfl) (by kernel_rfl) (by kernel_rfl) (fun _ _ _ h => h) (Or.inl ⟨by kernel_rfl, ?y19⟩) hHeld ?_
        case y19 =>
          intro w0 hSw
          (try dsimp only at hSw)
          go_simp
          try with_reducible rfl
        try simp only [Act.put, List.setIfInBounds_toArray, List.set_cons_zero, List.set_cons_succ, List.getElem_toArray, List.getElem_cons_succ, List.getElem_cons_zero]
        refine wpAnyN_take (i := 22) (v := ?_) rfl (by kernel_rfl) (by kernel_rfl) (by kernel_rfl) (by kernel_rfl) (fun _ _ _ h => h) (Or.inl ⟨by kernel_rfl, ?y20⟩) hHeld ?_
        case y20 =>
          intro w0 hSw
          (try dsimp only at hSw)
          go_simp
          try with_reducible rfl
        try simp only [Act.put, List.setIfInBounds_toArray, List.set_cons_zero, List.set_cons_succ, List.getElem_toArray, List.getElem_cons_succ, List.getElem_cons_zero]
        refine wpAnyN_take (i := 23) (v := ?_) rfl (by kernel_rfl) (by kernel_rfl) (by kernel_rfl) (by kernel_rfl) (fun _ _ _ h => h) (Or.inl ⟨by kernel_rfl, ?y21⟩) hHeld ?_
        case y21 =>
          intro w0 hSw
          (try dsimp only at hSw)
          go_simp
          try with_reducible rfl
        try simp only [Act.put, List.setIfInBounds_toArray, List.set_cons_zero, List.set_cons_succ, List.getElem_toArray, List.getElem_cons_succ, List.getElem_cons_zero]
        refine wpAnyN_take (i := 24) (v := ?_) rfl (by kernel_rfl) (by kernel_rfl) (by kernel_rfl) (by kernel_rfl) (fun _ _ _ h => h) (Or.inl ⟨by kernel_rfl, ?y22⟩) hHeld ?_
        case y22 =>
          intro w0 hSw
          (try dsimp only at hSw)
          go_simp
          try with_reducible rfl
        try simp only [Act.put, List.setIfInBounds_toArray, List.set_cons_zero, List.set_cons_succ, List.getElem_toArray, List.getElem_cons_succ, List.getElem_cons_zero]
        refine wpAnyN_step (i := 19) (by kernel_rfl) rfl (fun K hK => ?_)
        go_simp
        go_at_call 19
        refine hbase.mono ?_
        rintro en wb ⟨kV, aV, rV, eV, iV, pV, lV, rfl, _, hrb, hbb⟩
        obtain ⟨rA, rc, hrf⟩ := own_form hrb
        subst hrf
        have hfld := fun w0 => run_rows_field w0 (.int .i64 t.S.events) kV aV (.slice rA t.S.rows.length rc) eV iV pV lV (.int .i64 t.S.lock)
        have hsr := sameRows_any t.S.rows (w := wb) hrb (own_below HROW.out (below_undrew hbb)) (by omega)
        have HBB := Lib.hid (below_undrew hbb)
        have hHeld := HS.out wb ((below_undrew hbb).block _ hbl)
        clear hbase hrb hbb
        go_wp2_with fail
        refine hK.out _ _ (fun _ => hHeld) ?_
        clear hK K
        try simp only [Act.put, List.setIfInBounds_toArray, List.set_cons_zero, List.set_cons_succ, List.getElem_toArray, List.getElem_cons_succ, List.getElem_cons_zero]
        refine wpAnyN_take (i := 20) (v := ?_) rfl (by kernel_rfl) (by kernel_rfl) (by kernel_rfl) (by kernel_rfl) (fun _ _ _ h => h) (Or.inl ⟨by kernel_rfl, ?y23⟩) hHeld ?_
        case y23 =>
          intro w0 hSw
          (try dsimp only at hSw)
          go_simp
          try with_reducible rfl
        try simp only [Act.put, List.setIfInBounds_toArray, List.set_cons_zero, List.set_cons_succ, List.getElem_toArray, List.getElem_cons_succ, List.getElem_cons_zero]
        refine wpAnyN_step (i := 25) (by kernel_rfl) rfl (fun K hK => ?_)
        go_simp
        go_at_call 27
        refine hsr.mono ?_
        rintro en wc ⟨rfl, hbc⟩
        have HBC := Lib.hid (HBB.out.trans (hbc.mono HBB.out.size))
        have hHeld := HS.out wc (HBC.out.block _ hbl)
        clear hsr hbc
        go_wp2_with fail
        refine hK.out _ _ (fun _ => hHeld) ?_
        clear hK K
        try simp only [Act.put, List.setIfInBounds_toArray, List.set_cons_zero, List.set_cons_succ, List.getElem_toArray, List.getElem_cons_succ, List.getElem_cons_zero]
        refine wpAnyN_take (i := 26) (v := ?_) rfl (by kernel_rfl) (by kernel_rfl) (by kernel_rfl) (by kernel_rfl) (fun _ _ _ h => h) (Or.inl ⟨by kernel_rfl, ?y24⟩) hHeld ?_
        case y24 =>
          intro w0 hSw
          (try dsimp only at hSw)
          go_simp
          try with_reducible rfl
        try simp only [Act.put, List.setIfInBounds_toArray, List.set_cons_zero, List.set_cons_succ, List.getElem_toArray, List.getElem_cons_succ, List.getElem_cons_zero]
        refine wpAnyN_take (i := 27) (v := ?_) rfl (by kernel_rfl) (by kernel_rfl) (by kernel_rfl) (by kernel_rfl) (fun _ _ _ h => h) (Or.inl ⟨by kernel_rfl, ?y25⟩) hHeld ?_
        case y25 =>
          intro w0 hSw
          (try dsimp only at hSw)
          go_simp
          try with_reducible rfl
        try simp only [Act.put, List.setIfInBounds_toArray, List.set_cons_zero, List.set_cons_succ, List.getElem_toArray, List.getElem_cons_succ, List.getElem_cons_zero]
        refine wpAnyN_step (i := 28) (by kernel_rfl) rfl (fun K hK => ?_)
        go_simp
        go_at_call 14
        refine (first_any wc).mono ?_
        rintro en wd ⟨rfl, hbd⟩
        have HBD := Lib.hid (HBC.out.trans (hbd.mono HBC.out.size))
        have hHeld := HS.out wd (HBD.out.block _ hbl)
        clear hbd
        go_wp2_with fail
        refine hK.out _ _ (fun _ => hHeld) ?_
        clear hK K
        try simp only [Act.put, List.setIfInBounds_toArray, List.set_cons_zero, List.set_cons_succ, List.getElem_toArray, List.getElem_cons_succ, List.getElem_cons_zero]
        refine wpAnyN_take (i := 29) (v := ?_) rfl (by kernel_rfl) (by kernel_rfl) (by kernel_rfl) (by kernel_rfl) (fun _ _ _ h => h) (Or.inl ⟨by kernel_rfl, ?y26⟩) hHeld ?_
        case y26 =>
          intro w0 hSw
          (try dsimp only at hSw)
          go_simp
          try with_reducible rfl
        try simp only [Act.put, List.setIfInBounds_toArray, List.set_cons_zero, List.set_cons_succ, List.getElem_toArray, List.getElem_cons_succ, List.getElem_cons_zero]
        refine wpAnyN_take (i := 30) (v := ?_) rfl (by kernel_rfl) (by kernel_rfl) (by kernel_rfl) (by kernel_rfl) (fun _ _ _ h => h) (Or.inl ⟨by kernel_rfl, ?y27⟩) hHeld ?_
        case y27 =>
          intro w0 hSw
          (try dsimp only at hSw)
          go_simp
          try with_reducible rfl
        try simp only [Act.put, List.setIfInBounds_toArray, List.set_cons_zero, List.set_cons_succ, List.getElem_toArray, List.getElem_cons_succ, List.getElem_cons_zero]
        refine wpAnyN_done (by kernel_rfl) ?_ _
        go_wp2
        go_ret
        exact ⟨rfl, HI.out.trans (HBD.out.mono HI.out.size)⟩
end Go.Proofs.YtgocoofcelggcaaGreatDoor
