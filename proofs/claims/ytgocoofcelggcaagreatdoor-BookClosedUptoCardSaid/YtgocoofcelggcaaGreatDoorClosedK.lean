/- BookClosed: the walk. Printed by gen_closed.py. -/
import Derived.Test.YtgocoofcelggcaaGreatDoorPack14
import Derived.Test.YtgocoofcelggcaaGreatDoorPack16
import Derived.Test.YtgocoofcelggcaaGreatDoorPack15
import Derived.Deep.RegionHeld3
namespace Go.Proofs.YtgocoofcelggcaaGreatDoor
theorem qaCl {T : Type} (l : List T) (i : Nat) (a : T) : l.toArray.setIfInBounds i a = (l.set i a).toArray := List.setIfInBounds_toArray l i a
theorem qbCl {T : Type} {x : T} {xs : List T} {a : T} : (x :: xs).set 0 a = a :: xs := List.set_cons_zero
theorem qcCl {T : Type} {x : T} {xs : List T} {i : Nat} {a : T} : (x :: xs).set (i + 1) a = x :: xs.set i a := List.set_cons_succ
theorem qdCl {T : Type} {xs : List T} {i : Nat} (h : i < xs.toArray.size) : xs.toArray[i] = xs[i]'(by simpa using h) := List.getElem_toArray h
theorem qeCl {T : Type} (a : T) (ys : List T) (i : Nat) (h : i + 1 < (a :: ys).length) : (a :: ys)[i + 1] = ys[i]'(by simpa using h) := List.getElem_cons_succ a ys i h
theorem qfCl {T : Type} (a : T) (ys : List T) (h : 0 < (a :: ys).length) : (a :: ys)[0] = a := List.getElem_cons_zero a ys h
open Go.RowKit
set_option linter.unusedVariables false
set_option linter.unusedSimpArgs false

theorem run_acc_field (w : World) (e k a r en i p l lk : Value) : Sem.run Tryz.prog (Instr.field 50 (.agg #[e, k, a, r, en, i, p, l, lk]) 2) w = .ok a w := by kernel_rfl
theorem meas_step2 (n q : Nat) (h : q < n) : n - ((q : Int) + 1).toNat < n - q := by omega
theorem acc_cells {B n c : Nat} {w : World} {L : List Acct} {A : Option Addr} (h : AccRow B w L (.slice A n c)) (q : Nat) (hq : q < L.length) : ∃ ba, A = some ⟨ba, 0, none⟩ ∧ ba < w.heap.size ∧ w.cell? ⟨ba, q * 4, none⟩ = some (.string L[q].name) ∧ w.cell? ⟨ba, q * 4 + 1, none⟩ = some (.int .i64 L[q].typ) ∧ w.cell? ⟨ba, q * 4 + 2, none⟩ = some (.int .i64 L[q].opened) ∧ w.cell? ⟨ba, q * 4 + 3, none⟩ = some (.bool L[q].closed) := by
  generalize hv : Value.slice A n c = v at h
  cases h with
  | nil h => subst h; simp at hq
  | row b c' hb hR =>
    injection hv with h1 _ _
    exact ⟨b, h1, hR.lt, hR.c0 q hq, hR.c1 q hq, hR.c2 q hq, hR.c3 q hq⟩
theorem tellF_S (t : ToldS) (x : EventV) : (tellF t x).S = applyS t.S x := by
  by_cases hc : checkE t.S x = 0
  · rw [tellF_yes hc]
  · rw [tellF_no hc]
    unfold applyS
    rw [if_neg hc]
/-- An event told behind a look at the books: what the look made stays. -/
structure TellFrame (w : World) (l : List EventV) (bt k : Nat) (n m : Nat) (wb : World) (ok : Bool) (rs : List PostV) (t1 : ToldS) (en : Ending) (w' : World) : Prop where
  inv : TellInv w l bt w' (k + 1)
  ret : ∃ A c, en = .returned (.tuple #[.slice A rs.length c, .bool ok]) ∧ w'.ownsRow m 39 9 (.slice A rs.length c) rs.length (rs.map encPost).flatten
  told : ∃ H G, ToldAt w' H G bt t1
  size : m ≤ w'.heap.size
  keep : ∀ q, n ≤ q → q < m → w'.heap[q]? = wb.heap[q]?
theorem tell_frame {w wr wb : World} {l : List EventV} {bt k : Nat} (h : TellInv w l bt wr k) (hb : Below wr.heap.size wr wb) (hs : ∀ e ∈ l, SmallEv e ∧ InEv e) (hk : k < l.length) {lv : Value} (hL : LinesAt w (fun q => q < w.heap.size) lv l[k].lines) (hn : NilOk lv) :
    Calls Tryz.prog 13 #[ptrV bt, evV l[k] lv] wb (TellFrame w l bt k wr.heap.size wb.heap.size wb (decide (checkE (tellsF toldNew (l.take k)).S l[k] = 0)) (applyR (tellsF toldNew (l.take k)).S l[k]) (tellF (tellsF toldNew (l.take k)) l[k])) := by
  obtain ⟨H, G, h1, h2⟩ := h.told
  have hx := hs _ (List.getElem_mem hk)
  have hbw := h.bel.trans (hb.mono h.bel.size)
  have hw := hbw.size
  have hlt := h1.lt
  refine (tell_any (h1.below hb) (told_ok hs k) hx.1 hx.2 (hL.below hbw) hn fun q hq => .inl fun hh => by have := h2 q hh; omega).mono ?_
  rintro en w' ⟨rv, H', G', rfl, ht, hown, hch, hnew, hdis, _⟩
  obtain ⟨A, c, rfl⟩ := own_form hown
  have hH' : ∀ q, H' q → w.heap.size ≤ q := fun q hq => by
    rcases hnew q hq with h3 | h3
    · exact h2 q h3
    · omega
  exact ⟨⟨⟨H', G', by rw [tells_take hk]; exact ht, hH'⟩, hbw.trans (hch.toBelow hw h2)⟩, ⟨A, c, rfl, hown⟩, ⟨H', G', ht⟩, hch.size, fun q h3 h4 => hch.block q h4 fun hh => by have := hlt q hh; omega⟩

set_option maxRecDepth 100000 in
set_option maxHeartbeats 8000000 in
theorem closed_walk (w : World) (v : Value) (l : List EventV) (hl : EventsAt w v l) :
    Calls Tryz.prog 9 #[v] w fun en w' => en = .returned (.bool true) ∧ Below w.heap.size w w' := by
  obtain ⟨⟨A, c, rfl, hcl⟩, hlen, hsm⟩ := hl
  have HCL := Lib.hid hcl
  have HSM := Lib.hid hsm
  have hnew := New_book w
  clear hcl hsm
  go_enter Tryz.func9, Tryz.ntmps9
  go_wp2_with (go_at_call 15; refine hnew.mono ?_; rintro en w1 ⟨rfl, hb1, hz1, hbel1⟩; unfold ptrV; have HT := Lib.hid (told_new hb1 (fun k hk => hk.1) hbel1); have hz1' : w.heap.size ≤ w1.heap.size := (by omega); clear hnew hb1 hbel1 hz1)
  go_loopw [4] (fun i wr => ∃ k : Nat, i = .int .i64 (k : Int) ∧ k ≤ l.length ∧ TellInv w l w1.heap.size wr k) (fun i _ => l.length - (intOf i).toNat)
  case atStart => exact ⟨0, rfl, Nat.zero_le _, HT.out.zero⟩
  case round =>
    obtain ⟨k, rfl, hk, hinv⟩ := hrel
    clear HT
    by_cases hlt : k < l.length
    · by_cases h4 : k < 400
      · obtain ⟨ad, lv, rfl, hab, hcs, hL, hn⟩ := HCL.out k hlt
        have htf := fun wb (hb : Below wr.heap.size wr wb) => tell_frame hinv hb HSM.out hlt hL hn
        have hinv' := hinv
        obtain ⟨⟨H, Gs, hto, hHw⟩, hbel⟩ := hinv'
        have hok := told_ok HSM.out k
        have hok2 := told_ok HSM.out (k + 1)
        rw [tells_take hlt] at hok2
        have hix := (HSM.out _ (List.getElem_mem hlt)).2
        obtain ⟨x, hx⟩ : ∃ x, x = l[k] := ⟨_, rfl⟩
        obtain ⟨t, ht⟩ : ∃ t, t = tellsF toldNew (l.take k) := ⟨_, rfl⟩
        rw [← hx] at hcs htf hok2 hix
        rw [← ht] at htf hto hok hok2
        obtain ⟨F, bb, tv, rv, tl, hp, hHH⟩ := hto
        have hrl : (applyR t.S x).length ≤ 12 := by
          unfold applyR
          split
          · rename_i hc; exact (rows_facts hok.ok hix (taken_of hc).fields).1
          · simp
        have HOK := Lib.hid hok
        have HOK2 := Lib.hid hok2
        have EVC := Lib.hid (ev_at (by rw [block_add]; exact hab) hcs)
        have b0 : wr.cell? ⟨w1.heap.size, 0, none⟩ = some (ptrV bb) := by rw [cell_of_blk hp.head]; rfl
        have hbase := Base_any hp.book hok.ok.ok
        have h4' : decide ((k : Int) < 400) = true := decide_eq_true (by omega)
        have HTF := Lib.hid htf
        have HBEL := Lib.hid hbel
        unfold ptrV at b0 hbase
        obtain ⟨wq, hwq⟩ : ∃ wq, wq = wr := ⟨_, rfl⟩
        subst hwq
        clear hcs hL hn hinv hx ht hp hHH hHw hok hok2 htf hbel hix
        go_wp2_with (go_at_call 19; refine hbase.mono ?_)
        rintro en wb ⟨kV, aV, rV, eV, iV, pV, lV, rfl, hacc, _, hbb⟩
        obtain ⟨aA, ac, haf⟩ := acc_form hacc
        subst haf
        have hfld := fun w0 => run_acc_field w0 (.int .i64 t.S.events) kV (.slice aA t.S.chart.length ac) rV eV iV pV lV (.int .i64 t.S.lock)
        have htl := HTF.out wb hbb
        obtain ⟨g0, g1, g2, g3, g4, g5, g6, g7, g8, g9, g10, g11⟩ := EVC.out wb (HBEL.out.trans (hbb.mono HBEL.out.size))
        obtain ⟨RS, hRS⟩ : ∃ RS, RS = applyR t.S x := ⟨_, rfl⟩
        obtain ⟨OB, hOB⟩ : ∃ OB, OB = decide (checkE t.S x = 0) := ⟨_, rfl⟩
        rw [← hRS, ← hOB] at htl
        rw [← hRS] at hrl
        have HRS := Lib.hid hRS
        have HOB := Lib.hid hOB
        have HACC := Lib.hid hacc
        unfold evV ptrV at htl
        clear hbase hacc hbb b0 hRS hOB HTF
        go_wp2_with (go_at_call 13; refine htl.mono ?_)
        rintro en w2 ⟨hinv2, ⟨rA, rc, rfl, hown⟩, ⟨H2, G2, F2, bb2, tv2, rv2, tl2, hp2, _⟩, hsz2, hkp2⟩
        rw [tellF_S] at hp2
        have HINV := Lib.hid hinv2
        have HROW := Lib.hid hown
        have HP2 := Lib.hid hp2
        have HACC2 := Lib.hid (acc_keep HACC.out hsz2 fun q e => hkp2 q (acc_lt HACC.out q e).1 (acc_lt HACC.out q e).2)
        have hcl := HOK.out.ok.ok.chart.le
        obtain ⟨vA, vc, hvf⟩ := own_form hp2.rows
        subst hvf
        clear htl g0 g1 g2 g3 g4 g5 g6 g7 g8 g9 g10 g11 hinv2 hown hp2 hsz2 hkp2 hfld HACC
        go_wp2
        go_loopw [8] (fun j wr => ∃ q : Nat, j = .int .i64 (q : Int) ∧ q ≤ t.S.chart.length ∧ Below w2.heap.size w2 wr) (fun j _ => t.S.chart.length - (intOf j).toNat)
        case atStart => exact ⟨0, rfl, Nat.zero_le _, Below.refl _ _⟩
        case round =>
          obtain ⟨q, rfl, hq, hb2⟩ := hrel
          by_cases hqn : q < t.S.chart.length
          · as_aux_lemma =>
              have hmem := List.getElem_mem hqn
              obtain ⟨a, hst⟩ := stay_any HOK.out.ok.ok x hmem
              obtain ⟨ba, hba, hbl, d0, _, _, _⟩ := acc_cells (HACC2.out.below hb2) q hqn
              subst hba
              obtain ⟨b, hbd⟩ : ∃ b, b = t.S.chart[q] := ⟨_, rfl⟩
              have hrw : ∀ W, Below wr.heap.size wr W → W.cell? ⟨ba, q * 4, none⟩ = some (.string b.name) ∧ W.cell? ⟨ba, q * 4 + 1, none⟩ = some (.int .i64 b.typ) ∧ W.cell? ⟨ba, q * 4 + 2, none⟩ = some (.int .i64 b.opened) ∧ W.cell? ⟨ba, q * 4 + 3, none⟩ = some (.bool b.closed) := fun W hb => by
                obtain ⟨b9, h9, _, h0, h1, h2, h3⟩ := acc_cells (HACC2.out.below (hb2.trans (hb.mono hb2.size))) q hqn
                cases h9
                rw [hbd]; exact ⟨h0, h1, h2, h3⟩
              rw [← hbd] at hst
              clear d0 hbd
              obtain ⟨bn, bt2, bo, cb⟩ := b
              obtain ⟨nm, ty, opn, ca⟩ := a
              obtain ⟨hf, e1, e2, e3, hstay, hrows, hshut⟩ := hst
              simp only at hf e1 e2 e3 hstay hrows hshut hrw
              subst e1 e2 e3
              rw [← HRS.out] at hrows
              have hpW := HP2.out.below hb2
              have e0 : wr.cell? ⟨w1.heap.size, 0, none⟩ = some (ptrV bb2) := by rw [cell_of_blk hpW.head]; rfl
              have hac := fun W (hb : Below wr.heap.size wr W) => Account_any (hpW.book.below hb) nm
              rw [hf] at hac
              simp only [Option.getD_some, Option.isSome_some, accV, ptrV] at hac
              have HAC := Lib.hid hac
              have HSH := Lib.hid (And.intro hrows hshut)
              have HRW := Lib.hid hrw
              have HB2 := Lib.hid hb2
              have HSTAY := Lib.hid hstay
              have hsW : ∀ W, Below wr.heap.size wr W → W.cell? ⟨w1.heap.size, 0, none⟩ = some (.pointer (some ⟨bb2, 0, none⟩)) ∧ W.cell? ⟨ba, q * 4, none⟩ = some (.string nm) := fun W hb => ⟨by
                have h := HP2.out.below (HB2.out.trans (hb.mono HB2.out.size))
                rw [cell_of_blk h.head]; rfl, (HRW.out W hb).1⟩
              have HS := Lib.hid hsW
              have hHeld := HS.out wr.drew (Below.refl _ wr).drew
              clear hmem hf hpW hac hb2 e0 hsW hrw hrows hshut hstay
              go_wp2
              rename_i Qq K1 a1 K0 a0
              have HKT : ∀ (B9 : Nat) (W : World), W.heap[B9]? = some (.cells #[.string nm, .int .i64 ty, .int .i64 opn, .bool ca] 65 (0, 0)) → Below wr.heap.size wr W →
                  Exit.then K0 (Exit.inBlock 3 (Exit.then K1 Qq)) Exit.normal { tmps := #[Value.slice (some ad) l.length c, undef, u2, .pointer (some ⟨w1.heap.size, 0, none⟩), .int .i64 (k : Int), .slice (some ⟨ba, 0, none⟩) t.S.chart.length ac, .slice rA RS.length rc, .bool OB, .int .i64 (q : Int), .pointer (some ⟨B9, 0, none⟩), .bool true, u11, .pointer (some ⟨w.heap.size + 7, 0, none⟩), .agg #[.pointer (some ⟨w.heap.size + 7, 0, none⟩), .slice none 0 0, .slice none 0 0], .pointer (some ⟨w1.heap.size, 0, none⟩), .int .i64 (k : Int), .slice (some ad) l.length c, .int .i64 (l.length : Int), .bool true, .bool true, .int .i64 (k : Int), .bool true, .bool true, u23, u24, .pointer (some ⟨w1.heap.size, 0, none⟩), .pointer (some ⟨w1.heap.size, 0, none⟩), .pointer (some ⟨w1.heap.size, 0, none⟩), .pointer (some ⟨bb, 0, none⟩), .agg #[.int .i64 t.S.events, kV, .slice (some ⟨ba, 0, none⟩) t.S.chart.length ac, rV, eV, iV, pV, lV, .int .i64 t.S.lock], .slice (some ⟨ba, 0, none⟩) t.S.chart.length ac, .tuple #[.slice rA RS.length rc, .bool OB], .pointer (some ⟨w1.heap.size, 0, none⟩), .slice (some ad) l.length c, .int .i64 (k : Int), .pointer (some (ad.add (k * 12))), .agg #[.int .i64 x.kind, .int .i64 x.day, .string x.key, .string x.account, .string x.other, .string x.ref, .string x.ref2, .int .i64 x.typ, .int .i64 x.due, .int .i64 x.amount, .string x.memo, lv], .tuple #[.slice rA RS.length rc, .bool OB], .slice rA RS.length rc, .bool OB, .int .i64 (q : Int), .slice (some ⟨ba, 0, none⟩) t.S.chart.length ac, .int .i64 (t.S.chart.length : Int), .bool true, u44, u45, .tuple #[.agg #[.string nm, .int .i64 ty, .int .i64 opn, .bool ca], .bool true], .pointer (some ⟨w1.heap.size, 0, none⟩), .pointer (some ⟨w1.heap.size, 0, none⟩), .pointer (some ⟨w1.heap.size, 0, none⟩), .pointer (some ⟨bb2, 0, none⟩), .slice (some ⟨ba, 0, none⟩) t.S.chart.length ac, .int .i64 (q : Int), .pointer (some ⟨ba, q * 4, none⟩), .pointer (some ⟨ba, q * 4, none⟩), .string nm, .tuple #[.agg #[.string nm, .int .i64 ty, .int .i64 opn, .bool ca], .bool true], .agg #[.string nm, .int .i64 ty, .int .i64 opn, .bool ca], .bool true, u59, u60, u61, u62, u63, u64, u65, u66, u67, u68, u69, u70, u71, u72, u73, u74, u75, u76, u77, u78, u79, u80, u81, u82, u83, u84, u85, u86, u87, u88, u89, u90, u91, u92, u93, u94, u95, u96, u97, u98, u99, u100, u101, u102, u103, u104, u105, u106, u107, u108, u109, u110, u111, u112, u113, u114, u115, u116, u117, u118, u119, u120, u121, u122, u123, u124, u125, u126, u127, u128, u129, u130, u131, u132, u133, u134, u135, u136, u137, u138, u139, u140, u141, u142, u143, u144, u145, u146, u147, u148, u149, u150, u151, u152, u153, u154, u155, undef], defers := [] } W := by
                intro B9 W hz hbW
                have e0 : W.cell? ⟨B9, 0, none⟩ = some (.string nm) := by rw [cell_of_blk hz]; rfl
                have e1 : W.cell? ⟨B9, 1, none⟩ = some (.int .i64 ty) := by rw [cell_of_blk hz]; rfl
                have e2 : W.cell? ⟨B9, 2, none⟩ = some (.int .i64 opn) := by rw [cell_of_blk hz]; rfl
                have e3 : W.cell? ⟨B9, 3, none⟩ = some (.bool ca) := by rw [cell_of_blk hz]; rfl
                obtain ⟨_, d1, d2, d3⟩ := HRW.out W hbW
                have hw2 : Below w2.heap.size w2 W := HB2.out.trans (hbW.mono HB2.out.size)
                have HW2 := Lib.hid hw2
                have HRO := Lib.hid (own_below HROW.out hw2)
                obtain ⟨wz, hwz⟩ : ∃ wz, wz = wr := ⟨_, rfl⟩
                subst hwz
                clear hHeld hz hbW hw2
                cases cb with
                | true =>
                  cases ca with
                  | false => exact absurd (HSTAY.out rfl) (by decide)
                  | true =>
                    go_wp2
                    go_quiet (fail)
                    go_wp2
                    go_loopw [11] (fun j wr => ∃ i : Nat, j = .int .i64 (i : Int) ∧ i ≤ RS.length ∧ ∃ m, wr = W.drewN m) (fun j _ => RS.length - (intOf j).toNat)
                    case atStart => exact ⟨0, rfl, Nat.zero_le _, nq, rfl⟩
                    case round =>
                      obtain ⟨i, rfl, hi, m, rfl⟩ := hrel
                      by_cases hin : i < RS.length
                      · obtain ⟨ad2, rfl, hab2, hcs2⟩ := row_read HRO.out i hin
                        have c5 : W.cell? ⟨(ad2.add (i * 9)).block, (ad2.add (i * 9)).off + 5, none⟩ = some (.string RS[i].account) := hcs2 5 _ rfl
                        have hne : (RS[i].account.toList == nm.toList) = false := text_ne' (HSH.out.1 (by first | rfl | trivial) _ (List.getElem_mem hin))
                        obtain ⟨ra, hra⟩ : ∃ ra, ra = RS[i].account := ⟨_, rfl⟩
                        rw [← hra] at c5 hne
                        have hmu := meas_step2 RS.length i hin
                        clear hcs2 hra
                        go_wp2
                        go_quiet (fail)
                        go_wp2
                        go_roundw
                        case rel => exact ⟨i + 1, by go_num, by omega, m + nq, by first | rfl | rw [World.drewN_drewN]⟩
                        case measure => simpa [intOf] using hmu
                      · go_wp2
                        go_quiet (fail)
                        go_wp2
                        go_roundw
                        case rel => exact ⟨q + 1, by go_num, Nat.succ_le_of_lt hqn, by first | exact below_drewN HW2.out _ | exact below_drewN (below_drewN HW2.out _) _⟩
                        case measure => simpa [intOf] using meas_step2 t.S.chart.length q hqn
                | false =>
                  cases ca with
                  | false =>
                    go_wp2
                    go_quiet (fail)
                    go_wp2
                    go_loopw [11] (fun j wr => ∃ i : Nat, j = .int .i64 (i : Int) ∧ i ≤ RS.length ∧ ∃ m, wr = W.drewN m) (fun j _ => RS.length - (intOf j).toNat)
                    case atStart => exact ⟨0, rfl, Nat.zero_le _, nq, rfl⟩
                    case round =>
                      obtain ⟨i, rfl, hi, m, rfl⟩ := hrel
                      by_cases hin : i < RS.length
                      · obtain ⟨ad2, rfl, hab2, hcs2⟩ := row_read HRO.out i hin
                        have c5 : W.cell? ⟨(ad2.add (i * 9)).block, (ad2.add (i * 9)).off + 5, none⟩ = some (.string RS[i].account) := hcs2 5 _ rfl
                        obtain ⟨ra, hra⟩ : ∃ ra, ra = RS[i].account := ⟨_, rfl⟩
                        rw [← hra] at c5
                        have hmu := meas_step2 RS.length i hin
                        clear hcs2 hra
                        go_wp2
                        go_quiet (fail)
                        go_wp2
                        go_roundw
                        case rel => exact ⟨i + 1, by go_num, by omega, m + nq, by first | rfl | rw [World.drewN_drewN]⟩
                        case measure => simpa [intOf] using hmu
                      · go_wp2
                        go_quiet (fail)
                        go_wp2
                        go_roundw
                        case rel => exact ⟨q + 1, by go_num, Nat.succ_le_of_lt hqn, by first | exact below_drewN HW2.out _ | exact below_drewN (below_drewN HW2.out _) _⟩
                        case measure => simpa [intOf] using meas_step2 t.S.chart.length q hqn
                  | true =>
                    go_wp2
                    go_quiet (fail)
                    go_wp2
                    go_loopw [11] (fun j wr => ∃ i : Nat, j = .int .i64 (i : Int) ∧ i ≤ RS.length ∧ ∃ m, wr = W.drewN m) (fun j _ => RS.length - (intOf j).toNat)
                    case atStart => exact ⟨0, rfl, Nat.zero_le _, nq, rfl⟩
                    case round =>
                      obtain ⟨i, rfl, hi, m, rfl⟩ := hrel
                      by_cases hin : i < RS.length
                      · obtain ⟨ad2, rfl, hab2, hcs2⟩ := row_read HRO.out i hin
                        have c5 : W.cell? ⟨(ad2.add (i * 9)).block, (ad2.add (i * 9)).off + 5, none⟩ = some (.string RS[i].account) := hcs2 5 _ rfl
                        obtain ⟨ra, hra⟩ : ∃ ra, ra = RS[i].account := ⟨_, rfl⟩
                        rw [← hra] at c5
                        have hmu := meas_step2 RS.length i hin
                        clear hcs2 hra
                        go_wp2
                        go_quiet (fail)
                        go_wp2
                        go_roundw
                        case rel => exact ⟨i + 1, by go_num, by omega, m + nq, by first | rfl | rw [World.drewN_drewN]⟩
                        case measure => simpa [intOf] using hmu
                      · obtain ⟨hc, hk2, hacn, h0⟩ := HSH.out.2 (by first | rfl | trivial) (by first | rfl | trivial)
                        have hOB : OB = true := by rw [HOB.out]; exact decide_eq_true hc
                        subst hOB
                        obtain ⟨g0, g1, g2, g3, g4, g5, g6, g7, g8, g9, g10, g11⟩ := EVC.out W (HINV.out.bel.trans (HW2.out.mono HINV.out.bel.size))
                        rw [hk2] at g0
                        rw [hacn] at g3
                        have hpw := HP2.out.below HW2.out
                        have b2 : W.cell? ⟨w1.heap.size, 2, none⟩ = some (.slice vA (applyS t.S x).rows.length vc) := by rw [cell_of_blk hpw.head]; rfl
                        have hok2 := HOK2.out.ok.ok
                        rw [tellF_S] at hok2
                        have hown := fun m => ownF_any (w := W.drewN m) (applyS t.S x).rows nm (own_below hpw.rows (below_drewN (Below.refl _ W) m)) (by have := hok2.rowsLe; have := hok2.ev1; omega) (by rw [hok2.turn]; exact hok2.turnLe)
                        rw [h0] at hown
                        clear hpw hok2 g1 g2 g4 g5 g6 g7 g8 g9 g10 g11 hc hk2 hacn h0
                        go_wp2
                        go_quiet ((go_at_call 28; with_reducible refine (hown _).mono ?_; rintro en w9 ⟨rfl, rfl⟩; exact ⟨rfl, _, rfl⟩))
                        go_wp2
                        go_roundw
                        case rel => exact ⟨q + 1, by go_num, Nat.succ_le_of_lt hqn, by first | exact below_drewN HW2.out _ | exact below_drewN (below_drewN HW2.out _) _⟩
                        case measure => simpa [intOf] using meas_step2 t.S.chart.length q hqn
              clear a0 a1
              refine wp_region_n (n := 16) (S := fun w' => w'.cell? ⟨w1.heap.size, 0, none⟩ = some (.pointer (some ⟨bb2, 0, none⟩)) ∧ w'.cell? ⟨ba, q * 4, none⟩ = some (.string nm)) (by kernel_rfl) ?_
              refine wpAnyN_take (i := 0) (v := ?_) rfl (by kernel_rfl) (by kernel_rfl) (by kernel_rfl) (by kernel_rfl) (fun _ _ _ h => h) (Or.inl ⟨by kernel_rfl, ?y3⟩) hHeld ?_
              case y3 =>
                intro w0 hSw
                (try dsimp only at hSw)
                go_simp
                try with_reducible rfl
              try simp only [Act.put, qaCl, qbCl, qcCl, qdCl, qeCl, qfCl]
              refine wpAnyN_take (i := 1) (v := ?_) rfl (by kernel_rfl) (by kernel_rfl) (by kernel_rfl) (by kernel_rfl) (fun _ _ _ h => h) (Or.inl ⟨by kernel_rfl, ?y4⟩) hHeld ?_
              case y4 =>
                intro w0 hSw
                (try dsimp only at hSw)
                go_simp
                try with_reducible rfl
              try simp only [Act.put, qaCl, qbCl, qcCl, qdCl, qeCl, qfCl]
              refine wpAnyN_take (i := 2) (v := ?_) rfl (by kernel_rfl) (by kernel_rfl) (by kernel_rfl) (by kernel_rfl) (fun _ _ _ h => h) (Or.inl ⟨by kernel_rfl, ?y5⟩) hHeld ?_
              case y5 =>
                intro w0 hSw
                (try dsimp only at hSw)
                go_simp
                try with_reducible rfl
              try simp only [Act.put, qaCl, qbCl, qcCl, qdCl, qeCl, qfCl]
              refine wpAnyN_take (i := 3) (v := ?_) rfl (by kernel_rfl) (by kernel_rfl) (by kernel_rfl) (by kernel_rfl) (fun _ _ _ h => h) (Or.inl ⟨by kernel_rfl, ?y6⟩) hHeld ?_
              case y6 =>
                intro w0 hSw
                (try dsimp only at hSw)
                go_simp
                try with_reducible rfl
              try simp only [Act.put, qaCl, qbCl, qcCl, qdCl, qeCl, qfCl]
              refine wpAnyN_take (i := 4) (v := ?_) rfl (by kernel_rfl) (by kernel_rfl) (by kernel_rfl) (by kernel_rfl) (fun _ _ _ h => h) (Or.inl ⟨by kernel_rfl, ?y7⟩) hHeld ?_
              case y7 =>
                intro w0 hSw
                (try dsimp only at hSw)
                go_simp
                try with_reducible rfl
              try simp only [Act.put, qaCl, qbCl, qcCl, qdCl, qeCl, qfCl]
              refine wpAnyN_take (i := 5) (v := ?_) rfl (by kernel_rfl) (by kernel_rfl) (by kernel_rfl) (by kernel_rfl) (fun _ _ _ h => h) (Or.inl ⟨by kernel_rfl, ?y8⟩) hHeld ?_
              case y8 =>
                intro w0 hSw
                (try dsimp only at hSw)
                go_simp
                try with_reducible rfl
              try simp only [Act.put, qaCl, qbCl, qcCl, qdCl, qeCl, qfCl]
              refine wpAnyN_take (i := 6) (v := ?_) rfl (by kernel_rfl) (by kernel_rfl) (by kernel_rfl) (by kernel_rfl) (fun _ _ _ h => h) (Or.inl ⟨by kernel_rfl, ?y9⟩) hHeld ?_
              case y9 =>
                intro w0 hSw
                (try dsimp only at hSw)
                go_simp
                try with_reducible rfl
              try simp only [Act.put, qaCl, qbCl, qcCl, qdCl, qeCl, qfCl]
              refine wpAnyN_take (i := 7) (v := ?_) rfl (by kernel_rfl) (by kernel_rfl) (by kernel_rfl) (by kernel_rfl) (fun _ _ _ h => h) (Or.inl ⟨by kernel_rfl, ?y10⟩) hHeld ?_
              case y10 =>
                intro w0 hSw
                (try dsimp only at hSw)
                go_simp
                try with_reducible rfl
              try simp only [Act.put, qaCl, qbCl, qcCl, qdCl, qeCl, qfCl]
              refine wpAnyN_take (i := 8) (v := ?_) rfl (by kernel_rfl) (by kernel_rfl) (by kernel_rfl) (by kernel_rfl) (fun _ _ _ h => h) (Or.inl ⟨by kernel_rfl, ?y11⟩) hHeld ?_
              case y11 =>
                intro w0 hSw
                (try dsimp only at hSw)
                go_simp
                try with_reducible rfl
              try simp only [Act.put, qaCl, qbCl, qcCl, qdCl, qeCl, qfCl]
              refine wpAnyN_step2 (i := 9) (j := 13) (by kernel_rfl) rfl rfl (fun K hK => ?_) (fun K hK => ?_)
              · go_simp
                go_at_call 29
                refine (HAC.out _ (Below.refl _ wr).drew).mono ?_
                rintro en wx ⟨rfl, hbx⟩
                have hBX : Below wr.heap.size wr wx := (Below.refl _ wr).drew.trans hbx
                go_wp2_with fail
                refine hK.out _ _ (fun _ => HS.out wx hBX) ?_
                clear hK K
                try simp only [Act.put, qaCl, qbCl, qcCl, qdCl, qeCl, qfCl]
                have hHeld := HS.out wx hBX
                refine wpAnyN_take (i := 10) (v := ?_) rfl (by kernel_rfl) (by kernel_rfl) (by kernel_rfl) (by kernel_rfl) (fun _ _ _ h => h) (Or.inl ⟨by kernel_rfl, ?y12⟩) hHeld ?_
                case y12 =>
                  intro w0 hSw
                  (try dsimp only at hSw)
                  go_simp
                  try with_reducible rfl
                try simp only [Act.put, qaCl, qbCl, qcCl, qdCl, qeCl, qfCl]
                refine wpAnyN_take (i := 11) (v := ?_) rfl (by kernel_rfl) (by kernel_rfl) (by kernel_rfl) (by kernel_rfl) (fun _ _ _ h => h) (Or.inl ⟨by kernel_rfl, ?y13⟩) hHeld ?_
                case y13 =>
                  intro w0 hSw
                  (try dsimp only at hSw)
                  go_simp
                  try with_reducible rfl
                try simp only [Act.put, qaCl, qbCl, qcCl, qdCl, qeCl, qfCl]
                refine wpAnyN_take (i := 12) (v := ?_) rfl (by kernel_rfl) (by kernel_rfl) (by kernel_rfl) (by kernel_rfl) (fun _ _ _ h => h) (Or.inl ⟨by kernel_rfl, ?y14⟩) hHeld ?_
                case y14 =>
                  intro w0 hSw
                  (try dsimp only at hSw)
                  go_simp
                  try with_reducible rfl
                try simp only [Act.put, qaCl, qbCl, qcCl, qdCl, qeCl, qfCl]
                refine wpAnyN_step (i := 13) (by kernel_rfl) rfl (fun K hK => ?_)
                go_simp
                have hBA := hBX.alloc (by have := hBX.size; omega) (.cells #[.string ⟨#[]⟩, .int .i64 0, .int .i64 0, .bool false] 65)
                refine hK.out _ _ (fun _ => HS.out _ hBA) ?_
                clear hK K
                try simp only [Act.put, qaCl, qbCl, qcCl, qdCl, qeCl, qfCl]
                have hz := World.alloc_heap_new wx (.cells #[.string ⟨#[]⟩, .int .i64 0, .int .i64 0, .bool false] 65)
                obtain ⟨B9, hB9⟩ : ∃ B9, B9 = wx.heap.size := ⟨_, rfl⟩
                have hB9l : wr.heap.size ≤ B9 := by have := hBX.size; omega
                rw [← hB9] at hz ⊢
                generalize wx.alloc (.cells #[.string ⟨#[]⟩, .int .i64 0, .int .i64 0, .bool false] 65) = WZ at hz hBA ⊢
                clear hB9
                have z0 : WZ.cell? ⟨B9, 0, none⟩ = some (.string ⟨#[]⟩) := by rw [cell_of_blk hz]; rfl
                have z1 : WZ.cell? ⟨B9, 1, none⟩ = some (.int .i64 0) := by rw [cell_of_blk hz]; rfl
                have z2 : WZ.cell? ⟨B9, 2, none⟩ = some (.int .i64 0) := by rw [cell_of_blk hz]; rfl
                have z3 : WZ.cell? ⟨B9, 3, none⟩ = some (.bool false) := by rw [cell_of_blk hz]; rfl
                have y0 := frozen_blk hz 0
                have y1 := frozen_blk hz 1
                have y2 := frozen_blk hz 2
                have y3 := frozen_blk hz 3
                have hBB := (((hBA.setCell (p := ⟨B9, 0, none⟩) hB9l (.string nm)).setCell (p := ⟨B9, 1, none⟩) hB9l (.int .i64 ty)).setCell (p := ⟨B9, 2, none⟩) hB9l (.int .i64 opn)).setCell (p := ⟨B9, 3, none⟩) hB9l (.bool ca)
                have hzz := heap_setCell_same (i := 3) (heap_setCell_same (i := 2) (heap_setCell_same (i := 1) (heap_setCell_same (i := 0) hz (.string nm)) (.int .i64 ty)) (.int .i64 opn)) (.bool ca)
                refine wpAnyN_step (i := 14) (by kernel_rfl) rfl (fun K hK => ?_)
                go_simp
                refine hK.out _ _ (fun _ => HS.out _ hBB) ?_
                clear hK K
                try simp only [Act.put, qaCl, qbCl, qcCl, qdCl, qeCl, qfCl]
                have hHeld := HS.out _ hBB
                refine wpAnyN_take (i := 15) (v := ?_) rfl (by kernel_rfl) (by kernel_rfl) (by kernel_rfl) (by kernel_rfl) (fun _ _ _ h => h) (Or.inl ⟨by kernel_rfl, ?y1⟩) hHeld ?_
                case y1 =>
                  intro w0 hSw
                  (try dsimp only at hSw)
                  go_simp
                  try with_reducible rfl
                try simp only [Act.put, qaCl, qbCl, qcCl, qdCl, qeCl, qfCl]
                refine wpAnyN_done (by kernel_rfl) ?_ _
                generalize (((WZ.setCell ⟨B9, 0, none⟩ (.string nm)).setCell ⟨B9, 1, none⟩ (.int .i64 ty)).setCell ⟨B9, 2, none⟩ (.int .i64 opn)).setCell ⟨B9, 3, none⟩ (.bool ca) = WY at hzz hBB ⊢
                exact HKT B9 WY hzz hBB
              · have hBX : Below wr.heap.size wr wr.drew := (Below.refl _ wr).drew
                go_simp
                have hBA0 := hBX.alloc (Nat.le_refl wr.heap.size) (.cells #[.string ⟨#[]⟩, .int .i64 0, .int .i64 0, .bool false] 65)
                refine hK.out _ _ (fun _ => HS.out _ hBA0) ?_
                clear hK K
                try simp only [Act.put, qaCl, qbCl, qcCl, qdCl, qeCl, qfCl]
                have hz0 : (wr.alloc (.cells #[.string ⟨#[]⟩, .int .i64 0, .int .i64 0, .bool false] 65)).drew.heap[wr.heap.size]? = some (.cells #[.string ⟨#[]⟩, .int .i64 0, .int .i64 0, .bool false] 65 (0, 0)) := World.alloc_heap_new wr (.cells #[.string ⟨#[]⟩, .int .i64 0, .int .i64 0, .bool false] 65)
                have hBA0' : Below wr.heap.size wr (wr.alloc (.cells #[.string ⟨#[]⟩, .int .i64 0, .int .i64 0, .bool false] 65)).drew := ((Below.refl _ wr).alloc (Nat.le_refl _) (.cells #[.string ⟨#[]⟩, .int .i64 0, .int .i64 0, .bool false] 65)).drew
                obtain ⟨B9, hB9⟩ : ∃ B9, B9 = wr.heap.size := ⟨_, rfl⟩
                have hB9l : wr.heap.size ≤ B9 := by rw [hB9]; exact Nat.le_refl wr.heap.size
                rw [← hB9] at hz0 ⊢
                clear hBA0
                generalize (wr.alloc (.cells #[.string ⟨#[]⟩, .int .i64 0, .int .i64 0, .bool false] 65)).drew = W0 at hz0 hBA0' ⊢
                clear hB9 hBX
                refine wpAnyN_step (i := 9) (by kernel_rfl) rfl (fun K hK => ?_)
                go_simp
                go_at_call 29
                refine (HAC.out _ hBA0').mono ?_
                rintro en WZ ⟨rfl, hbx⟩
                have hBA := hBA0'.trans (hbx.mono hBA0'.size)
                have hz := (hbx.block B9 (heap_lt hz0)).trans hz0
                go_wp2_with fail
                refine hK.out _ _ (fun _ => HS.out WZ hBA) ?_
                clear hK K
                try simp only [Act.put, qaCl, qbCl, qcCl, qdCl, qeCl, qfCl]
                have hHeld := HS.out WZ hBA
                refine wpAnyN_take (i := 10) (v := ?_) rfl (by kernel_rfl) (by kernel_rfl) (by kernel_rfl) (by kernel_rfl) (fun _ _ _ h => h) (Or.inl ⟨by kernel_rfl, ?y15⟩) hHeld ?_
                case y15 =>
                  intro w0 hSw
                  (try dsimp only at hSw)
                  go_simp
                  try with_reducible rfl
                try simp only [Act.put, qaCl, qbCl, qcCl, qdCl, qeCl, qfCl]
                refine wpAnyN_take (i := 11) (v := ?_) rfl (by kernel_rfl) (by kernel_rfl) (by kernel_rfl) (by kernel_rfl) (fun _ _ _ h => h) (Or.inl ⟨by kernel_rfl, ?y16⟩) hHeld ?_
                case y16 =>
                  intro w0 hSw
                  (try dsimp only at hSw)
                  go_simp
                  try with_reducible rfl
                try simp only [Act.put, qaCl, qbCl, qcCl, qdCl, qeCl, qfCl]
                refine wpAnyN_take (i := 12) (v := ?_) rfl (by kernel_rfl) (by kernel_rfl) (by kernel_rfl) (by kernel_rfl) (fun _ _ _ h => h) (Or.inl ⟨by kernel_rfl, ?y17⟩) hHeld ?_
                case y17 =>
                  intro w0 hSw
                  (try dsimp only at hSw)
                  go_simp
                  try with_reducible rfl
                try simp only [Act.put, qaCl, qbCl, qcCl, qdCl, qeCl, qfCl]
                clear hHeld
                have z0 : WZ.cell? ⟨B9, 0, none⟩ = some (.string ⟨#[]⟩) := by rw [cell_of_blk hz]; rfl
                have z1 : WZ.cell? ⟨B9, 1, none⟩ = some (.int .i64 0) := by rw [cell_of_blk hz]; rfl
                have z2 : WZ.cell? ⟨B9, 2, none⟩ = some (.int .i64 0) := by rw [cell_of_blk hz]; rfl
                have z3 : WZ.cell? ⟨B9, 3, none⟩ = some (.bool false) := by rw [cell_of_blk hz]; rfl
                have y0 := frozen_blk hz 0
                have y1 := frozen_blk hz 1
                have y2 := frozen_blk hz 2
                have y3 := frozen_blk hz 3
                have hBB := (((hBA.setCell (p := ⟨B9, 0, none⟩) hB9l (.string nm)).setCell (p := ⟨B9, 1, none⟩) hB9l (.int .i64 ty)).setCell (p := ⟨B9, 2, none⟩) hB9l (.int .i64 opn)).setCell (p := ⟨B9, 3, none⟩) hB9l (.bool ca)
                have hzz := heap_setCell_same (i := 3) (heap_setCell_same (i := 2) (heap_setCell_same (i := 1) (heap_setCell_same (i := 0) hz (.string nm)) (.int .i64 ty)) (.int .i64 opn)) (.bool ca)
                refine wpAnyN_step (i := 14) (by kernel_rfl) rfl (fun K hK => ?_)
                go_simp
                refine hK.out _ _ (fun _ => HS.out _ hBB) ?_
                clear hK K
                try simp only [Act.put, qaCl, qbCl, qcCl, qdCl, qeCl, qfCl]
                have hHeld := HS.out _ hBB
                refine wpAnyN_take (i := 15) (v := ?_) rfl (by kernel_rfl) (by kernel_rfl) (by kernel_rfl) (by kernel_rfl) (fun _ _ _ h => h) (Or.inl ⟨by kernel_rfl, ?y2⟩) hHeld ?_
                case y2 =>
                  intro w0 hSw
                  (try dsimp only at hSw)
                  go_simp
                  try with_reducible rfl
                try simp only [Act.put, qaCl, qbCl, qcCl, qdCl, qeCl, qfCl]
                refine wpAnyN_done (by kernel_rfl) ?_ _
                generalize (((WZ.setCell ⟨B9, 0, none⟩ (.string nm)).setCell ⟨B9, 1, none⟩ (.int .i64 ty)).setCell ⟨B9, 2, none⟩ (.int .i64 opn)).setCell ⟨B9, 3, none⟩ (.bool ca) = WY at hzz hBB ⊢
                exact HKT B9 WY hzz hBB
          · have HB := Lib.hid hb2
            clear hb2
            go_wp2
            go_roundw
            case rel => exact ⟨k + 1, by go_num, by omega, HINV.out.below HB.out⟩
            case measure => simp [intOf]; omega
      · have h4' : decide ((k : Int) < 400) = false := decide_eq_false (by omega)
        have hbel := Lib.hid hinv.bel
        clear hinv
        go_wp2_with (go_at_call 14; refine (first_any _).mono ?_; rintro en wf ⟨rfl, hbf⟩; have HBF := Lib.hid hbf; clear hbf)
        go_ret
        exact ⟨rfl, hbel.out.trans (HBF.out.mono hbel.out.size)⟩
    · have hbel := Lib.hid hinv.bel
      clear hinv
      go_wp2_with (go_at_call 14; refine (first_any _).mono ?_; rintro en wf ⟨rfl, hbf⟩; have HBF := Lib.hid hbf; clear hbf)
      go_ret
      exact ⟨rfl, hbel.out.trans (HBF.out.mono hbel.out.size)⟩
end Go.Proofs.YtgocoofcelggcaaGreatDoor
