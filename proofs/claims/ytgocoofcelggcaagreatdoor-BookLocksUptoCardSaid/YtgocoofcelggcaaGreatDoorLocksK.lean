/- BookLocks: the walk. Printed by gen_locks.py. -/
import Derived.Test.YtgocoofcelggcaaGreatDoorPack14
namespace Go.Proofs.YtgocoofcelggcaaGreatDoor
open Go.RowKit
set_option linter.unusedVariables false
set_option linter.unusedSimpArgs false

theorem day_read {W : World} {m c n : Nat} {A : Option Addr} {rs : List PostV} (h : W.ownsRow m 39 9 (.slice A n c) n (rs.map encPost).flatten) (hn : n = rs.length) (j : Nat) (hj : j < n) :
    ∃ ad, A = some ad ∧ ad.block < W.heap.size ∧ W.cell? ⟨(ad.add (j * 9)).block, (ad.add (j * 9)).off + 2, none⟩ = some (.int .i64 (rs[j]'(hn ▸ hj)).day) := by
  subst hn
  obtain ⟨ad, h1, h2, h3⟩ := row_read h j hj
  exact ⟨ad, h1, h2, h3 2 _ rfl⟩

theorem applyR_le {S : BookS} {e : EventV} (ht : OkT S) (hin : InEv e) : (applyR S e).length ≤ 12 := by
  unfold applyR
  split
  · rename_i h
    exact (rows_facts ht hin (taken_of h).fields).1
  · simp

structure LocksInv (w : World) (l : List EventV) (bt : Nat) (lock i : Value) (wr : World) (k : Nat) : Prop where
  le : k ≤ l.length
  at_ : i = .int .i64 (k : Int)
  lock : lock = .int .i64 (tellsF toldNew (l.take k)).S.lock
  inv : TellInv w l bt wr k

set_option maxRecDepth 100000 in
set_option maxHeartbeats 8000000 in
theorem locks_walk (w : World) (v : Value) (l : List EventV) (hl : EventsAt w v l) :
    Calls Tryz.prog 4 #[v] w fun en w' => en = .returned (.bool true) ∧ Below w.heap.size w w' := by
  obtain ⟨⟨A, c, rfl, hcl⟩, hlen, hsm⟩ := hl
  have HCL := Lib.hid hcl
  have HSM := Lib.hid hsm
  have hnew := New_book w
  clear hcl hsm
  go_enter Tryz.func4, Tryz.ntmps4
  go_wp2_with (go_at_call 15; refine hnew.mono ?_; rintro en w1 ⟨rfl, hb1, hz1, hbel1⟩; unfold ptrV; have HT := Lib.hid (told_new hb1 (fun k hk => hk.1) hbel1); have hz1' : w.heap.size ≤ w1.heap.size := (by omega); clear hnew hb1 hbel1 hz1)
  go_loopw [4, 5] (fun lock i wr => ∃ k, LocksInv w l w1.heap.size lock i wr k) (fun _ i _ => l.length - (intOf i).toNat)
  case atStart => exact ⟨0, Nat.zero_le _, rfl, rfl, HT.out.zero⟩
  case round =>
    obtain ⟨k, hk, rfl, rfl, hinv⟩ := hrel
    clear HT
    by_cases hlt : k < l.length
    · by_cases h4 : k < 400
      · obtain ⟨ad, lv, rfl, hab, hcs, hL, hn⟩ := HCL.out k hlt
        have htl := hinv.tell HSM.out hlt hL hn
        have htk := tells_take hlt
        have hn12 := applyR_le (told_ok HSM.out k).ok (HSM.out _ (List.getElem_mem hlt)).2
        obtain ⟨x, hx⟩ : ∃ x, x = l[k] := ⟨_, rfl⟩
        obtain ⟨t, ht⟩ : ∃ t, t = tellsF toldNew (l.take k) := ⟨_, rfl⟩
        rw [← hx] at hcs htl htk hn12
        rw [← ht] at htl htk hn12 ⊢
        have HTK := Lib.hid htk
        have EVC := Lib.hid (ev_at (by rw [block_add]; exact hab) hcs)
        obtain ⟨g0, g1, g2, g3, g4, g5, g6, g7, g8, g9, g10, g11⟩ := EVC.out wr hinv.bel
        have h4' : decide ((k : Int) < 400) = true := decide_eq_true (by omega)
        unfold evV ptrV at htl
        clear hcs hL hn hinv hx ht htk
        by_cases hc : checkE t.S x = 0
        · have hy := locks_yes hc
          have happ : applyR t.S x = rowsOf t.S x := by unfold applyR; rw [if_pos hc]
          by_cases k8 : x.kind = 8
          · have _u := 0
            have hlk : (tellF t x).S.lock = x.day := by rw [tellF_yes hc]; exact (hy.2.1 k8).2
            have hrow : ∀ r ∈ applyR t.S x, x.day < r.day := fun r hr => by rw [happ, rows_lock _ k8] at hr; simp at hr
            have he8 : (x.kind == 8) = true := by simp [k8]
            have hdl : decide (x.day ≤ t.S.lock) = false := decide_eq_false (by have := (hy.2.1 k8).1; omega)
            have HLK := Lib.hid hlk
            have HROW := Lib.hid hrow
            clear hlk hrow happ hy k8
            go_wp2_with (go_at_call 13; refine htl.mono ?_; rintro en w2 ⟨hinv2, rA, rc, he, hown, H, G, hto, hHw, hdis⟩; rw [decide_eq_true hc] at he; subst he; clear g0 g1 g2 g3 g4 g5 g6 g7 g8 g9 g10 g11; obtain ⟨g0, g1, g2, g3, g4, g5, g6, g7, g8, g9, g10, g11⟩ := EVC.out w2 hinv2.bel; have HI := Lib.hid hinv2; have HTO := Lib.hid hto; have HOW := Lib.hid hown; clear htl hinv2 hown hto hHw hdis)
            obtain ⟨n, hn⟩ : ∃ n, n = (applyR t.S x).length := ⟨_, rfl⟩
            rw [← hn] at HOW hn12 ⊢
            have HN := Lib.hid hn
            clear hn
            go_loopw [8] (fun j wr => ∃ q : Nat, j = .int .i64 (q : Int) ∧ q ≤ n ∧ wr = w2) (fun j _ => n - (intOf j).toNat)
            case atStart => exact ⟨0, rfl, Nat.zero_le _, rfl⟩
            case round =>
              obtain ⟨q, rfl, hq, rfl⟩ := hrel
              by_cases hqn : q < n
              · obtain ⟨ad2, rfl, hab2, hcs2⟩ := day_read HOW.out HN.out q hqn
                have hd2 := decide_eq_false (Int.not_le.2 (HROW.out _ (List.getElem_mem (by rw [← HN.out]; exact hqn : q < (applyR t.S x).length))))
                obtain ⟨d, hd⟩ : ∃ d, d = ((applyR t.S x)[q]'(by rw [← HN.out]; exact hqn)).day := ⟨_, rfl⟩
                rw [← hd] at hcs2 hd2
                clear hd
                go_wp2
                go_roundw
                case rel => exact ⟨q + 1, by go_num, by omega, by first | rfl | trivial⟩
                case measure => simp [intOf]; omega
              · obtain ⟨F, bb, tv, rv, tl, hp, _⟩ := HTO.out.ex
                have b0 : wr.cell? ⟨w1.heap.size, 0, none⟩ = some (ptrV bb) := by rw [cell_of_blk hp.head]; rfl
                have hlka := BLock_any hp.book
                rw [HLK.out] at hlka
                unfold ptrV at b0 hlka
                clear hp
                go_wp2_with (go_at_call 16; refine hlka.mono ?_; rintro en w3 ⟨rfl, rfl⟩; clear hlka)
                go_roundw
                case rel => exact ⟨k + 1, by omega, by go_num, by rw [HTK.out, HLK.out], HI.out⟩
                case measure => simp [intOf]; omega
          · have _u := 0
            have hlk : (tellF t x).S.lock = t.S.lock := by rw [tellF_yes hc]; exact hy.2.2 k8
            have hrow : ∀ r ∈ applyR t.S x, t.S.lock < r.day := fun r hr => by rw [happ] at hr; have := hy.1 r hr; rw [hy.2.2 k8] at this; exact this
            have he8 : (x.kind == 8) = false := by simpa using k8
            have HLK := Lib.hid hlk
            have HROW := Lib.hid hrow
            clear hlk hrow happ hy k8
            go_wp2_with (go_at_call 13; refine htl.mono ?_; rintro en w2 ⟨hinv2, rA, rc, he, hown, H, G, hto, hHw, hdis⟩; rw [decide_eq_true hc] at he; subst he; clear g0 g1 g2 g3 g4 g5 g6 g7 g8 g9 g10 g11; obtain ⟨g0, g1, g2, g3, g4, g5, g6, g7, g8, g9, g10, g11⟩ := EVC.out w2 hinv2.bel; have HI := Lib.hid hinv2; have HTO := Lib.hid hto; have HOW := Lib.hid hown; clear htl hinv2 hown hto hHw hdis)
            obtain ⟨n, hn⟩ : ∃ n, n = (applyR t.S x).length := ⟨_, rfl⟩
            rw [← hn] at HOW hn12 ⊢
            have HN := Lib.hid hn
            clear hn
            go_loopw [8] (fun j wr => ∃ q : Nat, j = .int .i64 (q : Int) ∧ q ≤ n ∧ wr = w2) (fun j _ => n - (intOf j).toNat)
            case atStart => exact ⟨0, rfl, Nat.zero_le _, rfl⟩
            case round =>
              obtain ⟨q, rfl, hq, rfl⟩ := hrel
              by_cases hqn : q < n
              · obtain ⟨ad2, rfl, hab2, hcs2⟩ := day_read HOW.out HN.out q hqn
                have hd2 := decide_eq_false (Int.not_le.2 (HROW.out _ (List.getElem_mem (by rw [← HN.out]; exact hqn : q < (applyR t.S x).length))))
                obtain ⟨d, hd⟩ : ∃ d, d = ((applyR t.S x)[q]'(by rw [← HN.out]; exact hqn)).day := ⟨_, rfl⟩
                rw [← hd] at hcs2 hd2
                clear hd
                go_wp2
                go_roundw
                case rel => exact ⟨q + 1, by go_num, by omega, by first | rfl | trivial⟩
                case measure => simp [intOf]; omega
              · obtain ⟨F, bb, tv, rv, tl, hp, _⟩ := HTO.out.ex
                have b0 : wr.cell? ⟨w1.heap.size, 0, none⟩ = some (ptrV bb) := by rw [cell_of_blk hp.head]; rfl
                have hlka := BLock_any hp.book
                rw [HLK.out] at hlka
                unfold ptrV at b0 hlka
                clear hp
                go_wp2_with (go_at_call 16; refine hlka.mono ?_; rintro en w3 ⟨rfl, rfl⟩; clear hlka)
                go_roundw
                case rel => exact ⟨k + 1, by omega, by go_num, by rw [HTK.out, HLK.out], HI.out⟩
                case measure => simp [intOf]; omega
        · have happ : applyR t.S x = [] := by unfold applyR; rw [if_neg hc]
          have hlk : (tellF t x).S.lock = t.S.lock := by rw [tellF_no hc]
          have hrow : ∀ r ∈ applyR t.S x, t.S.lock < r.day := fun r hr => by rw [happ] at hr; simp at hr
          have HLK := Lib.hid hlk
          have HROW := Lib.hid hrow
          clear hlk hrow happ
          go_wp2_with (go_at_call 13; refine htl.mono ?_; rintro en w2 ⟨hinv2, rA, rc, he, hown, H, G, hto, hHw, hdis⟩; rw [decide_eq_false hc] at he; subst he; clear g0 g1 g2 g3 g4 g5 g6 g7 g8 g9 g10 g11; obtain ⟨g0, g1, g2, g3, g4, g5, g6, g7, g8, g9, g10, g11⟩ := EVC.out w2 hinv2.bel; have HI := Lib.hid hinv2; have HTO := Lib.hid hto; have HOW := Lib.hid hown; clear htl hinv2 hown hto hHw hdis)
          obtain ⟨n, hn⟩ : ∃ n, n = (applyR t.S x).length := ⟨_, rfl⟩
          rw [← hn] at HOW hn12 ⊢
          have HN := Lib.hid hn
          clear hn
          go_loopw [8] (fun j wr => ∃ q : Nat, j = .int .i64 (q : Int) ∧ q ≤ n ∧ wr = w2) (fun j _ => n - (intOf j).toNat)
          case atStart => exact ⟨0, rfl, Nat.zero_le _, rfl⟩
          case round =>
            obtain ⟨q, rfl, hq, rfl⟩ := hrel
            by_cases hqn : q < n
            · obtain ⟨ad2, rfl, hab2, hcs2⟩ := day_read HOW.out HN.out q hqn
              have hd2 := decide_eq_false (Int.not_le.2 (HROW.out _ (List.getElem_mem (by rw [← HN.out]; exact hqn : q < (applyR t.S x).length))))
              obtain ⟨d, hd⟩ : ∃ d, d = ((applyR t.S x)[q]'(by rw [← HN.out]; exact hqn)).day := ⟨_, rfl⟩
              rw [← hd] at hcs2 hd2
              clear hd
              go_wp2
              go_roundw
              case rel => exact ⟨q + 1, by go_num, by omega, by first | rfl | trivial⟩
              case measure => simp [intOf]; omega
            · obtain ⟨F, bb, tv, rv, tl, hp, _⟩ := HTO.out.ex
              have b0 : wr.cell? ⟨w1.heap.size, 0, none⟩ = some (ptrV bb) := by rw [cell_of_blk hp.head]; rfl
              have hlka := BLock_any hp.book
              rw [HLK.out] at hlka
              unfold ptrV at b0 hlka
              clear hp
              go_wp2_with (go_at_call 16; refine hlka.mono ?_; rintro en w3 ⟨rfl, rfl⟩; clear hlka)
              go_roundw
              case rel => exact ⟨k + 1, by omega, by go_num, by rw [HTK.out, HLK.out], HI.out⟩
              case measure => simp [intOf]; omega
      · have h4' : decide ((k : Int) < 400) = false := decide_eq_false (by omega)
        have HI := Lib.hid hinv
        clear hinv
        go_wp2_with (go_at_call 14; refine (first_any _).mono ?_; rintro en w2 ⟨rfl, hb2⟩; have HB2 := Lib.hid hb2; clear hb2)
        go_ret
        exact ⟨rfl, HI.out.bel.trans (HB2.out.mono HI.out.bel.size)⟩
    · have HI := Lib.hid hinv
      clear hinv
      go_wp2_with (go_at_call 14; refine (first_any _).mono ?_; rintro en w2 ⟨rfl, hb2⟩; have HB2 := Lib.hid hb2; clear hb2)
      go_ret
      exact ⟨rfl, HI.out.bel.trans (HB2.out.mono HI.out.bel.size)⟩
end Go.Proofs.YtgocoofcelggcaaGreatDoor
