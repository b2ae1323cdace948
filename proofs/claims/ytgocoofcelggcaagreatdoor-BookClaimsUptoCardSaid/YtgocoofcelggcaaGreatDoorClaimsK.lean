/- BookClaims: the walk. Printed by gen_claims.py. -/
import Derived.Test.YtgocoofcelggcaaGreatDoorOnceK
import Derived.Test.YtgocoofcelggcaaGreatDoorClaimsPK
import Derived.Test.YtgocoofcelggcaaGreatDoorPack9
import Derived.Deep.RegionHeld3
namespace Go.Proofs.YtgocoofcelggcaaGreatDoor
open Go.RowKit
set_option linter.unusedVariables false
set_option linter.unusedSimpArgs false

theorem text_ne {a b : ByteArray} (h : a ≠ b) : (a.toList == b.toList) = false := by
  cases hx : (a.toList == b.toList) with
  | false => rfl
  | true =>
    have h1 : a.toList = b.toList := by simpa using hx
    rw [ByteArray.toList_eq, ByteArray.toList_eq] at h1
    exact absurd (by cases a; cases b; simp only at h1; rw [Array.toList_inj.1 h1]) h

def leftF (o : Option ClaimV) : Int := match o with | none => 0 | some c => c.amount - c.used

set_option maxRecDepth 100000 in
set_option maxHeartbeats 8000000 in
theorem claims_walk (w : World) (v : Value) (l : List EventV) (hl : EventsAt w v l) :
    Calls Tryz.prog 5 #[v] w fun en w' => en = .returned (.bool true) ∧ Below w.heap.size w w' := by
  obtain ⟨⟨A, c, rfl, hcl⟩, hlen, hsm⟩ := hl
  have HCL := Lib.hid hcl
  have HSM := Lib.hid hsm
  have hnew := New_book w
  clear hcl hsm
  go_enter Tryz.func5, Tryz.ntmps5
  go_wp2_with (go_at_call 15; refine hnew.mono ?_; rintro en w1 ⟨rfl, hb1, hz1, hbel1⟩; unfold ptrV; have HT := Lib.hid (told_new hb1 (fun k hk => hk.1) hbel1); have hz1' : w.heap.size ≤ w1.heap.size := (by omega); clear hnew hb1 hbel1 hz1)
  go_loopw [4] (fun i wr => ∃ k : Nat, i = .int .i64 (k : Int) ∧ k ≤ l.length ∧ TellInv w l w1.heap.size wr k) (fun i _ => l.length - (intOf i).toNat)
  case atStart => exact ⟨0, rfl, Nat.zero_le _, HT.out.zero⟩
  case round =>
    obtain ⟨k, rfl, hk, hinv⟩ := hrel
    clear HT
    by_cases hlt : k < l.length
    · by_cases h4 : k < 400
      · obtain ⟨ad, lv, rfl, hab, hcs, hL, hn⟩ := HCL.out k hlt
        have htl := hinv.tell HSM.out hlt hL hn
        have htk := tells_take hlt
        have hokk := told_ok HSM.out (k + 1)
        have hclm := claims_new.tells (l := l.take (k + 1)) toldOk_new fun e he => (HSM.out e (List.mem_of_mem_take he)).2
        rw [htk] at hokk hclm
        obtain ⟨x, hx⟩ : ∃ x, x = l[k] := ⟨_, rfl⟩
        obtain ⟨t, ht⟩ : ∃ t, t = tellsF toldNew (l.take k) := ⟨_, rfl⟩
        rw [← hx] at hcs htl hokk hclm
        rw [← ht] at htl hokk hclm
        obtain ⟨u, hu⟩ : ∃ u, u = tellF t x := ⟨_, rfl⟩
        rw [← hu] at hokk hclm
        have hTL : u.T.length ≤ 1000 := by have := hokk.len; have := hokk.ok.ok.ev1; omega
        have HU := Lib.hid hu
        have HOKU := Lib.hid hokk
        have HCO := Lib.hid hclm
        obtain ⟨g0, g1, g2, g3, g4, g5, g6, g7, g8, g9, g10, g11⟩ := ev_at (by rw [block_add]; exact hab) hcs wr hinv.bel
        have h4' : decide ((k : Int) < 400) = true := decide_eq_true (by omega)
        unfold evV ptrV at htl
        clear hcs hL hn hinv hx ht htk hu hokk hclm
        go_wp2_with (go_at_call 13; refine htl.mono ?_)
        rintro en w2 ⟨hinv2, rA, rc, rfl, hown, H, Gs, hto, hHw, hdis⟩
        rw [← HU.out] at hto
        obtain ⟨F, bb, tv, rv, tl, hp, hHH⟩ := hto
        obtain ⟨tA, tc, htv⟩ := own_form hp.taken
        subst htv
        have HI := Lib.hid hinv2
        have HP := Lib.hid hp
        have b1 : w2.cell? ⟨w1.heap.size, 1, none⟩ = some (.slice tA u.T.length tc) := by rw [cell_of_blk hp.head]; rfl
        have hbt2 := heap_lt hp.head
        clear hinv2 hown hHw hdis hHH htl g0 g1 g2 g3 g4 g5 g6 g7 g8 g9 g10 g11
        by_cases h0 : u.T.length = 0
        · have hz : (((u.T.length : Nat) : Int) == 0) = true := by rw [h0]; rfl
          clear hp
          go_wp2
          go_roundw
          case rel => exact ⟨k + 1, by go_num, by omega, HI.out⟩
          case measure => simp [intOf]; omega
        · have hz : (((u.T.length : Nat) : Int) == 0) = false := by simpa using h0
          have hpr : wrap64 ((u.T.length : Int) - 1) = ((u.T.length - 1 : Nat) : Int) := by unfold wrap64; omega
          have hpr' : IntKind.i64.wrap ((u.T.length : Int) - 1) = ((u.T.length - 1 : Nat) : Int) := (IntWalk.i64_in _ (by omega)).trans (by omega)
          obtain ⟨adl, hadl, habl, hcsl⟩ := hp.ev (u.T.length - 1) (by omega)
          cases hadl
          have cl0 : w2.cell? (adl.add ((u.T.length - 1) * 12)) = some (.int .i64 (u.T[u.T.length - 1]'(by omega)).kind) := hcsl 0 _ rfl
          have hnl : u.T.length - 1 < u.T.length := by omega
          obtain ⟨kl, hkl⟩ : ∃ kl, kl = (u.T[u.T.length - 1]'(by omega)).kind := ⟨_, rfl⟩
          rw [← hkl] at cl0
          clear hp hkl hcsl
          by_cases h5 : kl < 5
          · have hd5 : decide (kl < 5) = true := decide_eq_true h5
            go_wp2
            go_roundw
            case rel => exact ⟨k + 1, by go_num, by omega, HI.out⟩
            case measure => simp [intOf]; omega
          · have hd5 : decide (kl < 5) = false := decide_eq_false h5
            go_wp2
            clear b1 cl0 hd5 hpr hpr' hz h5
            go_loopw [6] (fun i wr => ∃ q : Nat, i = .int .i64 (q : Int) ∧ q ≤ u.T.length ∧ Below w2.heap.size w2 wr) (fun i _ => u.T.length - (intOf i).toNat)
            case atStart => exact ⟨0, rfl, Nat.zero_le _, Below.refl _ _⟩
            case round =>
              obtain ⟨q, rfl, hq, hbel⟩ := hrel
              obtain ⟨w8, hw8⟩ : ∃ w8, w8 = wr := ⟨_, rfl⟩
              subst hw8
              by_cases hqn : q < u.T.length
              · have hpW := HP.out.below hbel
                have b1 : w8.cell? ⟨w1.heap.size, 1, none⟩ = some (.slice (some adl) u.T.length tc) := by rw [cell_of_blk hpW.head]; rfl
                obtain ⟨ad2, had2, hab2, hcs2⟩ := hpW.ev q hqn
                cases had2
                obtain ⟨eA, ec, hef⟩ := lines_form (hpW.lines q hqn)
                have hqk : ((u.T[q]).kind ≠ 5 → (u.T[q]).kind ≠ 6 → (u.T[q]).key ≠ emptyB → claimOf u.S (u.T[q]).key = none) := HCO.out.other _ (List.getElem_mem hqn)
                obtain ⟨e, he⟩ : ∃ e, e = u.T[q] := ⟨_, rfl⟩
                rw [← he] at hcs2 hef hqk
                rw [hef] at hcs2
                have HE := Lib.hid he
                obtain ⟨g0, g1, g2, g3, g4, g5, g6, g7, g8, g9, g10, g11⟩ := ev_at (by rw [block_add]; exact hab2) hcs2 w8 (Below.refl _ _)
                have HBL := Lib.hid hbel
                have hbs := hbel.size
                have HPW := Lib.hid hpW
                have HQK := Lib.hid hqk
                clear hcs2 hef he hpW hqk hbel
                go_wp2
                have hbox := bel1 w8 (.cells #[.int .i64 e.kind, .int .i64 e.day, .string e.key, .string e.account, .string e.other, .string e.ref, .string e.ref2, .int .i64 e.typ, .int .i64 e.due, .int .i64 e.amount, .string e.memo, .slice eA e.lines.length ec] 25)
                have hn7 := World.alloc_heap_new w8 (.cells #[.int .i64 e.kind, .int .i64 e.day, .string e.key, .string e.account, .string e.other, .string e.ref, .string e.ref2, .int .i64 e.typ, .int .i64 e.due, .int .i64 e.amount, .string e.memo, .slice eA e.lines.length ec] 25)
                have hpA := HPW.out.below hbox
                have hsA : (w8.alloc (.cells #[.int .i64 e.kind, .int .i64 e.day, .string e.key, .string e.account, .string e.other, .string e.ref, .string e.ref2, .int .i64 e.typ, .int .i64 e.due, .int .i64 e.amount, .string e.memo, .slice eA e.lines.length ec] 25)).heap.size = w8.heap.size + 1 := by simp
                have HBA := Lib.hid (HBL.out.trans (hbox.mono hbs))
                generalize w8.alloc (.cells #[.int .i64 e.kind, .int .i64 e.day, .string e.key, .string e.account, .string e.other, .string e.ref, .string e.ref2, .int .i64 e.typ, .int .i64 e.due, .int .i64 e.amount, .string e.memo, .slice eA e.lines.length ec] 25) = wA at hn7 hpA hsA HBA ⊢
                have hleft : Calls Tryz.prog 17 #[ptrV bb, .string e.key] wA.drew fun en w' => en = .returned (.tuple #[.int .i64 (leftF (claimOf u.S e.key)), .bool (claimOf u.S e.key).isSome]) ∧ ∃ m, w' = wA.drew.drewN m := Left_any (w := wA.drew) (hpA.book.below (Below.refl _ wA).drew) HOKU.out.ok.ok e.key
                obtain ⟨LV, hLV⟩ : ∃ LV, LV = leftF (claimOf u.S e.key) := ⟨_, rfl⟩
                obtain ⟨IS, hIS⟩ : ∃ IS, IS = (claimOf u.S e.key).isSome := ⟨_, rfl⟩
                rw [← hLV, ← hIS] at hleft
                have HLV0 := Lib.hid hLV
                have HIS := Lib.hid hIS
                clear hLV hIS
                have hE7 : EvAt wA w8.heap.size e (.slice eA e.lines.length ec) := ⟨hn7⟩
                have hHeld : wA.drew.cell? ⟨w1.heap.size, 0, none⟩ = some (.pointer (some ⟨bb, 0, none⟩)) ∧ wA.drew.cell? ⟨w8.heap.size, 2, none⟩ = some (.string e.key) := ⟨by rw [cell_of_blk (w := wA.drew) hpA.head]; rfl, hE7.e2⟩
                unfold ptrV at hleft
                have HN7 := Lib.hid hn7
                clear hpA hn7 hE7 hbox g0 g1 g2 g3 g4 g5 g6 g7 g8 g9 g10 g11
                refine wp_region_n (n := 12) (S := fun w' => w'.cell? ⟨w1.heap.size, 0, none⟩ = some (.pointer (some ⟨bb, 0, none⟩)) ∧ w'.cell? ⟨w8.heap.size, 2, none⟩ = some (.string e.key)) (by kernel_rfl) ?_
                refine wpAnyN_take (i := 0) (v := ?_) rfl (by kernel_rfl) (by kernel_rfl) (by kernel_rfl) (by kernel_rfl) (fun _ _ _ h => h) (Or.inl ⟨by kernel_rfl, ?y1⟩) hHeld ?_
                case y1 =>
                  intro w0 hSw
                  (try dsimp only at hSw)
                  go_simp
                  try with_reducible rfl
                try simp only [Act.put, List.setIfInBounds_toArray, List.set_cons_zero, List.set_cons_succ, List.getElem_toArray, List.getElem_cons_succ, List.getElem_cons_zero]
                refine wpAnyN_take (i := 1) (v := ?_) rfl (by kernel_rfl) (by kernel_rfl) (by kernel_rfl) (by kernel_rfl) (fun _ _ _ h => h) (Or.inl ⟨by kernel_rfl, ?y2⟩) hHeld ?_
                case y2 =>
                  intro w0 hSw
                  (try dsimp only at hSw)
                  go_simp
                  try with_reducible rfl
                try simp only [Act.put, List.setIfInBounds_toArray, List.set_cons_zero, List.set_cons_succ, List.getElem_toArray, List.getElem_cons_succ, List.getElem_cons_zero]
                refine wpAnyN_take (i := 2) (v := ?_) rfl (by kernel_rfl) (by kernel_rfl) (by kernel_rfl) (by kernel_rfl) (fun _ _ _ h => h) (Or.inl ⟨by kernel_rfl, ?y3⟩) hHeld ?_
                case y3 =>
                  intro w0 hSw
                  (try dsimp only at hSw)
                  go_simp
                  try with_reducible rfl
                try simp only [Act.put, List.setIfInBounds_toArray, List.set_cons_zero, List.set_cons_succ, List.getElem_toArray, List.getElem_cons_succ, List.getElem_cons_zero]
                refine wpAnyN_take (i := 3) (v := ?_) rfl (by kernel_rfl) (by kernel_rfl) (by kernel_rfl) (by kernel_rfl) (fun _ _ _ h => h) (Or.inl ⟨by kernel_rfl, ?y4⟩) hHeld ?_
                case y4 =>
                  intro w0 hSw
                  (try dsimp only at hSw)
                  go_simp
                  try with_reducible rfl
                try simp only [Act.put, List.setIfInBounds_toArray, List.set_cons_zero, List.set_cons_succ, List.getElem_toArray, List.getElem_cons_succ, List.getElem_cons_zero]
                refine wpAnyN_take (i := 4) (v := ?_) rfl (by kernel_rfl) (by kernel_rfl) (by kernel_rfl) (by kernel_rfl) (fun _ _ _ h => h) (Or.inl ⟨by kernel_rfl, ?y5⟩) hHeld ?_
                case y5 =>
                  intro w0 hSw
                  (try dsimp only at hSw)
                  go_simp
                  try with_reducible rfl
                try simp only [Act.put, List.setIfInBounds_toArray, List.set_cons_zero, List.set_cons_succ, List.getElem_toArray, List.getElem_cons_succ, List.getElem_cons_zero]
                refine wpAnyN_take (i := 5) (v := ?_) rfl (by kernel_rfl) (by kernel_rfl) (by kernel_rfl) (by kernel_rfl) (fun _ _ _ h => h) (Or.inl ⟨by kernel_rfl, ?y6⟩) hHeld ?_
                case y6 =>
                  intro w0 hSw
                  (try dsimp only at hSw)
                  go_simp
                  try with_reducible rfl
                try simp only [Act.put, List.setIfInBounds_toArray, List.set_cons_zero, List.set_cons_succ, List.getElem_toArray, List.getElem_cons_succ, List.getElem_cons_zero]
                refine wpAnyN_step (i := 6) (by kernel_rfl) rfl (fun K hK => ?_)
                go_simp
                go_at_call 17
                refine hleft.mono ?_
                rintro en wl ⟨rfl, m0, hwl⟩
                subst hwl
                clear hleft
                go_wp2_with fail
                refine hK.out _ _ (fun _ => hHeld) ?_
                clear hK K
                try simp only [Act.put, List.setIfInBounds_toArray, List.set_cons_zero, List.set_cons_succ, List.getElem_toArray, List.getElem_cons_succ, List.getElem_cons_zero]
                refine wpAnyN_take (i := 7) (v := ?_) rfl (by kernel_rfl) (by kernel_rfl) (by kernel_rfl) (by kernel_rfl) (fun _ _ _ h => h) (Or.inl ⟨by kernel_rfl, ?y7⟩) hHeld ?_
                case y7 =>
                  intro w0 hSw
                  (try dsimp only at hSw)
                  go_simp
                  try with_reducible rfl
                try simp only [Act.put, List.setIfInBounds_toArray, List.set_cons_zero, List.set_cons_succ, List.getElem_toArray, List.getElem_cons_succ, List.getElem_cons_zero]
                refine wpAnyN_take (i := 8) (v := ?_) rfl (by kernel_rfl) (by kernel_rfl) (by kernel_rfl) (by kernel_rfl) (fun _ _ _ h => h) (Or.inl ⟨by kernel_rfl, ?y8⟩) hHeld ?_
                case y8 =>
                  intro w0 hSw
                  (try dsimp only at hSw)
                  go_simp
                  try with_reducible rfl
                try simp only [Act.put, List.setIfInBounds_toArray, List.set_cons_zero, List.set_cons_succ, List.getElem_toArray, List.getElem_cons_succ, List.getElem_cons_zero]
                refine wpAnyN_take (i := 9) (v := ?_) rfl (by kernel_rfl) (by kernel_rfl) (by kernel_rfl) (by kernel_rfl) (fun _ _ _ h => h) (Or.inl ⟨by kernel_rfl, ?y9⟩) hHeld ?_
                case y9 =>
                  intro w0 hSw
                  (try dsimp only at hSw)
                  go_simp
                  try with_reducible rfl
                try simp only [Act.put, List.setIfInBounds_toArray, List.set_cons_zero, List.set_cons_succ, List.getElem_toArray, List.getElem_cons_succ, List.getElem_cons_zero]
                refine wpAnyN_take (i := 10) (v := ?_) rfl (by kernel_rfl) (by kernel_rfl) (by kernel_rfl) (by kernel_rfl) (fun _ _ _ h => h) (Or.inl ⟨by kernel_rfl, ?y10⟩) hHeld ?_
                case y10 =>
                  intro w0 hSw
                  (try dsimp only at hSw)
                  go_simp
                  try with_reducible rfl
                try simp only [Act.put, List.setIfInBounds_toArray, List.set_cons_zero, List.set_cons_succ, List.getElem_toArray, List.getElem_cons_succ, List.getElem_cons_zero]
                refine wpAnyN_take (i := 11) (v := ?_) rfl (by kernel_rfl) (by kernel_rfl) (by kernel_rfl) (by kernel_rfl) (fun _ _ _ h => h) (Or.inl ⟨by kernel_rfl, ?y11⟩) hHeld ?_
                case y11 =>
                  intro w0 hSw
                  (try dsimp only at hSw)
                  go_simp
                  try with_reducible rfl
                try simp only [Act.put, List.setIfInBounds_toArray, List.set_cons_zero, List.set_cons_succ, List.getElem_toArray, List.getElem_cons_succ, List.getElem_cons_zero]
                refine wpAnyN_done (by kernel_rfl) ?_ _
                have hbC : Below wA.heap.size wA (wA.drewN (1 + m0)) := ⟨rfl, rfl, rfl, Nat.le_refl _, fun _ _ => rfl⟩
                have h7C : (wA.drewN (1 + m0)).heap[w8.heap.size]? = some (.cells #[.int .i64 e.kind, .int .i64 e.day, .string e.key, .string e.account, .string e.other, .string e.ref, .string e.ref2, .int .i64 e.typ, .int .i64 e.due, .int .i64 e.amount, .string e.memo, .slice eA e.lines.length ec] 25 (0, 0)) := HN7.out
                have hsC : (wA.drewN (1 + m0)).heap.size = w8.heap.size + 1 := hsA
                have HBC := Lib.hid (HBA.out.trans (hbC.mono HBA.out.size))
                have hE7 : EvAt (wA.drewN (1 + m0)) w8.heap.size e (.slice eA e.lines.length ec) := ⟨h7C⟩
                obtain ⟨q_0, q_1, q_2, q_3, q_4, q_5, q_6, q_7, q_8, q_9, q_10, q_11⟩ := ev_cells hE7
                generalize wA.drewN (1 + m0) = wC at h7C hsC HBC q_0 q_1 q_2 q_3 q_4 q_5 q_6 q_7 q_8 q_9 q_10 q_11 ⊢
                have hb7C : w8.heap.size < wC.heap.size := by omega
                clear hbC hE7 hHeld
                by_cases hne : e.key = emptyB
                · have hke : e.key.toList.isEmpty = true := by rw [hne, ByteArray.toList_eq]; rfl
                  clear hne
                  go_wp2
                  go_roundw
                  case rel => exact ⟨q + 1, by go_num, by omega, HBC.out⟩
                  case measure => simp [intOf]; omega
                · have hke : e.key.toList.isEmpty = false := by
                    cases hx : e.key.toList.isEmpty with
                    | false => rfl
                    | true => exact absurd (nilB_iff.1 (by rw [ByteArray.toList_eq] at hx; exact hx)) hne
                  by_cases kk : e.kind = 5
                  · have _u := 0
                    have b5 : (e.kind != 5) = false := by simp [kk]
                    have b6 : (e.kind != 6) = true := by simp [kk]
                    obtain ⟨cl, hcl, hlv, hln, hmx⟩ := HCO.out.made q hqn (by rw [← HE.out]; exact .inl kk)
                    rw [← HE.out] at hcl hlv hmx
                    have hrng := fun m => want_range HCO.out q hqn (by rw [← HE.out]; exact .inl kk) m
                    rw [← HE.out] at hrng
                    have HRANGE := Lib.hid hrng
                    have hIS := HIS.out
                    rw [hcl] at hIS
                    have hLV : LV = cl.amount - cl.used := by rw [HLV0.out, hcl]; rfl
                    rw [← hLV] at hlv hln
                    simp only [Option.isSome_some] at hIS
                    subst hIS
                    have HLV := Lib.hid hlv
                    clear hcl hlv hrng hLV kk
                    go_wp2
                    go_loopw [10, 11] (fun want j wr => ∃ m : Nat, j = .int .i64 ((q + m : Nat) : Int) ∧ want = .int .i64 (e.amount - allotSum e.key ((u.T.drop q).take m)) ∧ q + m ≤ u.T.length ∧ Below wC.heap.size wC wr) (fun _ j _ => u.T.length - (intOf j).toNat)
                    case atStart => exact ⟨0, rfl, by simp [allotSum], by omega, Below.refl _ _⟩
                    case round =>
                      obtain ⟨m, rfl, rfl, hm, hb2⟩ := hrel
                      have hbs2 := hb2.size
                      have hbW := HBC.out.trans (hb2.mono HBC.out.size)
                      have hpW := HP.out.below hbW
                      have b1 : wr.cell? ⟨w1.heap.size, 1, none⟩ = some (.slice (some adl) u.T.length tc) := by rw [cell_of_blk hpW.head]; rfl
                      have h7 := (hb2.block w8.heap.size hb7C).trans h7C
                      have hE7 : EvAt wr w8.heap.size e (.slice eA e.lines.length ec) := ⟨h7⟩
                      obtain ⟨q_0, q_1, q_2, q_3, q_4, q_5, q_6, q_7, q_8, q_9, q_10, q_11⟩ := ev_cells hE7
                      obtain ⟨WM, hWM⟩ : ∃ WM, WM = e.amount - allotSum e.key ((u.T.drop q).take m) := ⟨_, rfl⟩
                      rw [← hWM]
                      have HWM := Lib.hid hWM
                      clear hWM
                      by_cases hjl : q + m < u.T.length
                      · obtain ⟨ad2, had2, hab2, hcs2⟩ := hpW.ev (q + m) hjl
                        have hL2 := hpW.lines (q + m) hjl
                        obtain ⟨aA, ac, haf⟩ := lines_form hL2
                        have hsn : allotSum e.key ((u.T.drop q).take (m + 1)) = allotSum e.key ((u.T.drop q).take m) + allotOf e.key u.T[q + m] := by
                          rw [List.take_succ_eq_append_getElem (by rw [List.length_drop]; omega), allotSum_snoc, List.getElem_drop]
                        have hwr1 := HRANGE.out (m + 1)
                        obtain ⟨W1, hW1⟩ : ∃ W1, W1 = e.amount - allotSum e.key ((u.T.drop q).take (m + 1)) := ⟨_, rfl⟩
                        rw [← hW1] at hwr1
                        unfold maxA at hwr1
                        obtain ⟨a, ha⟩ : ∃ a, a = u.T[q + m] := ⟨_, rfl⟩
                        rw [← ha] at hcs2 hsn haf
                        rw [haf] at hcs2
                        have HW1 := Lib.hid hW1
                        have HB2 := Lib.hid hb2
                        obtain ⟨g0, g1, g2, g3, g4, g5, g6, g7, g8, g9, g10, g11⟩ := ev_at (by rw [block_add]; exact hab2) hcs2 wr (Below.refl _ _)
                        cases had2
                        clear hcs2 hL2 haf hW1 ha hpW hb2 hbW h7 hE7
                        have f7 : ∀ o, (wr.alloc o).cell? ⟨w8.heap.size, 2, none⟩ = some (.string e.key) := fun o => by
                          have hE : EvAt (wr.alloc o) w8.heap.size e (.slice eA e.lines.length ec) := ⟨(Below.heap_alloc wr o _ (by omega)).trans ((HB2.out.block w8.heap.size hb7C).trans h7C)⟩
                          exact hE.e2
                        by_cases k7 : a.kind = 7
                        · by_cases r1 : a.ref = e.key
                          · have _u := 0
                            have ha0 : allotOf e.key a = a.amount := by unfold allotOf; rw [if_pos ⟨k7, .inl r1⟩]
                            have b7 : (a.kind == 7) = true := by simpa using k7
                            have br1 : (a.ref.toList == e.key.toList) = true := by rw [r1]; exact self_beq _
                            have hsub : e.amount - allotSum e.key ((u.T.drop q).take m) - a.amount = W1 := by rw [HW1.out, hsn, ha0]; omega
                            have hwr : wrap64 (WM - a.amount) = W1 := by rw [show WM - a.amount = W1 by rw [HWM.out]; exact hsub]; unfold wrap64; omega
                            have hwr' : IntKind.i64.wrap (WM - a.amount) = W1 := by rw [show WM - a.amount = W1 by rw [HWM.out]; exact hsub]; exact IntWalk.i64_in _ (by omega)
                            clear ha0 k7 r1 hsub hsn
                            go_wp2
                            go_roundw
                            case rel => exact ⟨m + 1, by go_num, by rw [HW1.out], by omega, HB2.out.alloc hbs2 _⟩
                            case measure => simp [intOf]; omega
                          · by_cases r2 : a.ref2 = e.key
                            · have _u := 0
                              have ha0 : allotOf e.key a = a.amount := by unfold allotOf; rw [if_pos ⟨k7, .inr r2⟩]
                              have b7 : (a.kind == 7) = true := by simpa using k7
                              have br1 : (a.ref.toList == e.key.toList) = false := text_ne r1
                              have br2 : (a.ref2.toList == e.key.toList) = true := by rw [r2]; exact self_beq _
                              have hsub : e.amount - allotSum e.key ((u.T.drop q).take m) - a.amount = W1 := by rw [HW1.out, hsn, ha0]; omega
                              have hwr : wrap64 (WM - a.amount) = W1 := by rw [show WM - a.amount = W1 by rw [HWM.out]; exact hsub]; unfold wrap64; omega
                              have hwr' : IntKind.i64.wrap (WM - a.amount) = W1 := by rw [show WM - a.amount = W1 by rw [HWM.out]; exact hsub]; exact IntWalk.i64_in _ (by omega)
                              clear ha0 k7 r1 r2 hsub hsn
                              go_wp2
                              go_roundw
                              case rel => exact ⟨m + 1, by go_num, by rw [HW1.out], by omega, HB2.out.alloc hbs2 _⟩
                              case measure => simp [intOf]; omega
                            · have _u := 0
                              have ha0 : allotOf e.key a = 0 := by unfold allotOf; rw [if_neg (fun hh => hh.2.elim r1 r2)]
                              have b7 : (a.kind == 7) = true := by simpa using k7
                              have br1 : (a.ref.toList == e.key.toList) = false := text_ne r1
                              have br2 : (a.ref2.toList == e.key.toList) = false := text_ne r2
                              have hsub : WM = W1 := by rw [HW1.out, HWM.out, hsn, ha0]; omega
                              have HSUB := Lib.hid hsub
                              clear ha0 k7 r1 r2 hsub hsn
                              go_wp2
                              go_roundw
                              case rel => exact ⟨m + 1, by go_num, by rw [← HW1.out, ← HSUB.out], by omega, HB2.out.alloc hbs2 _⟩
                              case measure => simp [intOf]; omega
                        · have _u := 0
                          have ha0 : allotOf e.key a = 0 := by unfold allotOf; rw [if_neg (fun hh => k7 hh.1)]
                          have b7 : (a.kind == 7) = false := by simpa using k7
                          have hsub : WM = W1 := by rw [HW1.out, HWM.out, hsn, ha0]; omega
                          have HSUB := Lib.hid hsub
                          clear ha0 k7  hsub hsn
                          go_wp2
                          go_roundw
                          case rel => exact ⟨m + 1, by go_num, by rw [← HW1.out, ← HSUB.out], by omega, HB2.out.alloc hbs2 _⟩
                          case measure => simp [intOf]; omega
                      · obtain rfl : m = u.T.length - q := by omega
                        have htake : (u.T.drop q).take (u.T.length - q) = u.T.drop q := List.take_of_length_le (by rw [List.length_drop]; omega)
                        have hWL : WM = LV := by rw [HWM.out, htake]; exact HLV.out.symm
                        subst hWL
                        have HB2 := Lib.hid hb2
                        have hlneg : decide (WM < 0) = false := decide_eq_false (by omega)
                        clear hb2 hpW hbW h7 hE7 htake
                        go_wp2
                        go_roundw
                        case rel => exact ⟨q + 1, by go_num, by omega, HBC.out.trans (HB2.out.mono HBC.out.size)⟩
                        case measure => simp [intOf]; omega
                  · have k5 := kk
                    clear kk
                    by_cases kk : e.kind = 6
                    · have _u := 0
                      have b5 : (e.kind != 5) = true := by simp [kk]
                      have b6 : (e.kind != 6) = false := by simp [kk]
                      obtain ⟨cl, hcl, hlv, hln, hmx⟩ := HCO.out.made q hqn (by rw [← HE.out]; exact .inr kk)
                      rw [← HE.out] at hcl hlv hmx
                      have hrng := fun m => want_range HCO.out q hqn (by rw [← HE.out]; exact .inr kk) m
                      rw [← HE.out] at hrng
                      have HRANGE := Lib.hid hrng
                      have hIS := HIS.out
                      rw [hcl] at hIS
                      have hLV : LV = cl.amount - cl.used := by rw [HLV0.out, hcl]; rfl
                      rw [← hLV] at hlv hln
                      simp only [Option.isSome_some] at hIS
                      subst hIS
                      have HLV := Lib.hid hlv
                      clear hcl hlv hrng hLV kk
                      go_wp2
                      go_loopw [10, 11] (fun want j wr => ∃ m : Nat, j = .int .i64 ((q + m : Nat) : Int) ∧ want = .int .i64 (e.amount - allotSum e.key ((u.T.drop q).take m)) ∧ q + m ≤ u.T.length ∧ Below wC.heap.size wC wr) (fun _ j _ => u.T.length - (intOf j).toNat)
                      case atStart => exact ⟨0, rfl, by simp [allotSum], by omega, Below.refl _ _⟩
                      case round =>
                        obtain ⟨m, rfl, rfl, hm, hb2⟩ := hrel
                        have hbs2 := hb2.size
                        have hbW := HBC.out.trans (hb2.mono HBC.out.size)
                        have hpW := HP.out.below hbW
                        have b1 : wr.cell? ⟨w1.heap.size, 1, none⟩ = some (.slice (some adl) u.T.length tc) := by rw [cell_of_blk hpW.head]; rfl
                        have h7 := (hb2.block w8.heap.size hb7C).trans h7C
                        have hE7 : EvAt wr w8.heap.size e (.slice eA e.lines.length ec) := ⟨h7⟩
                        obtain ⟨q_0, q_1, q_2, q_3, q_4, q_5, q_6, q_7, q_8, q_9, q_10, q_11⟩ := ev_cells hE7
                        obtain ⟨WM, hWM⟩ : ∃ WM, WM = e.amount - allotSum e.key ((u.T.drop q).take m) := ⟨_, rfl⟩
                        rw [← hWM]
                        have HWM := Lib.hid hWM
                        clear hWM
                        by_cases hjl : q + m < u.T.length
                        · obtain ⟨ad2, had2, hab2, hcs2⟩ := hpW.ev (q + m) hjl
                          have hL2 := hpW.lines (q + m) hjl
                          obtain ⟨aA, ac, haf⟩ := lines_form hL2
                          have hsn : allotSum e.key ((u.T.drop q).take (m + 1)) = allotSum e.key ((u.T.drop q).take m) + allotOf e.key u.T[q + m] := by
                            rw [List.take_succ_eq_append_getElem (by rw [List.length_drop]; omega), allotSum_snoc, List.getElem_drop]
                          have hwr1 := HRANGE.out (m + 1)
                          obtain ⟨W1, hW1⟩ : ∃ W1, W1 = e.amount - allotSum e.key ((u.T.drop q).take (m + 1)) := ⟨_, rfl⟩
                          rw [← hW1] at hwr1
                          unfold maxA at hwr1
                          obtain ⟨a, ha⟩ : ∃ a, a = u.T[q + m] := ⟨_, rfl⟩
                          rw [← ha] at hcs2 hsn haf
                          rw [haf] at hcs2
                          have HW1 := Lib.hid hW1
                          have HB2 := Lib.hid hb2
                          obtain ⟨g0, g1, g2, g3, g4, g5, g6, g7, g8, g9, g10, g11⟩ := ev_at (by rw [block_add]; exact hab2) hcs2 wr (Below.refl _ _)
                          cases had2
                          clear hcs2 hL2 haf hW1 ha hpW hb2 hbW h7 hE7
                          have f7 : ∀ o, (wr.alloc o).cell? ⟨w8.heap.size, 2, none⟩ = some (.string e.key) := fun o => by
                            have hE : EvAt (wr.alloc o) w8.heap.size e (.slice eA e.lines.length ec) := ⟨(Below.heap_alloc wr o _ (by omega)).trans ((HB2.out.block w8.heap.size hb7C).trans h7C)⟩
                            exact hE.e2
                          by_cases k7 : a.kind = 7
                          · by_cases r1 : a.ref = e.key
                            · have _u := 0
                              have ha0 : allotOf e.key a = a.amount := by unfold allotOf; rw [if_pos ⟨k7, .inl r1⟩]
                              have b7 : (a.kind == 7) = true := by simpa using k7
                              have br1 : (a.ref.toList == e.key.toList) = true := by rw [r1]; exact self_beq _
                              have hsub : e.amount - allotSum e.key ((u.T.drop q).take m) - a.amount = W1 := by rw [HW1.out, hsn, ha0]; omega
                              have hwr : wrap64 (WM - a.amount) = W1 := by rw [show WM - a.amount = W1 by rw [HWM.out]; exact hsub]; unfold wrap64; omega
                              have hwr' : IntKind.i64.wrap (WM - a.amount) = W1 := by rw [show WM - a.amount = W1 by rw [HWM.out]; exact hsub]; exact IntWalk.i64_in _ (by omega)
                              clear ha0 k7 r1 hsub hsn
                              go_wp2
                              go_roundw
                              case rel => exact ⟨m + 1, by go_num, by rw [HW1.out], by omega, HB2.out.alloc hbs2 _⟩
                              case measure => simp [intOf]; omega
                            · by_cases r2 : a.ref2 = e.key
                              · have _u := 0
                                have ha0 : allotOf e.key a = a.amount := by unfold allotOf; rw [if_pos ⟨k7, .inr r2⟩]
                                have b7 : (a.kind == 7) = true := by simpa using k7
                                have br1 : (a.ref.toList == e.key.toList) = false := text_ne r1
                                have br2 : (a.ref2.toList == e.key.toList) = true := by rw [r2]; exact self_beq _
                                have hsub : e.amount - allotSum e.key ((u.T.drop q).take m) - a.amount = W1 := by rw [HW1.out, hsn, ha0]; omega
                                have hwr : wrap64 (WM - a.amount) = W1 := by rw [show WM - a.amount = W1 by rw [HWM.out]; exact hsub]; unfold wrap64; omega
                                have hwr' : IntKind.i64.wrap (WM - a.amount) = W1 := by rw [show WM - a.amount = W1 by rw [HWM.out]; exact hsub]; exact IntWalk.i64_in _ (by omega)
                                clear ha0 k7 r1 r2 hsub hsn
                                go_wp2
                                go_roundw
                                case rel => exact ⟨m + 1, by go_num, by rw [HW1.out], by omega, HB2.out.alloc hbs2 _⟩
                                case measure => simp [intOf]; omega
                              · have _u := 0
                                have ha0 : allotOf e.key a = 0 := by unfold allotOf; rw [if_neg (fun hh => hh.2.elim r1 r2)]
                                have b7 : (a.kind == 7) = true := by simpa using k7
                                have br1 : (a.ref.toList == e.key.toList) = false := text_ne r1
                                have br2 : (a.ref2.toList == e.key.toList) = false := text_ne r2
                                have hsub : WM = W1 := by rw [HW1.out, HWM.out, hsn, ha0]; omega
                                have HSUB := Lib.hid hsub
                                clear ha0 k7 r1 r2 hsub hsn
                                go_wp2
                                go_roundw
                                case rel => exact ⟨m + 1, by go_num, by rw [← HW1.out, ← HSUB.out], by omega, HB2.out.alloc hbs2 _⟩
                                case measure => simp [intOf]; omega
                          · have _u := 0
                            have ha0 : allotOf e.key a = 0 := by unfold allotOf; rw [if_neg (fun hh => k7 hh.1)]
                            have b7 : (a.kind == 7) = false := by simpa using k7
                            have hsub : WM = W1 := by rw [HW1.out, HWM.out, hsn, ha0]; omega
                            have HSUB := Lib.hid hsub
                            clear ha0 k7  hsub hsn
                            go_wp2
                            go_roundw
                            case rel => exact ⟨m + 1, by go_num, by rw [← HW1.out, ← HSUB.out], by omega, HB2.out.alloc hbs2 _⟩
                            case measure => simp [intOf]; omega
                        · obtain rfl : m = u.T.length - q := by omega
                          have htake : (u.T.drop q).take (u.T.length - q) = u.T.drop q := List.take_of_length_le (by rw [List.length_drop]; omega)
                          have hWL : WM = LV := by rw [HWM.out, htake]; exact HLV.out.symm
                          subst hWL
                          have HB2 := Lib.hid hb2
                          have hlneg : decide (WM < 0) = false := decide_eq_false (by omega)
                          clear hb2 hpW hbW h7 hE7 htake
                          go_wp2
                          go_roundw
                          case rel => exact ⟨q + 1, by go_num, by omega, HBC.out.trans (HB2.out.mono HBC.out.size)⟩
                          case measure => simp [intOf]; omega
                    · have b5 : (e.kind != 5) = true := by simpa using k5
                      have b6 : (e.kind != 6) = true := by simpa using kk
                      have hIS := HIS.out
                      rw [HQK.out k5 kk hne] at hIS
                      have hLV : LV = 0 := by rw [HLV0.out, HQK.out k5 kk hne]; rfl
                      simp only [Option.isSome_none] at hIS
                      subst hIS hLV
                      clear hne k5 kk
                      go_wp2
                      go_roundw
                      case rel => exact ⟨q + 1, by go_num, by omega, HBC.out⟩
                      case measure => simp [intOf]; omega
              · have HBL := Lib.hid hbel
                clear hbel
                go_wp2
                go_roundw
                case rel => exact ⟨k + 1, by go_num, by omega, HI.out.below HBL.out⟩
                case measure => simp [intOf]; omega
      · have h4' : decide ((k : Int) < 400) = false := decide_eq_false (by omega)
        have HI := Lib.hid hinv
        clear hinv
        go_wp2_with (go_at_call 14; refine (first_any _).mono ?_; rintro en w2 ⟨rfl, hb2⟩; have HB2 := Lib.hid hb2; clear hb2)
        go_ret
        exact ⟨rfl, HI.out.bel.trans (HB2.out.mono HI.out.bel.size)⟩
    · have HI := Lib.hid hinv
      clear hinv
      go_wp2_with (go_at_call 14; refine (first_any _).mono ?_; rintro en w2 ⟨rfl, hb2⟩; have HB2 := Lib.hid hb2; clear hb2)
      go_ret
      exact ⟨rfl, HI.out.bel.trans (HB2.out.mono HI.out.bel.size)⟩
end Go.Proofs.YtgocoofcelggcaaGreatDoor
