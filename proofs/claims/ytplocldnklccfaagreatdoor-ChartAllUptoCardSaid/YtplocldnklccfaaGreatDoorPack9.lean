/- daybookkeep: a list of accounts is appended to. Printed by gen_kagrow.py. -/
import Derived.Test.YtplocldnklccfaaGreatDoorPack8
import Derived.Test.YtplocldnklccfaaGreatDoorPack5
namespace Go.Proofs.YtplocldnklccfaaGreatDoor
theorem qa9 {T : Type} (l : List T) (i : Nat) (a : T) : l.toArray.setIfInBounds i a = (l.set i a).toArray := List.setIfInBounds_toArray l i a
theorem qb9 {T : Type} {x : T} {xs : List T} {a : T} : (x :: xs).set 0 a = a :: xs := List.set_cons_zero
theorem qc9 {T : Type} {x : T} {xs : List T} {i : Nat} {a : T} : (x :: xs).set (i + 1) a = x :: xs.set i a := List.set_cons_succ
theorem qd9 {T : Type} {xs : List T} {i : Nat} (h : i < xs.toArray.size) : xs.toArray[i] = xs[i]'(by simpa using h) := List.getElem_toArray h
theorem qe9 {T : Type} (a : T) (ys : List T) (i : Nat) (h : i + 1 < (a :: ys).length) : (a :: ys)[i + 1] = ys[i]'(by simpa using h) := List.getElem_cons_succ a ys i h
theorem qf9 {T : Type} (a : T) (ys : List T) (h : 0 < (a :: ys).length) : (a :: ys)[0] = a := List.getElem_cons_zero a ys h
open Go.RowKit
set_option linter.unusedVariables false
set_option linter.unusedSimpArgs false

theorem room63A {n k : Nat} (h : n ≤ 1048576) (hk : k < 64) : n + k + 1 ≤ maxLen := by unfold maxLen; omega
theorem room47A {n k : Nat} (h : n ≤ 1048576) (hk : k < 64) : (n + k + 1) * 40 ≤ 140737488355328 := by omega

structure GrowInvA (w : World) (pb po : Nat) (cs : Array Value) (pt : TypeId) (L : Value) (xs : List (List Value)) (id : Int) (i : Value) (wr : World) (k : Nat) : Prop where
  le : k ≤ 64
  at_ : i = .int .i64 (k : Int)
  ex : ∃ GA gc, wr.heap[pb]? = some (.cells (cs.setIfInBounds (po + 1) (.slice GA (xs.length + k) gc)) pt (0, 0)) ∧ wr.ownsRow 0 159 4 (.slice GA (xs.length + k) gc) (xs.length + k) (xs.flatten ++ (accsM (id + 100000) k).flatten) ∧
    (∀ q, (Value.slice GA (xs.length + k) gc).ownBlock = some q → L.ownBlock = some q ∨ w.heap.size ≤ q)
  txt : RowAt wr (fun q => L.ownBlock = some q) 4 L xs
  ch : Ch (fun q => q = pb ∨ L.ownBlock = some q) w wr
theorem grow_nextA {w wr wb w5 : World} {pb po k c gc g cap : Nat} {cs : Array Value} {pt : TypeId} {A GA : Option Addr} {xs : List (List Value)} {id : Int} {i' : Value} (h4 : ∀ x ∈ xs, x.length = 4) (hi : i' = .int .i64 ((k : Int) + 1)) (hk : k < 64)
    (hpg : wr.heap[pb]? = some (.cells (cs.setIfInBounds (po + 1) (.slice GA (xs.length + k) gc)) pt (0, 0))) (hb : Below wr.heap.size wr wb) (htx : RowAt wr (fun q => (Value.slice A xs.length c).ownBlock = some q) 4 (.slice A xs.length c) xs) (hch : Ch (fun q => q = pb ∨ (Value.slice A xs.length c).ownBlock = some q) w wr)
    (hgb : ∀ q, (Value.slice GA (xs.length + k) gc).ownBlock = some q → (Value.slice A xs.length c).ownBlock = some q ∨ w.heap.size ≤ q) (hgp : ∀ q, (Value.slice GA (xs.length + k) gc).ownBlock = some q → pb = q → False)
    (hA : ∀ ad, A = some ad → ad = ⟨ad.block, 0, none⟩) (hne : ∀ q, (Value.slice A xs.length c).ownBlock = some q → q ≠ pb)
    (hown : w5.ownsRow 0 159 4 (.slice (some ⟨g, 0, none⟩) (xs.length + k + 1) cap) (xs.length + k + 1) ((xs.flatten ++ (accsM (id + 100000) k).flatten) ++ encA (markA (id + 100000) (k : Int))))
    (hgr : wb.grownBy w5 (Value.slice GA (xs.length + k) gc).ownBlock) (hat : (Value.slice GA (xs.length + k) gc).ownBlock = some g ∨ (g = wb.heap.size ∧ wb.grownBy w5 none)) :
    GrowInvA w pb po cs pt (.slice A xs.length c) xs id i' (w5.setCell ⟨pb, po + 1, none⟩ (.slice (some ⟨g, 0, none⟩) (xs.length + k + 1) cap)) (k + 1) := by
  have hpl := heap_lt hpg
  have hsz := hch.size
  have hbs := hb.size
  have hgpb : g ≠ pb := fun e => by
    rcases hat with h | ⟨h, _⟩
    · exact hgp g h e.symm
    · omega
  have hpg5 : w5.heap[pb]? = some (.cells (cs.setIfInBounds (po + 1) (.slice GA (xs.length + k) gc)) pt (0, 0)) := (hgr.block pb (by omega) fun e => hgp _ e.symm rfl).trans ((hb.block pb hpl).trans hpg)
  have hset := Below.heap_setCell w5 ⟨pb, po + 1, none⟩ (.slice (some ⟨g, 0, none⟩) (xs.length + k + 1) cap)
  have hown2 := ownsRow_keep (w' := w5.setCell ⟨pb, po + 1, none⟩ (.slice (some ⟨g, 0, none⟩) (xs.length + k + 1) cap)) hown fun q e => hset q (by
    obtain rfl : g = q := Option.some.inj e
    exact hgpb)
  have htx5 := head_stays (m := k + 1) (ys := (accsM (id + 100000) k).flatten ++ encA (markA (id + 100000) (k : Int))) (htx.below hb) h4 rfl (by rw [← List.append_assoc]; exact hown) hgr hat (fun q _ ad e1 e2 => by rw [hA ad e1, e2])
  refine ⟨hk, hi, ⟨some ⟨g, 0, none⟩, cap, ?_, ?_, ?_⟩, ?_, ?_⟩
  · rw [heap_setCell_same hpg5, Array.setIfInBounds_setIfInBounds]
    rfl
  · rw [accsM_succ, List.flatten_append, List.flatten_cons, List.flatten_nil, List.append_nil, ← List.append_assoc]
    exact hown2
  · intro q e
    obtain rfl : g = q := Option.some.inj e
    rcases hat with h | ⟨h, _⟩
    · exact hgb g h
    · exact .inr (by omega)
  · exact htx5.keep fun q hq hl => ⟨hset q (hne q hq), hq⟩
  · refine ((hch.below hb).grown hgr fun q e => ?_).setCell (p := ⟨pb, po + 1, none⟩) (.inl (.inl rfl)) _
    rcases hgb q e with h | h
    · exact .inl (.inr h)
    · exact .inr h
set_option maxRecDepth 100000 in
set_option maxHeartbeats 4000000 in
theorem growA_any {w : World} {pb po c : Nat} {cs : Array Value} {pt : TypeId} {A : Option Addr} {id : Int} {xs : List (List Value)} {G0 : Value} (h4 : ∀ x ∈ xs, x.length = 4) (hp : w.heap[pb]? = some (.cells cs pt (0, 0)))
    (h0 : cs[po]? = some (.slice A xs.length c)) (h1 : cs[po + 1]? = some G0) (h3 : cs[po + 3]? = some (.int .i64 id)) (hown : w.ownsRow 0 159 4 (.slice A xs.length c) xs.length xs.flatten)
    (hne : ∀ q, (Value.slice A xs.length c).ownBlock = some q → q ≠ pb) (hn : xs.length ≤ 1048576) (hid : 0 ≤ id ∧ id ≤ 1048576) (hpow : ∀ W, Ch (fun q => q = pb ∨ (Value.slice A xs.length c).ownBlock = some q) w W → Pow W) :
    Calls Tryz.prog 133 #[.pointer (some ⟨pb, po, none⟩)] w fun e w' => e = .returned (.tuple #[]) ∧ ∃ g cap, w'.heap[pb]? = some (.cells (cs.setIfInBounds (po + 1) (.slice (some ⟨g, 0, none⟩) (xs.length + 64) cap)) pt (0, 0)) ∧
      w'.ownsRow 0 159 4 (.slice (some ⟨g, 0, none⟩) (xs.length + 64) cap) (xs.length + 64) (xs.flatten ++ (accsM (id + 100000) 64).flatten) ∧ ((Value.slice A xs.length c).ownBlock = some g ∨ w.heap.size ≤ g) ∧
      RowAt w' (fun q => (Value.slice A xs.length c).ownBlock = some q) 4 (.slice A xs.length c) xs ∧ Ch (fun q => q = pb ∨ (Value.slice A xs.length c).ownBlock = some q) w w' := by
  obtain ⟨is, his, his0, his1, his2⟩ := info_parts info_acc
  have hA : ∀ ad, A = some ad → ad = ⟨ad.block, 0, none⟩ := fun ad e => by
    rcases hown.2 with ⟨hv, _⟩ | ⟨g, cap, cur, hv, _⟩
    · rw [e] at hv; cases hv
    · rw [e] at hv; injection hv with h _ _; injection h with h; rw [h]
  have hpl := heap_lt hp
  have p0 : w.cell? ⟨pb, po, none⟩ = some (.slice A xs.length c) := by rw [cell_of_blk hp]; exact h0
  have p1 : w.cell? ⟨pb, po + 1, none⟩ = some G0 := by rw [cell_of_blk hp]; exact h1
  have f1 := frozen_blk hp (po + 1)
  have hown1 := ownsRow_keep (w' := w.setCell ⟨pb, po + 1, none⟩ (.slice A xs.length c)) hown fun q e => Below.heap_setCell _ _ _ _ (hne q e)
  have HI := Lib.hid (show GrowInvA w pb po cs pt (.slice A xs.length c) xs id (.int .i64 0) (w.setCell ⟨pb, po + 1, none⟩ (.slice A xs.length c)) 0 from
    ⟨Nat.zero_le _, rfl, ⟨A, c, heap_setCell_same (i := po + 1) hp _, by
      simpa [accsM, marksL] using hown1, fun q e => .inl e⟩, RowAt.of_own hown1 h4 (fun q e => e),
      (Ch.refl _ w).setCell (p := ⟨pb, po + 1, none⟩) (.inl (.inl rfl)) _⟩)
  have H4 := Lib.hid h4
  have HC := Lib.hid (And.intro h1 h3)
  have HNE := Lib.hid hne
  have HPOW := Lib.hid hpow
  have HA := Lib.hid hA
  clear hp h0 h1 h3 hown hown1 hne hpow hA h4
  go_enter Tryz.func133, Tryz.ntmps133
  go_wp2
  clear p0 p1 f1
  go_loopw [2] (fun i wr => ∃ k : Nat, GrowInvA w pb po cs pt (.slice A xs.length c) xs id i wr k) (fun i _ => 64 - (intOf i).toNat)
  case atStart => exact ⟨0, HI.out⟩
  case round =>
    obtain ⟨k, hk, rfl, ⟨GA, gc, hpg, hrow, hgb⟩, htx, hch⟩ := hrel
    by_cases hlt : k < 64
    · have hblr : pb < wr.drew.heap.size := heap_lt hpg
      have hcell : ∀ W : World, W.heap[pb]? = wr.heap[pb]? → W.cell? ⟨pb, po + 1, none⟩ = some (.slice GA (xs.length + k) gc) ∧ W.cell? ⟨pb, po + 3, none⟩ = some (.int .i64 id) := fun W hW => by
        rw [cell_of_blk (hW.trans hpg), cell_of_blk (hW.trans hpg)]
        refine ⟨?_, ?_⟩
        · rw [Array.getElem?_setIfInBounds, if_pos rfl, if_pos (Array.getElem?_eq_some_iff.1 HC.out.1).1]
        · rw [Array.getElem?_setIfInBounds, if_neg (by omega)]
          exact HC.out.2
      have HSP := Lib.hid hcell
      have HS := Lib.hid (fun W (hb : Below wr.drew.heap.size wr.drew W) => hcell W (hb.block pb hblr))
      have HOWN := Lib.hid (fun W (hb : Below wr.drew.heap.size wr.drew W) => ownsRow_keep (w' := W) hrow fun q e => hb.block q (hrow.lt q e).2)
      have HGP := Lib.hid (show ∀ q, (Value.slice GA (xs.length + k) gc).ownBlock = some q → pb = q → False from fun q e e2 => by
        rcases hgb q e with h | h
        · exact HNE.out q h e2.symm
        · omega)
      have HPG := Lib.hid hpg
      have HTX := Lib.hid htx
      have HCH := Lib.hid hch
      have HGB := Lib.hid hgb
      have hbh := behind_any wr.drew id hid
      have hmk := markAcc_any wr.drew (HPOW.out wr.drew hch.drew) (id + 100000) (k : Int) ⟨by omega, by omega⟩ ⟨by omega, by omega⟩
      unfold accV at hmk
      have hHeld := HS.out wr.drew (Below.refl _ _)
      have hmu : 64 - ((k : Int) + 1).toNat < 64 - k := by omega
      have hwk : wrap64 ((k : Int) + 1) = (k : Int) + 1 := by unfold wrap64; omega
      have HR63 := Lib.hid (room63A (k := k) hn hlt)
      have HR47 := Lib.hid (room47A (k := k) hn hlt)
      clear hrow hcell hch hpg htx hgb hn
      go_wp2
      refine wp_region_n (n := 16) (S := fun w' => w'.cell? ⟨pb, po + 1, none⟩ = some (.slice GA (xs.length + k) gc) ∧ w'.cell? ⟨pb, po + 3, none⟩ = some (.int .i64 id)) (by kernel_rfl) ?_
      refine wpAnyN_take (i := 0) (v := ?_) rfl (by kernel_rfl) (by kernel_rfl) (by kernel_rfl) (by kernel_rfl) (fun _ _ _ h => h) (Or.inl ⟨by kernel_rfl, ?y1⟩) hHeld ?_
      case y1 =>
        intro w0 hSw
        (try dsimp only at hSw)
        go_simp
        try with_reducible rfl
      try simp only [Act.put, qa9, qb9, qc9, qd9, qe9, qf9]
      refine wpAnyN_take (i := 1) (v := ?_) rfl (by kernel_rfl) (by kernel_rfl) (by kernel_rfl) (by kernel_rfl) (fun _ _ _ h => h) (Or.inl ⟨by kernel_rfl, ?y2⟩) hHeld ?_
      case y2 =>
        intro w0 hSw
        (try dsimp only at hSw)
        go_simp
        try with_reducible rfl
      try simp only [Act.put, qa9, qb9, qc9, qd9, qe9, qf9]
      refine wpAnyN_take (i := 2) (v := ?_) rfl (by kernel_rfl) (by kernel_rfl) (by kernel_rfl) (by kernel_rfl) (fun _ _ _ h => h) (Or.inl ⟨by kernel_rfl, ?y3⟩) hHeld ?_
      case y3 =>
        intro w0 hSw
        (try dsimp only at hSw)
        go_simp
        try with_reducible rfl
      try simp only [Act.put, qa9, qb9, qc9, qd9, qe9, qf9]
      refine wpAnyN_take (i := 3) (v := ?_) rfl (by kernel_rfl) (by kernel_rfl) (by kernel_rfl) (by kernel_rfl) (fun _ _ _ h => h) (Or.inl ⟨by kernel_rfl, ?y4⟩) hHeld ?_
      case y4 =>
        intro w0 hSw
        (try dsimp only at hSw)
        go_simp
        try with_reducible rfl
      try simp only [Act.put, qa9, qb9, qc9, qd9, qe9, qf9]
      refine wpAnyN_take (i := 4) (v := ?_) rfl (by kernel_rfl) (by kernel_rfl) (by kernel_rfl) (by kernel_rfl) (fun _ _ _ h => h) (Or.inl ⟨by kernel_rfl, ?y5⟩) hHeld ?_
      case y5 =>
        intro w0 hSw
        (try dsimp only at hSw)
        go_simp
        try with_reducible rfl
      try simp only [Act.put, qa9, qb9, qc9, qd9, qe9, qf9]
      refine wpAnyN_take (i := 5) (v := ?_) rfl (by kernel_rfl) (by kernel_rfl) (by kernel_rfl) (by kernel_rfl) (fun _ _ _ h => h) (Or.inl ⟨by kernel_rfl, ?y6⟩) hHeld ?_
      case y6 =>
        intro w0 hSw
        (try dsimp only at hSw)
        go_simp
        try with_reducible rfl
      try simp only [Act.put, qa9, qb9, qc9, qd9, qe9, qf9]
      refine wpAnyN_take (i := 6) (v := ?_) rfl (by kernel_rfl) (by kernel_rfl) (by kernel_rfl) (by kernel_rfl) (fun _ _ _ h => h) (Or.inl ⟨by kernel_rfl, ?y7⟩) hHeld ?_
      case y7 =>
        intro w0 hSw
        (try dsimp only at hSw)
        go_simp
        try with_reducible rfl
      try simp only [Act.put, qa9, qb9, qc9, qd9, qe9, qf9]
      refine wpAnyN_take (i := 7) (v := ?_) rfl (by kernel_rfl) (by kernel_rfl) (by kernel_rfl) (by kernel_rfl) (fun _ _ _ h => h) (Or.inl ⟨by kernel_rfl, ?y8⟩) hHeld ?_
      case y8 =>
        intro w0 hSw
        (try dsimp only at hSw)
        go_simp
        try with_reducible rfl
      try simp only [Act.put, qa9, qb9, qc9, qd9, qe9, qf9]
      refine wpAnyN_take (i := 8) (v := ?_) rfl (by kernel_rfl) (by kernel_rfl) (by kernel_rfl) (by kernel_rfl) (fun _ _ _ h => h) (Or.inl ⟨by kernel_rfl, ?y9⟩) hHeld ?_
      case y9 =>
        intro w0 hSw
        (try dsimp only at hSw)
        go_simp
        try with_reducible rfl
      try simp only [Act.put, qa9, qb9, qc9, qd9, qe9, qf9]
      refine wpAnyN_take (i := 10) (v := ?_) rfl (by kernel_rfl) (by kernel_rfl) (by kernel_rfl) (by kernel_rfl) (fun _ _ _ h => h) (Or.inl ⟨by kernel_rfl, ?y10⟩) hHeld ?_
      case y10 =>
        intro w0 hSw
        (try dsimp only at hSw)
        go_simp
        try with_reducible rfl
      try simp only [Act.put, qa9, qb9, qc9, qd9, qe9, qf9]
      refine wpAnyN_step (i := 9) (by kernel_rfl) rfl (fun K hK => ?_)
      go_simp
      go_at_call 87
      refine (hbh).mono ?_
      rintro en wn ⟨rfl, hwn⟩
      have hwn := hwn.symm
      subst hwn
      clear hbh
      go_wp2_with fail
      refine hK.out _ _ (fun _ => hHeld) ?_
      clear hK K
      try simp only [Act.put, qa9, qb9, qc9, qd9, qe9, qf9]
      refine wpAnyN_step (i := 11) (by kernel_rfl) rfl (fun K hK => ?_)
      go_simp
      go_at_call 196
      refine (hmk).mono ?_
      rintro en wx ⟨rfl, hbx⟩
      have hHeld := HS.out wx hbx
      clear hmk
      go_wp2_with fail
      refine hK.out _ _ (fun _ => hHeld) ?_
      clear hK K
      try simp only [Act.put, qa9, qb9, qc9, qd9, qe9, qf9]
      refine wpAnyN_step (i := 12) (by kernel_rfl) rfl (fun K hK => ?_)
      go_simp
      have hbw := hbx.alloc hbx.size (.cells #[.string (markA (id + 100000) k).name, .int .i64 (markA (id + 100000) k).typ, .int .i64 (markA (id + 100000) k).opened, .bool (markA (id + 100000) k).closed] 159)
      refine hK.out _ _ (fun _ => HS.out _ hbw) ?_
      clear hK K
      try simp only [Act.put, qa9, qb9, qc9, qd9, qe9, qf9]
      refine wpAnyN_step (i := 13) (by kernel_rfl) rfl (fun K hK => ?_)
      refine step_append_keeps rfl _ _ 55 rfl 0 159 is (.agg #[.string ByteArray.empty, .int .i64 0, .int .i64 0, .bool false]) 4 40 Tryz.underlying55 his his0 his1 his2 rfl (by decide) (.slice GA (xs.length + k) gc) (xs.length + k) _ (by simp [Act.eval, Act.put]) (HOWN.out _ hbw) ⟨wx.heap.size, 0, none⟩ 1 1 (encA (markA (id + 100000) k)) (by simp [Act.eval, Act.put]) rfl (enc_new wx _ _) (fun u hu => by unfold encA at hu; simp at hu; rcases hu with rfl | rfl | rfl | rfl <;> rfl) (by decide) HR63.out HR47.out (Nat.zero_le _) ?_
      intro g cap w5 hown5 hgrow5 hat5
      have hpg5 := hgrow5.block pb (by have := hbw.size; exact Nat.lt_of_lt_of_le hblr this) (fun e => HGP.out _ e.symm rfl)
      have hHeld5 := HSP.out w5 (hpg5.trans (hbw.block pb hblr))
      refine hK.out _ _ (fun _ => hHeld5) ?_
      clear hK K
      try simp only [Act.put, qa9, qb9, qc9, qd9, qe9, qf9]
      have hHeld := hHeld5
      refine wpAnyN_step (i := 14) (by kernel_rfl) rfl (fun K hK => ?_)
      go_simp
      refine hK.out _ _ (fun _ => hHeld) ?_
      clear hK K
      try simp only [Act.put, qa9, qb9, qc9, qd9, qe9, qf9]
      refine wpAnyN_step (i := 15) (by kernel_rfl) rfl (fun K hK => ?_)
      go_simp
      refine hK.out _ _ (fun _ => hHeld) ?_
      clear hK K
      try simp only [Act.put, qa9, qb9, qc9, qd9, qe9, qf9]
      refine wpAnyN_step (i := 16) (by kernel_rfl) rfl (fun K hK => ?_)
      have f5 := frozen_blk (hpg5.trans ((hbw.block pb hblr).trans HPG.out)) (po + 1)
      go_simp
      refine hK.out _ _ (fun h => absurd h (by decide)) ?_
      clear hK K
      try simp only [Act.put, qa9, qb9, qc9, qd9, qe9, qf9]
      refine wpAnyN_done (by kernel_rfl) ?_ _
      have HG := Lib.hid (grow_nextA (i' := .int .i64 ((k : Int) + 1)) H4.out rfl hlt HPG.out ⟨hbw.os, hbw.tape, hbw.output, hbw.size, hbw.block⟩ HTX.out HCH.out HGB.out HGP.out HA.out HNE.out hown5 hgrow5 hat5)
      clear hown5 hgrow5 hat5 hHeld
      go_wp2
      go_roundw
      case rel => exact ⟨k + 1, by as_aux_lemma => exact HG.out⟩
      case measure => simpa [intOf] using hmu
    · obtain rfl : k = 64 := by omega
      have hGA : ∃ g, GA = some ⟨g, 0, none⟩ := by
        rcases hrow.2 with ⟨hv, h0⟩ | ⟨g, cap, cur, hv, _⟩
        · omega
        · injection hv with e1 _ _; exact ⟨g, e1⟩
      obtain ⟨g, rfl⟩ := hGA
      have HF := Lib.hid (And.intro hpg (And.intro hrow (And.intro (hgb g rfl) (And.intro htx hch))))
      clear hpg hrow hgb htx hch
      go_wp2
      go_end0
      exact ⟨rfl, g, gc, HF.out.1, HF.out.2.1, HF.out.2.2.1, HF.out.2.2.2.1, HF.out.2.2.2.2⟩
end Go.Proofs.YtplocldnklccfaaGreatDoor
