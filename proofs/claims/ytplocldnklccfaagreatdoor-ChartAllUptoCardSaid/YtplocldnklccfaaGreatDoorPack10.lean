/- daybookkeep: a page of accounts shows what it ought to. Printed by gen_kashow.py; daybookkeep: the lists of accounts of a book: in memory, and one of them looked at. Printed by gen_katexts.py. -/
import Derived.Test.YtplocldnklccfaaGreatDoorPack8
import Derived.Test.YtplocldnklccfaaGreatDoorPack9
namespace Go.Proofs.YtplocldnklccfaaGreatDoor
theorem qa10 {T : Type} (l : List T) (i : Nat) (a : T) : l.toArray.setIfInBounds i a = (l.set i a).toArray := List.setIfInBounds_toArray l i a
theorem qb10 {T : Type} {x : T} {xs : List T} {a : T} : (x :: xs).set 0 a = a :: xs := List.set_cons_zero
theorem qc10 {T : Type} {x : T} {xs : List T} {i : Nat} {a : T} : (x :: xs).set (i + 1) a = x :: xs.set i a := List.set_cons_succ
theorem qd10 {T : Type} {xs : List T} {i : Nat} (h : i < xs.toArray.size) : xs.toArray[i] = xs[i]'(by simpa using h) := List.getElem_toArray h
theorem qe10 {T : Type} (a : T) (ys : List T) (i : Nat) (h : i + 1 < (a :: ys).length) : (a :: ys)[i + 1] = ys[i]'(by simpa using h) := List.getElem_cons_succ a ys i h
theorem qf10 {T : Type} (a : T) (ys : List T) (h : 0 < (a :: ys).length) : (a :: ys)[0] = a := List.getElem_cons_zero a ys h
open Go.RowKit
set_option linter.unusedVariables false
set_option linter.unusedSimpArgs false

/-- An account's four cells. -/
def E4 (w : World) (p : Addr) (a : Acct) : Prop := w.cell? p = some (.string a.name) ∧ w.cell? ⟨p.block, p.off + 1, none⟩ = some (.int .i64 a.typ) ∧ w.cell? ⟨p.block, p.off + 2, none⟩ = some (.int .i64 a.opened) ∧ w.cell? ⟨p.block, p.off + 3, none⟩ = some (.bool a.closed)
theorem E4.keep {w w' : World} {p : Addr} {a : Acct} (h : E4 w p a) (hb : w'.heap[p.block]? = w.heap[p.block]?) : E4 w' p a := by
  obtain ⟨h0, h1, h2, h3⟩ := h
  refine ⟨?_, ?_, ?_, ?_⟩
  · rw [← h0]; exact World.cell?_of_block hb
  · rw [← h1]; exact World.cell?_of_block (a := ⟨p.block, p.off + 1, none⟩) hb
  · rw [← h2]; exact World.cell?_of_block (a := ⟨p.block, p.off + 2, none⟩) hb
  · rw [← h3]; exact World.cell?_of_block (a := ⟨p.block, p.off + 3, none⟩) hb
/-- Accounts that can be read. -/
def AccN (w : World) (A : Option Addr) (xs : List Acct) : Prop := ∀ j (hj : j < xs.length), ∃ ad, A = some ad ∧ ad.block < w.heap.size ∧ E4 w (ad.add (j * 4)) xs[j]
theorem AccN.of_row {w : World} {R : Nat → Prop} {A : Option Addr} {n c : Nat} {xs : List Acct} (h : RowAt w R 4 (.slice A n c) (xs.map encA)) : AccN w A xs := by
  obtain ⟨A', c', hv, hx⟩ := h.ex
  injection hv with e1 _ _
  subst e1
  intro j hj
  obtain ⟨ad, e1, h1, _, h2⟩ := hx j (by simpa using hj)
  rw [List.getElem_map] at h2
  exact ⟨ad, e1, h1, by have := h2 0 (.string xs[j].name) rfl; rwa [Addr.add_zero'] at this, h2 1 (.int .i64 xs[j].typ) rfl, h2 2 (.int .i64 xs[j].opened) rfl, h2 3 (.bool xs[j].closed) rfl⟩
theorem e4_old {w w' : World} {ad : Addr} {j : Nat} {a : Acct} {o : Obj} (hc : E4 w (ad.add j) a) (hl : ad.block < w.heap.size) (hb : Below (w.alloc o).heap.size (w.alloc o) w') : E4 w' (ad.add j) a := by
  refine hc.keep ?_
  rw [block_add]
  exact (hb.block _ (by rw [World.size_alloc]; omega)).trans (Below.heap_alloc w o _ hl)

theorem id_range {id : Int} (h : 0 ≤ id ∧ id ≤ 1048576) : 0 ≤ id ∧ id ≤ 4194304 := by omega
theorem k_range (k : Nat) (h : k ≤ 4194304) : (0 : Int) ≤ (k : Int) ∧ (k : Int) ≤ 4194304 := by omega

set_option maxRecDepth 100000 in
set_option maxHeartbeats 4000000 in
theorem shows_keptA {w : World} {A B : Option Addr} {c d : Nat} {id : Int} {xs : List Acct} (hL : AccN w A xs) (hW : AccN w B xs) (hn : xs.length ≤ 1048576) :
    Calls Tryz.prog 177 #[.agg #[.slice A xs.length c, .slice none 0 0, .slice B xs.length d, .int .i64 id, .bool false]] w fun e w' => e = .returned (.bool true) ∧ Below w.heap.size w w' := by
  have HX := Lib.hid hL
  have HX' := Lib.hid hW
  clear hL hW
  go_enter Tryz.func177, Tryz.ntmps177
  go_wp2
  obtain ⟨wa, hwa⟩ : ∃ wa, wa = w.alloc (.cells #[.slice A xs.length c, .slice none 0 0, .slice B xs.length d, .int .i64 id, .bool false] 108) := ⟨_, rfl⟩
  have HWA := Lib.hid hwa
  rw [← hwa]
  clear hwa
  have HC := Lib.hid (fun W (hb : Below wa.heap.size wa W) => (show W.cell? ⟨w.heap.size, 0, none⟩ = some (.slice A xs.length c) ∧ W.cell? ⟨w.heap.size, 1, none⟩ = some (.slice none 0 0) ∧ W.cell? ⟨w.heap.size, 2, none⟩ = some (.slice B xs.length d) ∧ W.cell? ⟨w.heap.size, 3, none⟩ = some (.int .i64 id) ∧ W.cell? ⟨w.heap.size, 4, none⟩ = some (.bool false) from by rw [HWA.out] at hb; exact ⟨cell_box 0 hb, cell_box 1 hb, cell_box 2 hb, cell_box 3 hb, cell_box 4 hb⟩))
  go_loopw [4] (fun i wr => ∃ k : Nat, i = .int .i64 (k : Int) ∧ k ≤ xs.length ∧ Below wa.heap.size wa wr) (fun i _ => xs.length - (intOf i).toNat)
  case atStart => exact ⟨0, rfl, Nat.zero_le _, Below.refl _ _⟩
  case round =>
    obtain ⟨k, rfl, hk, hbr⟩ := hrel
    by_cases hlt : k < xs.length
    · obtain ⟨ad, rfl, hl, hc⟩ := HX.out k hlt
      have hmu := meas_up xs.length k hlt
      have hwk := wrap_up k (by omega)
      have HE := Lib.hid (fun W (hb : Below wa.heap.size wa W) => (show E4 W (ad.add (k * 4)) xs[k] from by rw [HWA.out] at hb; exact e4_old hc hl hb))
      obtain ⟨ad', rfl, hl', hc'⟩ := HX'.out k hlt
      have HE' := Lib.hid (fun W (hb : Below wa.heap.size wa W) => (show E4 W (ad'.add (k * 4)) xs[k] from by rw [HWA.out] at hb; exact e4_old hc' hl' hb))
      obtain ⟨r, hr⟩ : ∃ r, r = xs[k] := ⟨_, rfl⟩
      rw [← hr] at HE HE'
      obtain ⟨c0, c1, c2, c3, c4⟩ := HC.out wr hbr
      clear hr hc hc' hl hl'
      have hbw : Below wa.heap.size wa wr.drew := hbr.drew
      have HUP := Lib.hid (fun W (hb : Below wr.drew.heap.size wr.drew W) => (show Below wa.heap.size wa W from hbw.trans (hb.mono hbw.size)))
      have HS := Lib.hid (fun W (hb : Below wr.drew.heap.size wr.drew W) => (show W.cell? ⟨w.heap.size, 0, none⟩ = some (.slice (some ad) xs.length c) ∧ W.cell? ⟨w.heap.size, 2, none⟩ = some (.slice (some ad') xs.length d) ∧ W.cell? ⟨w.heap.size, 4, none⟩ = some (.bool false) ∧ W.cell? (ad.add (k * 4)) = some (.string r.name) ∧ W.cell? ⟨(ad.add (k * 4)).block, (ad.add (k * 4)).off + 1, none⟩ = some (.int .i64 r.typ) ∧ W.cell? ⟨(ad.add (k * 4)).block, (ad.add (k * 4)).off + 2, none⟩ = some (.int .i64 r.opened) ∧ W.cell? ⟨(ad.add (k * 4)).block, (ad.add (k * 4)).off + 3, none⟩ = some (.bool r.closed) ∧ W.cell? (ad'.add (k * 4)) = some (.string r.name) ∧ W.cell? ⟨(ad'.add (k * 4)).block, (ad'.add (k * 4)).off + 1, none⟩ = some (.int .i64 r.typ) ∧ W.cell? ⟨(ad'.add (k * 4)).block, (ad'.add (k * 4)).off + 2, none⟩ = some (.int .i64 r.opened) ∧ W.cell? ⟨(ad'.add (k * 4)).block, (ad'.add (k * 4)).off + 3, none⟩ = some (.bool r.closed) from by
        obtain ⟨c0, c1, c2, c3, c4⟩ := HC.out W (HUP.out W hb)
        obtain ⟨x0, x1, x2, x3⟩ := HE.out W (HUP.out W hb)
        obtain ⟨y0, y1, y2, y3⟩ := HE'.out W (HUP.out W hb)
        exact ⟨c0, c2, c4, x0, x1, x2, x3, y0, y1, y2, y3⟩))
      have hHeld := HS.out wr.drew (Below.refl _ _)
      have hb0 : Below wr.drew.heap.size wr.drew wr.drew := Below.refl _ _
      go_wp2
      clear c0 c1 c2 c3 c4
      refine wp_region_n (n := 17) (S := fun w' => w'.cell? ⟨w.heap.size, 0, none⟩ = some (.slice (some ad) xs.length c) ∧ w'.cell? ⟨w.heap.size, 2, none⟩ = some (.slice (some ad') xs.length d) ∧ w'.cell? ⟨w.heap.size, 4, none⟩ = some (.bool false) ∧ w'.cell? (ad.add (k * 4)) = some (.string r.name) ∧ w'.cell? ⟨(ad.add (k * 4)).block, (ad.add (k * 4)).off + 1, none⟩ = some (.int .i64 r.typ) ∧ w'.cell? ⟨(ad.add (k * 4)).block, (ad.add (k * 4)).off + 2, none⟩ = some (.int .i64 r.opened) ∧ w'.cell? ⟨(ad.add (k * 4)).block, (ad.add (k * 4)).off + 3, none⟩ = some (.bool r.closed) ∧ w'.cell? (ad'.add (k * 4)) = some (.string r.name) ∧ w'.cell? ⟨(ad'.add (k * 4)).block, (ad'.add (k * 4)).off + 1, none⟩ = some (.int .i64 r.typ) ∧ w'.cell? ⟨(ad'.add (k * 4)).block, (ad'.add (k * 4)).off + 2, none⟩ = some (.int .i64 r.opened) ∧ w'.cell? ⟨(ad'.add (k * 4)).block, (ad'.add (k * 4)).off + 3, none⟩ = some (.bool r.closed)) (by kernel_rfl) ?_
      refine wpAnyN_take (i := 0) (v := ?_) rfl (by kernel_rfl) (by kernel_rfl) (by kernel_rfl) (by kernel_rfl) (fun _ _ _ h => h) (Or.inl ⟨by kernel_rfl, ?y52⟩) hHeld ?_
      case y52 =>
        intro w0 hSw
        (try dsimp only at hSw)
        go_simp
        try with_reducible rfl
      try simp only [Act.put, qa10, qb10, qc10, qd10, qe10, qf10]
      refine wpAnyN_take (i := 1) (v := ?_) rfl (by kernel_rfl) (by kernel_rfl) (by kernel_rfl) (by kernel_rfl) (fun _ _ _ h => h) (Or.inl ⟨by kernel_rfl, ?y53⟩) hHeld ?_
      case y53 =>
        intro w0 hSw
        (try dsimp only at hSw)
        go_simp
        try with_reducible rfl
      try simp only [Act.put, qa10, qb10, qc10, qd10, qe10, qf10]
      refine wpAnyN_take (i := 2) (v := ?_) rfl (by kernel_rfl) (by kernel_rfl) (by kernel_rfl) (by kernel_rfl) (fun _ _ _ h => h) (Or.inl ⟨by kernel_rfl, ?y54⟩) hHeld ?_
      case y54 =>
        intro w0 hSw
        (try dsimp only at hSw)
        go_simp
        try with_reducible rfl
      try simp only [Act.put, qa10, qb10, qc10, qd10, qe10, qf10]
      refine wpAnyN_take (i := 3) (v := ?_) rfl (by kernel_rfl) (by kernel_rfl) (by kernel_rfl) (by kernel_rfl) (fun _ _ _ h => h) (Or.inl ⟨by kernel_rfl, ?y55⟩) hHeld ?_
      case y55 =>
        intro w0 hSw
        (try dsimp only at hSw)
        go_simp
        try with_reducible rfl
      try simp only [Act.put, qa10, qb10, qc10, qd10, qe10, qf10]
      refine wpAnyN_take (i := 4) (v := ?_) rfl (by kernel_rfl) (by kernel_rfl) (by kernel_rfl) (by kernel_rfl) (fun _ _ _ h => h) (Or.inl ⟨by kernel_rfl, ?y56⟩) hHeld ?_
      case y56 =>
        intro w0 hSw
        (try dsimp only at hSw)
        go_simp
        try with_reducible rfl
      try simp only [Act.put, qa10, qb10, qc10, qd10, qe10, qf10]
      refine wpAnyN_take (i := 5) (v := ?_) rfl (by kernel_rfl) (by kernel_rfl) (by kernel_rfl) (by kernel_rfl) (fun _ _ _ h => h) (Or.inl ⟨by kernel_rfl, ?y57⟩) hHeld ?_
      case y57 =>
        intro w0 hSw
        (try dsimp only at hSw)
        go_simp
        try with_reducible rfl
      try simp only [Act.put, qa10, qb10, qc10, qd10, qe10, qf10]
      refine wpAnyN_take (i := 6) (v := ?_) rfl (by kernel_rfl) (by kernel_rfl) (by kernel_rfl) (by kernel_rfl) (fun _ _ _ h => h) (Or.inl ⟨by kernel_rfl, ?y58⟩) hHeld ?_
      case y58 =>
        intro w0 hSw
        (try dsimp only at hSw)
        go_simp
        try with_reducible rfl
      try simp only [Act.put, qa10, qb10, qc10, qd10, qe10, qf10]
      refine wpAnyN_take (i := 7) (v := ?_) rfl (by kernel_rfl) (by kernel_rfl) (by kernel_rfl) (by kernel_rfl) (fun _ _ _ h => h) (Or.inl ⟨by kernel_rfl, ?y59⟩) hHeld ?_
      case y59 =>
        intro w0 hSw
        (try dsimp only at hSw)
        go_simp
        try with_reducible rfl
      try simp only [Act.put, qa10, qb10, qc10, qd10, qe10, qf10]
      refine wpAnyN_take (i := 8) (v := ?_) rfl (by kernel_rfl) (by kernel_rfl) (by kernel_rfl) (by kernel_rfl) (fun _ _ _ h => h) (Or.inl ⟨by kernel_rfl, ?y60⟩) hHeld ?_
      case y60 =>
        intro w0 hSw
        (try dsimp only at hSw)
        go_simp
        try with_reducible rfl
      try simp only [Act.put, qa10, qb10, qc10, qd10, qe10, qf10]
      refine wpAnyN_take (i := 9) (v := ?_) rfl (by kernel_rfl) (by kernel_rfl) (by kernel_rfl) (by kernel_rfl) (fun _ _ _ h => h) (Or.inl ⟨by kernel_rfl, ?y61⟩) hHeld ?_
      case y61 =>
        intro w0 hSw
        (try dsimp only at hSw)
        go_simp
        try with_reducible rfl
      try simp only [Act.put, qa10, qb10, qc10, qd10, qe10, qf10]
      refine wpAnyN_take (i := 10) (v := ?_) rfl (by kernel_rfl) (by kernel_rfl) (by kernel_rfl) (by kernel_rfl) (fun _ _ _ h => h) (Or.inl ⟨by kernel_rfl, ?y62⟩) hHeld ?_
      case y62 =>
        intro w0 hSw
        (try dsimp only at hSw)
        go_simp
        try with_reducible rfl
      try simp only [Act.put, qa10, qb10, qc10, qd10, qe10, qf10]
      refine wpAnyN_take (i := 11) (v := ?_) rfl (by kernel_rfl) (by kernel_rfl) (by kernel_rfl) (by kernel_rfl) (fun _ _ _ h => h) (Or.inl ⟨by kernel_rfl, ?y63⟩) hHeld ?_
      case y63 =>
        intro w0 hSw
        (try dsimp only at hSw)
        go_simp
        try with_reducible rfl
      try simp only [Act.put, qa10, qb10, qc10, qd10, qe10, qf10]
      refine wpAnyN_take (i := 12) (v := ?_) rfl (by kernel_rfl) (by kernel_rfl) (by kernel_rfl) (by kernel_rfl) (fun _ _ _ h => h) (Or.inl ⟨by kernel_rfl, ?y64⟩) hHeld ?_
      case y64 =>
        intro w0 hSw
        (try dsimp only at hSw)
        go_simp
        try with_reducible rfl
      try simp only [Act.put, qa10, qb10, qc10, qd10, qe10, qf10]
      refine wpAnyN_take (i := 13) (v := ?_) rfl (by kernel_rfl) (by kernel_rfl) (by kernel_rfl) (by kernel_rfl) (fun _ _ _ h => h) (Or.inl ⟨by kernel_rfl, ?y65⟩) hHeld ?_
      case y65 =>
        intro w0 hSw
        (try dsimp only at hSw)
        go_simp
        try with_reducible rfl
      try simp only [Act.put, qa10, qb10, qc10, qd10, qe10, qf10]
      refine wpAnyN_step (i := 14) (by kernel_rfl) rfl (fun K hK => ?_)
      go_simp
      go_at_call 212
      refine (sameAcc_any _ r).mono ?_
      rintro en wn ⟨rfl, hwn⟩
      have hHeld := HS.out wn (hb0.trans (hwn.mono hb0.size))
      go_wp2_with fail
      refine hK.out _ _ (fun _ => hHeld) ?_
      clear hK K
      try simp only [Act.put, qa10, qb10, qc10, qd10, qe10, qf10]
      refine wpAnyN_take (i := 15) (v := ?_) rfl (by kernel_rfl) (by kernel_rfl) (by kernel_rfl) (by kernel_rfl) (fun _ _ _ h => h) (Or.inl ⟨by kernel_rfl, ?y66⟩) hHeld ?_
      case y66 =>
        intro w0 hSw
        (try dsimp only at hSw)
        go_simp
        try with_reducible rfl
      try simp only [Act.put, qa10, qb10, qc10, qd10, qe10, qf10]
      refine wpAnyN_take (i := 16) (v := ?_) rfl (by kernel_rfl) (by kernel_rfl) (by kernel_rfl) (by kernel_rfl) (fun _ _ _ h => h) (Or.inl ⟨by kernel_rfl, ?y67⟩) hHeld ?_
      case y67 =>
        intro w0 hSw
        (try dsimp only at hSw)
        go_simp
        try with_reducible rfl
      try simp only [Act.put, qa10, qb10, qc10, qd10, qe10, qf10]
      refine wpAnyN_done (by kernel_rfl) ?_ _
      have hbz := HUP.out _ hwn
      obtain ⟨d0, d1, d2, d3, d4⟩ := HC.out wn hbz
      go_wp2
      go_quiet (fail)
      go_wp2
      go_roundw
      case rel => exact ⟨k + 1, by go_num, by omega, by repeat (first | exact hbz | refine below_drewN ?_ _)⟩
      case measure => simpa [intOf] using hmu
    · obtain rfl : k = xs.length := by omega
      obtain ⟨c0, c1, c2, c3, c4⟩ := HC.out wr hbr
      go_wp2
      obtain ⟨w8, h8⟩ : ∃ w8, w8 = wr := ⟨_, rfl⟩
      subst h8
      go_loopw [5] (fun i wr => i = .int .i64 (xs.length : Int) ∧ Below wa.heap.size wa wr) (fun _ _ => 0)
      case atStart => exact ⟨rfl, hbr⟩
      case round =>
        obtain ⟨rfl, hbr⟩ := hrel
        obtain ⟨c0, c1, c2, c3, c4⟩ := HC.out wr hbr
        have hnn : ¬ ((xs.length : Int) < 0) := by omega
        go_wp2
        go_ret
        exact ⟨rfl, box_below (by rw [HWA.out] at hbr; repeat (first | exact hbr | refine below_drewN ?_ _))⟩


set_option maxRecDepth 100000 in
set_option maxHeartbeats 4000000 in
theorem shows_filledA {w : World} {A : Option Addr} {V : Value} {c : Nat} {id : Int} {xs : List Acct} (hL : AccN w A xs) (hxs : ∀ j (hj : j < xs.length), xs[j] = markA id (j : Int)) (hn : xs.length ≤ 1048576) (hid : 0 ≤ id ∧ id ≤ 1048576) (hp : Pow w) :
    Calls Tryz.prog 177 #[.agg #[.slice A xs.length c, .slice none 0 0, V, .int .i64 id, .bool true]] w fun e w' => e = .returned (.bool true) ∧ Below w.heap.size w w' := by
  have HX := Lib.hid hL
  have HP := Lib.hid hp
  have HXS := Lib.hid hxs
  clear hL hp hxs
  go_enter Tryz.func177, Tryz.ntmps177
  go_wp2
  obtain ⟨wa, hwa⟩ : ∃ wa, wa = w.alloc (.cells #[.slice A xs.length c, .slice none 0 0, V, .int .i64 id, .bool true] 108) := ⟨_, rfl⟩
  have HWA := Lib.hid hwa
  rw [← hwa]
  clear hwa
  have HC := Lib.hid (fun W (hb : Below wa.heap.size wa W) => (show W.cell? ⟨w.heap.size, 0, none⟩ = some (.slice A xs.length c) ∧ W.cell? ⟨w.heap.size, 1, none⟩ = some (.slice none 0 0) ∧ W.cell? ⟨w.heap.size, 2, none⟩ = some (V) ∧ W.cell? ⟨w.heap.size, 3, none⟩ = some (.int .i64 id) ∧ W.cell? ⟨w.heap.size, 4, none⟩ = some (.bool true) from by rw [HWA.out] at hb; exact ⟨cell_box 0 hb, cell_box 1 hb, cell_box 2 hb, cell_box 3 hb, cell_box 4 hb⟩))
  go_loopw [4] (fun i wr => ∃ k : Nat, i = .int .i64 (k : Int) ∧ k ≤ xs.length ∧ Below wa.heap.size wa wr) (fun i _ => xs.length - (intOf i).toNat)
  case atStart => exact ⟨0, rfl, Nat.zero_le _, Below.refl _ _⟩
  case round =>
    obtain ⟨k, rfl, hk, hbr⟩ := hrel
    by_cases hlt : k < xs.length
    · obtain ⟨ad, rfl, hl, hc⟩ := HX.out k hlt
      have hmu := meas_up xs.length k hlt
      have hwk := wrap_up k (by omega)
      have HE := Lib.hid (fun W (hb : Below wa.heap.size wa W) => (show E4 W (ad.add (k * 4)) xs[k] from by rw [HWA.out] at hb; exact e4_old hc hl hb))
      simp only [HXS.out k hlt] at HE
      obtain ⟨c0, c1, c2, c3, c4⟩ := HC.out wr hbr
      clear hc hl
      go_wp2
      go_quiet (fail)
      go_wp2
      obtain ⟨wq, hwq⟩ : ∃ wq, wq = wr.drewN nq := ⟨_, rfl⟩
      rw [← hwq]
      have hbq : Below wa.heap.size wa wq := by rw [hwq]; exact below_drewN hbr _
      clear hwq c0 c1 c2 c3 c4 hbr
      have HP2 := Lib.hid (fun W (hb : Below wq.drew.heap.size wq.drew W) => (show Pow W from (HP.out.below (box_below (by rw [← HWA.out]; exact hbq.trans (show Below wa.heap.size wq W from ⟨hb.os, hb.tape, hb.output, hb.size, fun q hq => hb.block q (Nat.lt_of_lt_of_le hq hbq.size)⟩))))))
      have HUP := Lib.hid (fun W (hb : Below wq.drew.heap.size wq.drew W) => (show Below wa.heap.size wa W from hbq.trans ⟨hb.os, hb.tape, hb.output, hb.size, fun q hq => hb.block q (Nat.lt_of_lt_of_le hq hbq.size)⟩))
      have HS := Lib.hid (fun W (hb : Below wq.drew.heap.size wq.drew W) => (show W.cell? ⟨w.heap.size, 0, none⟩ = some (.slice (some ad) xs.length c) ∧ W.cell? ⟨w.heap.size, 1, none⟩ = some (.slice none 0 0) ∧ W.cell? ⟨w.heap.size, 3, none⟩ = some (.int .i64 id) ∧ W.cell? ⟨w.heap.size, 4, none⟩ = some (.bool true) ∧ W.cell? (ad.add (k * 4)) = some (.string (markA id (k : Int)).name) ∧ W.cell? ⟨(ad.add (k * 4)).block, (ad.add (k * 4)).off + 1, none⟩ = some (.int .i64 (markA id (k : Int)).typ) ∧ W.cell? ⟨(ad.add (k * 4)).block, (ad.add (k * 4)).off + 2, none⟩ = some (.int .i64 (markA id (k : Int)).opened) ∧ W.cell? ⟨(ad.add (k * 4)).block, (ad.add (k * 4)).off + 3, none⟩ = some (.bool (markA id (k : Int)).closed) from by
        obtain ⟨c0, c1, c2, c3, c4⟩ := HC.out W (HUP.out W hb)
        obtain ⟨x0, x1, x2, x3⟩ := HE.out _ (HUP.out W hb)
        exact ⟨c0, c1, c3, c4, x0, x1, x2, x3⟩))
      have hHeld := HS.out wq.drew (Below.refl _ _)
      have hmk := markAcc_any wq.drew (HP2.out _ (Below.refl _ _)) id (k : Int) (id_range hid) (k_range k (by omega))
      unfold accV at hmk
      refine wp_region_n (n := 34) (S := fun w' => w'.cell? ⟨w.heap.size, 0, none⟩ = some (.slice (some ad) xs.length c) ∧ w'.cell? ⟨w.heap.size, 1, none⟩ = some (.slice none 0 0) ∧ w'.cell? ⟨w.heap.size, 3, none⟩ = some (.int .i64 id) ∧ w'.cell? ⟨w.heap.size, 4, none⟩ = some (.bool true) ∧ w'.cell? (ad.add (k * 4)) = some (.string (markA id (k : Int)).name) ∧ w'.cell? ⟨(ad.add (k * 4)).block, (ad.add (k * 4)).off + 1, none⟩ = some (.int .i64 (markA id (k : Int)).typ) ∧ w'.cell? ⟨(ad.add (k * 4)).block, (ad.add (k * 4)).off + 2, none⟩ = some (.int .i64 (markA id (k : Int)).opened) ∧ w'.cell? ⟨(ad.add (k * 4)).block, (ad.add (k * 4)).off + 3, none⟩ = some (.bool (markA id (k : Int)).closed)) (by kernel_rfl) ?_
      refine wpAnyN_take (i := 0) (v := ?_) rfl (by kernel_rfl) (by kernel_rfl) (by kernel_rfl) (by kernel_rfl) (fun _ _ _ h => h) (Or.inl ⟨by kernel_rfl, ?y1⟩) hHeld ?_
      case y1 =>
        intro w0 hSw
        (try dsimp only at hSw)
        go_simp
        try with_reducible rfl
      try simp only [Act.put, qa10, qb10, qc10, qd10, qe10, qf10]
      refine wpAnyN_take (i := 1) (v := ?_) rfl (by kernel_rfl) (by kernel_rfl) (by kernel_rfl) (by kernel_rfl) (fun _ _ _ h => h) (Or.inl ⟨by kernel_rfl, ?y2⟩) hHeld ?_
      case y2 =>
        intro w0 hSw
        (try dsimp only at hSw)
        go_simp
        try with_reducible rfl
      try simp only [Act.put, qa10, qb10, qc10, qd10, qe10, qf10]
      refine wpAnyN_take (i := 2) (v := ?_) rfl (by kernel_rfl) (by kernel_rfl) (by kernel_rfl) (by kernel_rfl) (fun _ _ _ h => h) (Or.inl ⟨by kernel_rfl, ?y3⟩) hHeld ?_
      case y3 =>
        intro w0 hSw
        (try dsimp only at hSw)
        go_simp
        try with_reducible rfl
      try simp only [Act.put, qa10, qb10, qc10, qd10, qe10, qf10]
      refine wpAnyN_take (i := 3) (v := ?_) rfl (by kernel_rfl) (by kernel_rfl) (by kernel_rfl) (by kernel_rfl) (fun _ _ _ h => h) (Or.inl ⟨by kernel_rfl, ?y4⟩) hHeld ?_
      case y4 =>
        intro w0 hSw
        (try dsimp only at hSw)
        go_simp
        try with_reducible rfl
      try simp only [Act.put, qa10, qb10, qc10, qd10, qe10, qf10]
      refine wpAnyN_take (i := 4) (v := ?_) rfl (by kernel_rfl) (by kernel_rfl) (by kernel_rfl) (by kernel_rfl) (fun _ _ _ h => h) (Or.inl ⟨by kernel_rfl, ?y5⟩) hHeld ?_
      case y5 =>
        intro w0 hSw
        (try dsimp only at hSw)
        go_simp
        try with_reducible rfl
      try simp only [Act.put, qa10, qb10, qc10, qd10, qe10, qf10]
      refine wpAnyN_take (i := 5) (v := ?_) rfl (by kernel_rfl) (by kernel_rfl) (by kernel_rfl) (by kernel_rfl) (fun _ _ _ h => h) (Or.inl ⟨by kernel_rfl, ?y6⟩) hHeld ?_
      case y6 =>
        intro w0 hSw
        (try dsimp only at hSw)
        go_simp
        try with_reducible rfl
      try simp only [Act.put, qa10, qb10, qc10, qd10, qe10, qf10]
      refine wpAnyN_take (i := 6) (v := ?_) rfl (by kernel_rfl) (by kernel_rfl) (by kernel_rfl) (by kernel_rfl) (fun _ _ _ h => h) (Or.inl ⟨by kernel_rfl, ?y7⟩) hHeld ?_
      case y7 =>
        intro w0 hSw
        (try dsimp only at hSw)
        go_simp
        try with_reducible rfl
      try simp only [Act.put, qa10, qb10, qc10, qd10, qe10, qf10]
      refine wpAnyN_take (i := 7) (v := ?_) rfl (by kernel_rfl) (by kernel_rfl) (by kernel_rfl) (by kernel_rfl) (fun _ _ _ h => h) (Or.inl ⟨by kernel_rfl, ?y8⟩) hHeld ?_
      case y8 =>
        intro w0 hSw
        (try dsimp only at hSw)
        go_simp
        try with_reducible rfl
      try simp only [Act.put, qa10, qb10, qc10, qd10, qe10, qf10]
      refine wpAnyN_take (i := 8) (v := ?_) rfl (by kernel_rfl) (by kernel_rfl) (by kernel_rfl) (by kernel_rfl) (fun _ _ _ h => h) (Or.inl ⟨by kernel_rfl, ?y9⟩) hHeld ?_
      case y9 =>
        intro w0 hSw
        (try dsimp only at hSw)
        go_simp
        try with_reducible rfl
      try simp only [Act.put, qa10, qb10, qc10, qd10, qe10, qf10]
      refine wpAnyN_take (i := 9) (v := ?_) rfl (by kernel_rfl) (by kernel_rfl) (by kernel_rfl) (by kernel_rfl) (fun _ _ _ h => h) (Or.inl ⟨by kernel_rfl, ?y10⟩) hHeld ?_
      case y10 =>
        intro w0 hSw
        (try dsimp only at hSw)
        go_simp
        try with_reducible rfl
      try simp only [Act.put, qa10, qb10, qc10, qd10, qe10, qf10]
      refine wpAnyN_take (i := 10) (v := ?_) rfl (by kernel_rfl) (by kernel_rfl) (by kernel_rfl) (by kernel_rfl) (fun _ _ _ h => h) (Or.inl ⟨by kernel_rfl, ?y11⟩) hHeld ?_
      case y11 =>
        intro w0 hSw
        (try dsimp only at hSw)
        go_simp
        try with_reducible rfl
      try simp only [Act.put, qa10, qb10, qc10, qd10, qe10, qf10]
      refine wpAnyN_step (i := 11) (by kernel_rfl) rfl (fun K hK => ?_)
      go_simp
      go_at_call 196
      refine (hmk).mono ?_
      rintro en wx ⟨rfl, hbx⟩
      have hHeld := HS.out wx (hbx)
      clear hmk
      go_wp2_with fail
      refine hK.out _ _ (fun _ => hHeld) ?_
      clear hK K
      try simp only [Act.put, qa10, qb10, qc10, qd10, qe10, qf10]
      refine wpAnyN_step (i := 12) (by kernel_rfl) rfl (fun K hK => ?_)
      go_simp
      go_at_call 212
      refine (sameAcc_any _ (markA id (k : Int))).mono ?_
      rintro en wn ⟨rfl, hwn⟩
      have hHeld := HS.out wn (hbx.trans (hwn.mono hbx.size))
      go_wp2_with fail
      refine hK.out _ _ (fun _ => hHeld) ?_
      clear hK K
      try simp only [Act.put, qa10, qb10, qc10, qd10, qe10, qf10]
      refine wpAnyN_take (i := 13) (v := ?_) rfl (by kernel_rfl) (by kernel_rfl) (by kernel_rfl) (by kernel_rfl) (fun _ _ _ h => h) (Or.inl ⟨by kernel_rfl, ?y12⟩) hHeld ?_
      case y12 =>
        intro w0 hSw
        (try dsimp only at hSw)
        go_simp
        try with_reducible rfl
      try simp only [Act.put, qa10, qb10, qc10, qd10, qe10, qf10]
      refine wpAnyN_take (i := 14) (v := ?_) rfl (by kernel_rfl) (by kernel_rfl) (by kernel_rfl) (by kernel_rfl) (fun _ _ _ h => h) (Or.inl ⟨by kernel_rfl, ?y13⟩) hHeld ?_
      case y13 =>
        intro w0 hSw
        (try dsimp only at hSw)
        go_simp
        try with_reducible rfl
      try simp only [Act.put, qa10, qb10, qc10, qd10, qe10, qf10]
      refine wpAnyN_take (i := 15) (v := ?_) rfl (by kernel_rfl) (by kernel_rfl) (by kernel_rfl) (by kernel_rfl) (fun _ _ _ h => h) (Or.inl ⟨by kernel_rfl, ?y14⟩) hHeld ?_
      case y14 =>
        intro w0 hSw
        (try dsimp only at hSw)
        go_simp
        try with_reducible rfl
      try simp only [Act.put, qa10, qb10, qc10, qd10, qe10, qf10]
      refine wpAnyN_take (i := 16) (v := ?_) rfl (by kernel_rfl) (by kernel_rfl) (by kernel_rfl) (by kernel_rfl) (fun _ _ _ h => h) (Or.inl ⟨by kernel_rfl, ?y15⟩) hHeld ?_
      case y15 =>
        intro w0 hSw
        (try dsimp only at hSw)
        go_simp
        try with_reducible rfl
      try simp only [Act.put, qa10, qb10, qc10, qd10, qe10, qf10]
      refine wpAnyN_take (i := 17) (v := ?_) rfl (by kernel_rfl) (by kernel_rfl) (by kernel_rfl) (by kernel_rfl) (fun _ _ _ h => h) (Or.inl ⟨by kernel_rfl, ?y16⟩) hHeld ?_
      case y16 =>
        intro w0 hSw
        (try dsimp only at hSw)
        go_simp
        try with_reducible rfl
      try simp only [Act.put, qa10, qb10, qc10, qd10, qe10, qf10]
      refine wpAnyN_take (i := 18) (v := ?_) rfl (by kernel_rfl) (by kernel_rfl) (by kernel_rfl) (by kernel_rfl) (fun _ _ _ h => h) (Or.inl ⟨by kernel_rfl, ?y17⟩) hHeld ?_
      case y17 =>
        intro w0 hSw
        (try dsimp only at hSw)
        go_simp
        try with_reducible rfl
      try simp only [Act.put, qa10, qb10, qc10, qd10, qe10, qf10]
      refine wpAnyN_take (i := 19) (v := ?_) rfl (by kernel_rfl) (by kernel_rfl) (by kernel_rfl) (by kernel_rfl) (fun _ _ _ h => h) (Or.inl ⟨by kernel_rfl, ?y18⟩) hHeld ?_
      case y18 =>
        intro w0 hSw
        (try dsimp only at hSw)
        go_simp
        try with_reducible rfl
      try simp only [Act.put, qa10, qb10, qc10, qd10, qe10, qf10]
      refine wpAnyN_take (i := 20) (v := undef) rfl (by kernel_rfl) (by kernel_rfl) (by kernel_rfl) (by kernel_rfl) (fun _ _ _ h => h) (Or.inr ⟨by kernel_rfl, rfl⟩) hHeld ?_
      try simp only [Act.put, qa10, qb10, qc10, qd10, qe10, qf10]
      refine wpAnyN_take (i := 21) (v := undef) rfl (by kernel_rfl) (by kernel_rfl) (by kernel_rfl) (by kernel_rfl) (fun _ _ _ h => h) (Or.inr ⟨by kernel_rfl, rfl⟩) hHeld ?_
      try simp only [Act.put, qa10, qb10, qc10, qd10, qe10, qf10]
      refine wpAnyN_take (i := 22) (v := undef) rfl (by kernel_rfl) (by kernel_rfl) (by kernel_rfl) (by kernel_rfl) (fun _ _ _ h => h) (Or.inr ⟨by kernel_rfl, rfl⟩) hHeld ?_
      try simp only [Act.put, qa10, qb10, qc10, qd10, qe10, qf10]
      refine wpAnyN_take (i := 23) (v := undef) rfl (by kernel_rfl) (by kernel_rfl) (by kernel_rfl) (by kernel_rfl) (fun _ _ _ h => h) (Or.inr ⟨by kernel_rfl, rfl⟩) hHeld ?_
      try simp only [Act.put, qa10, qb10, qc10, qd10, qe10, qf10]
      refine wpAnyN_take (i := 24) (v := undef) rfl (by kernel_rfl) (by kernel_rfl) (by kernel_rfl) (by kernel_rfl) (fun _ _ _ h => h) (Or.inr ⟨by kernel_rfl, rfl⟩) hHeld ?_
      try simp only [Act.put, qa10, qb10, qc10, qd10, qe10, qf10]
      refine wpAnyN_take (i := 25) (v := undef) rfl (by kernel_rfl) (by kernel_rfl) (by kernel_rfl) (by kernel_rfl) (fun _ _ _ h => h) (Or.inr ⟨by kernel_rfl, rfl⟩) hHeld ?_
      try simp only [Act.put, qa10, qb10, qc10, qd10, qe10, qf10]
      refine wpAnyN_take (i := 26) (v := undef) rfl (by kernel_rfl) (by kernel_rfl) (by kernel_rfl) (by kernel_rfl) (fun _ _ _ h => h) (Or.inr ⟨by kernel_rfl, rfl⟩) hHeld ?_
      try simp only [Act.put, qa10, qb10, qc10, qd10, qe10, qf10]
      refine wpAnyN_take (i := 27) (v := undef) rfl (by kernel_rfl) (by kernel_rfl) (by kernel_rfl) (by kernel_rfl) (fun _ _ _ h => h) (Or.inr ⟨by kernel_rfl, rfl⟩) hHeld ?_
      try simp only [Act.put, qa10, qb10, qc10, qd10, qe10, qf10]
      refine wpAnyN_take (i := 28) (v := undef) rfl (by kernel_rfl) (by kernel_rfl) (by kernel_rfl) (by kernel_rfl) (fun _ _ _ h => h) (Or.inr ⟨by kernel_rfl, rfl⟩) hHeld ?_
      try simp only [Act.put, qa10, qb10, qc10, qd10, qe10, qf10]
      refine wpAnyN_take (i := 29) (v := undef) rfl (by kernel_rfl) (by kernel_rfl) (by kernel_rfl) (by kernel_rfl) (fun _ _ _ h => h) (Or.inr ⟨by kernel_rfl, rfl⟩) hHeld ?_
      try simp only [Act.put, qa10, qb10, qc10, qd10, qe10, qf10]
      refine wpAnyN_take (i := 30) (v := undef) rfl (by kernel_rfl) (by kernel_rfl) (by kernel_rfl) (by kernel_rfl) (fun _ _ _ h => h) (Or.inr ⟨by kernel_rfl, rfl⟩) hHeld ?_
      try simp only [Act.put, qa10, qb10, qc10, qd10, qe10, qf10]
      refine wpAnyN_take (i := 31) (v := ?_) rfl (by kernel_rfl) (by kernel_rfl) (by kernel_rfl) (by kernel_rfl) (fun _ _ _ h => h) (Or.inl ⟨by kernel_rfl, ?y19⟩) hHeld ?_
      case y19 =>
        intro w0 hSw
        (try dsimp only at hSw)
        go_simp
        try with_reducible rfl
      try simp only [Act.put, qa10, qb10, qc10, qd10, qe10, qf10]
      refine wpAnyN_take (i := 32) (v := ?_) rfl (by kernel_rfl) (by kernel_rfl) (by kernel_rfl) (by kernel_rfl) (fun _ _ _ h => h) (Or.inl ⟨by kernel_rfl, ?y20⟩) hHeld ?_
      case y20 =>
        intro w0 hSw
        (try dsimp only at hSw)
        go_simp
        try with_reducible rfl
      try simp only [Act.put, qa10, qb10, qc10, qd10, qe10, qf10]
      refine wpAnyN_take (i := 33) (v := ?_) rfl (by kernel_rfl) (by kernel_rfl) (by kernel_rfl) (by kernel_rfl) (fun _ _ _ h => h) (Or.inl ⟨by kernel_rfl, ?y21⟩) hHeld ?_
      case y21 =>
        intro w0 hSw
        (try dsimp only at hSw)
        go_simp
        try with_reducible rfl
      try simp only [Act.put, qa10, qb10, qc10, qd10, qe10, qf10]
      refine wpAnyN_done (by kernel_rfl) ?_ _
      have hbz := HUP.out _ (hbx.trans (hwn.mono hbx.size))
      go_wp2
      go_roundw
      case rel => exact ⟨k + 1, by go_num, by omega, by repeat (first | exact hbz | refine below_drewN ?_ _)⟩
      case measure => simpa [intOf] using hmu
    · obtain rfl : k = xs.length := by omega
      obtain ⟨c0, c1, c2, c3, c4⟩ := HC.out wr hbr
      go_wp2
      obtain ⟨w8, h8⟩ : ∃ w8, w8 = wr := ⟨_, rfl⟩
      subst h8
      go_loopw [5] (fun i wr => i = .int .i64 (xs.length : Int) ∧ Below wa.heap.size wa wr) (fun _ _ => 0)
      case atStart => exact ⟨rfl, hbr⟩
      case round =>
        obtain ⟨rfl, hbr⟩ := hrel
        obtain ⟨c0, c1, c2, c3, c4⟩ := HC.out wr hbr
        have hnn : ¬ ((xs.length : Int) < 0) := by omega
        go_wp2
        go_ret
        exact ⟨rfl, box_below (by rw [HWA.out] at hbr; repeat (first | exact hbr | refine below_drewN ?_ _))⟩


set_option maxRecDepth 100000 in
set_option maxHeartbeats 4000000 in
theorem shows_grownA {w : World} {A B : Option Addr} {V : Value} {c cg : Nat} {id : Int} {xs gs : List Acct} (hL : AccN w A xs) (hG : AccN w B gs) (hgl : gs.length = xs.length + 64) (hxs : ∀ j (hj : j < xs.length), xs[j] = markA id (j : Int)) (hg1 : ∀ j (hj : j < gs.length), j < xs.length → gs[j] = markA id (j : Int)) (hg2 : ∀ j (hj : j < gs.length), xs.length ≤ j → gs[j] = markA (id + 100000) ((j : Int) - (xs.length : Int))) (hn : xs.length ≤ 1048576) (hid : 0 ≤ id ∧ id ≤ 1048576) (hp : Pow w) :
    Calls Tryz.prog 177 #[.agg #[.slice A xs.length c, .slice B (xs.length + 64) cg, V, .int .i64 id, .bool true]] w fun e w' => e = .returned (.bool true) ∧ Below w.heap.size w w' := by
  have HX := Lib.hid hL
  have HG := Lib.hid hG
  have HGL := Lib.hid hgl
  have HP := Lib.hid hp
  have HXS := Lib.hid hxs
  have HG1 := Lib.hid hg1
  have HG2 := Lib.hid hg2
  obtain ⟨ag, rfl, hgb⟩ : ∃ ag, B = some ag ∧ ag.block < w.heap.size := by obtain ⟨ag, e, h, _⟩ := HG.out 0 (by omega); exact ⟨ag, e, h⟩
  clear hL hp hxs hG hgl hg1 hg2
  go_enter Tryz.func177, Tryz.ntmps177
  go_wp2
  obtain ⟨wa, hwa⟩ : ∃ wa, wa = w.alloc (.cells #[.slice A xs.length c, .slice (some ag) (xs.length + 64) cg, V, .int .i64 id, .bool true] 108) := ⟨_, rfl⟩
  have HWA := Lib.hid hwa
  rw [← hwa]
  clear hwa
  have HC := Lib.hid (fun W (hb : Below wa.heap.size wa W) => (show W.cell? ⟨w.heap.size, 0, none⟩ = some (.slice A xs.length c) ∧ W.cell? ⟨w.heap.size, 1, none⟩ = some (.slice (some ag) (xs.length + 64) cg) ∧ W.cell? ⟨w.heap.size, 2, none⟩ = some (V) ∧ W.cell? ⟨w.heap.size, 3, none⟩ = some (.int .i64 id) ∧ W.cell? ⟨w.heap.size, 4, none⟩ = some (.bool true) from by rw [HWA.out] at hb; exact ⟨cell_box 0 hb, cell_box 1 hb, cell_box 2 hb, cell_box 3 hb, cell_box 4 hb⟩))
  go_loopw [4] (fun i wr => ∃ k : Nat, i = .int .i64 (k : Int) ∧ k ≤ xs.length ∧ Below wa.heap.size wa wr) (fun i _ => xs.length - (intOf i).toNat)
  case atStart => exact ⟨0, rfl, Nat.zero_le _, Below.refl _ _⟩
  case round =>
    obtain ⟨k, rfl, hk, hbr⟩ := hrel
    by_cases hlt : k < xs.length
    · obtain ⟨ad, rfl, hl, hc⟩ := HX.out k hlt
      have hmu := meas_up xs.length k hlt
      have hwk := wrap_up k (by omega)
      have HE := Lib.hid (fun W (hb : Below wa.heap.size wa W) => (show E4 W (ad.add (k * 4)) xs[k] from by rw [HWA.out] at hb; exact e4_old hc hl hb))
      simp only [HXS.out k hlt] at HE
      obtain ⟨ag', eg, _, hcg⟩ := HG.out k (by have := HGL.out; omega)
      obtain rfl : ag = ag' := Option.some.inj eg
      rw [HG1.out k (by have := HGL.out; omega) hlt] at hcg
      have HE2 := Lib.hid (fun W (hb : Below wa.heap.size wa W) => (show E4 W (ag.add (k * 4)) (markA id (k : Int)) from by rw [HWA.out] at hb; exact e4_old hcg hgb hb))
      have hgz : (0 : Int) < (xs.length : Int) + 64 := by omega
      have hlt3 : (k : Int) < (xs.length : Int) + 64 := by omega
      obtain ⟨c0, c1, c2, c3, c4⟩ := HC.out wr hbr
      clear hc hl
      go_wp2
      go_quiet (fail)
      go_wp2
      obtain ⟨wq, hwq⟩ : ∃ wq, wq = wr.drewN nq := ⟨_, rfl⟩
      rw [← hwq]
      have hbq : Below wa.heap.size wa wq := by rw [hwq]; exact below_drewN hbr _
      clear hwq c0 c1 c2 c3 c4 hbr
      have HP2 := Lib.hid (fun W (hb : Below wq.drew.heap.size wq.drew W) => (show Pow W from (HP.out.below (box_below (by rw [← HWA.out]; exact hbq.trans (show Below wa.heap.size wq W from ⟨hb.os, hb.tape, hb.output, hb.size, fun q hq => hb.block q (Nat.lt_of_lt_of_le hq hbq.size)⟩))))))
      have HUP := Lib.hid (fun W (hb : Below wq.drew.heap.size wq.drew W) => (show Below wa.heap.size wa W from hbq.trans ⟨hb.os, hb.tape, hb.output, hb.size, fun q hq => hb.block q (Nat.lt_of_lt_of_le hq hbq.size)⟩))
      have HS := Lib.hid (fun W (hb : Below wq.drew.heap.size wq.drew W) => (show W.cell? ⟨w.heap.size, 0, none⟩ = some (.slice (some ad) xs.length c) ∧ W.cell? ⟨w.heap.size, 1, none⟩ = some (.slice (some ag) (xs.length + 64) cg) ∧ W.cell? ⟨w.heap.size, 3, none⟩ = some (.int .i64 id) ∧ W.cell? ⟨w.heap.size, 4, none⟩ = some (.bool true) ∧ W.cell? (ad.add (k * 4)) = some (.string (markA id (k : Int)).name) ∧ W.cell? ⟨(ad.add (k * 4)).block, (ad.add (k * 4)).off + 1, none⟩ = some (.int .i64 (markA id (k : Int)).typ) ∧ W.cell? ⟨(ad.add (k * 4)).block, (ad.add (k * 4)).off + 2, none⟩ = some (.int .i64 (markA id (k : Int)).opened) ∧ W.cell? ⟨(ad.add (k * 4)).block, (ad.add (k * 4)).off + 3, none⟩ = some (.bool (markA id (k : Int)).closed) ∧ W.cell? (ag.add (k * 4)) = some (.string (markA id (k : Int)).name) ∧ W.cell? ⟨(ag.add (k * 4)).block, (ag.add (k * 4)).off + 1, none⟩ = some (.int .i64 (markA id (k : Int)).typ) ∧ W.cell? ⟨(ag.add (k * 4)).block, (ag.add (k * 4)).off + 2, none⟩ = some (.int .i64 (markA id (k : Int)).opened) ∧ W.cell? ⟨(ag.add (k * 4)).block, (ag.add (k * 4)).off + 3, none⟩ = some (.bool (markA id (k : Int)).closed) from by
        obtain ⟨c0, c1, c2, c3, c4⟩ := HC.out W (HUP.out W hb)
        obtain ⟨x0, x1, x2, x3⟩ := HE.out _ (HUP.out W hb)
        obtain ⟨z0, z1, z2, z3⟩ := HE2.out _ (HUP.out W hb)
        exact ⟨c0, c1, c3, c4, x0, x1, x2, x3, z0, z1, z2, z3⟩))
      have hHeld := HS.out wq.drew (Below.refl _ _)
      have hmk2 := fun W (hb : Below wq.drew.heap.size wq.drew W) => markAcc_any W (HP2.out _ hb) id (k : Int) (id_range hid) (k_range k (by omega))
      unfold accV at hmk2
      have hmk := markAcc_any wq.drew (HP2.out _ (Below.refl _ _)) id (k : Int) (id_range hid) (k_range k (by omega))
      unfold accV at hmk
      refine wp_region_n (n := 34) (S := fun w' => w'.cell? ⟨w.heap.size, 0, none⟩ = some (.slice (some ad) xs.length c) ∧ w'.cell? ⟨w.heap.size, 1, none⟩ = some (.slice (some ag) (xs.length + 64) cg) ∧ w'.cell? ⟨w.heap.size, 3, none⟩ = some (.int .i64 id) ∧ w'.cell? ⟨w.heap.size, 4, none⟩ = some (.bool true) ∧ w'.cell? (ad.add (k * 4)) = some (.string (markA id (k : Int)).name) ∧ w'.cell? ⟨(ad.add (k * 4)).block, (ad.add (k * 4)).off + 1, none⟩ = some (.int .i64 (markA id (k : Int)).typ) ∧ w'.cell? ⟨(ad.add (k * 4)).block, (ad.add (k * 4)).off + 2, none⟩ = some (.int .i64 (markA id (k : Int)).opened) ∧ w'.cell? ⟨(ad.add (k * 4)).block, (ad.add (k * 4)).off + 3, none⟩ = some (.bool (markA id (k : Int)).closed) ∧ w'.cell? (ag.add (k * 4)) = some (.string (markA id (k : Int)).name) ∧ w'.cell? ⟨(ag.add (k * 4)).block, (ag.add (k * 4)).off + 1, none⟩ = some (.int .i64 (markA id (k : Int)).typ) ∧ w'.cell? ⟨(ag.add (k * 4)).block, (ag.add (k * 4)).off + 2, none⟩ = some (.int .i64 (markA id (k : Int)).opened) ∧ w'.cell? ⟨(ag.add (k * 4)).block, (ag.add (k * 4)).off + 3, none⟩ = some (.bool (markA id (k : Int)).closed)) (by kernel_rfl) ?_
      refine wpAnyN_take (i := 0) (v := ?_) rfl (by kernel_rfl) (by kernel_rfl) (by kernel_rfl) (by kernel_rfl) (fun _ _ _ h => h) (Or.inl ⟨by kernel_rfl, ?y22⟩) hHeld ?_
      case y22 =>
        intro w0 hSw
        (try dsimp only at hSw)
        go_simp
        try with_reducible rfl
      try simp only [Act.put, qa10, qb10, qc10, qd10, qe10, qf10]
      refine wpAnyN_take (i := 1) (v := ?_) rfl (by kernel_rfl) (by kernel_rfl) (by kernel_rfl) (by kernel_rfl) (fun _ _ _ h => h) (Or.inl ⟨by kernel_rfl, ?y23⟩) hHeld ?_
      case y23 =>
        intro w0 hSw
        (try dsimp only at hSw)
        go_simp
        try with_reducible rfl
      try simp only [Act.put, qa10, qb10, qc10, qd10, qe10, qf10]
      refine wpAnyN_take (i := 2) (v := ?_) rfl (by kernel_rfl) (by kernel_rfl) (by kernel_rfl) (by kernel_rfl) (fun _ _ _ h => h) (Or.inl ⟨by kernel_rfl, ?y24⟩) hHeld ?_
      case y24 =>
        intro w0 hSw
        (try dsimp only at hSw)
        go_simp
        try with_reducible rfl
      try simp only [Act.put, qa10, qb10, qc10, qd10, qe10, qf10]
      refine wpAnyN_take (i := 3) (v := ?_) rfl (by kernel_rfl) (by kernel_rfl) (by kernel_rfl) (by kernel_rfl) (fun _ _ _ h => h) (Or.inl ⟨by kernel_rfl, ?y25⟩) hHeld ?_
      case y25 =>
        intro w0 hSw
        (try dsimp only at hSw)
        go_simp
        try with_reducible rfl
      try simp only [Act.put, qa10, qb10, qc10, qd10, qe10, qf10]
      refine wpAnyN_take (i := 4) (v := ?_) rfl (by kernel_rfl) (by kernel_rfl) (by kernel_rfl) (by kernel_rfl) (fun _ _ _ h => h) (Or.inl ⟨by kernel_rfl, ?y26⟩) hHeld ?_
      case y26 =>
        intro w0 hSw
        (try dsimp only at hSw)
        go_simp
        try with_reducible rfl
      try simp only [Act.put, qa10, qb10, qc10, qd10, qe10, qf10]
      refine wpAnyN_take (i := 5) (v := ?_) rfl (by kernel_rfl) (by kernel_rfl) (by kernel_rfl) (by kernel_rfl) (fun _ _ _ h => h) (Or.inl ⟨by kernel_rfl, ?y27⟩) hHeld ?_
      case y27 =>
        intro w0 hSw
        (try dsimp only at hSw)
        go_simp
        try with_reducible rfl
      try simp only [Act.put, qa10, qb10, qc10, qd10, qe10, qf10]
      refine wpAnyN_take (i := 6) (v := ?_) rfl (by kernel_rfl) (by kernel_rfl) (by kernel_rfl) (by kernel_rfl) (fun _ _ _ h => h) (Or.inl ⟨by kernel_rfl, ?y28⟩) hHeld ?_
      case y28 =>
        intro w0 hSw
        (try dsimp only at hSw)
        go_simp
        try with_reducible rfl
      try simp only [Act.put, qa10, qb10, qc10, qd10, qe10, qf10]
      refine wpAnyN_take (i := 7) (v := ?_) rfl (by kernel_rfl) (by kernel_rfl) (by kernel_rfl) (by kernel_rfl) (fun _ _ _ h => h) (Or.inl ⟨by kernel_rfl, ?y29⟩) hHeld ?_
      case y29 =>
        intro w0 hSw
        (try dsimp only at hSw)
        go_simp
        try with_reducible rfl
      try simp only [Act.put, qa10, qb10, qc10, qd10, qe10, qf10]
      refine wpAnyN_take (i := 8) (v := ?_) rfl (by kernel_rfl) (by kernel_rfl) (by kernel_rfl) (by kernel_rfl) (fun _ _ _ h => h) (Or.inl ⟨by kernel_rfl, ?y30⟩) hHeld ?_
      case y30 =>
        intro w0 hSw
        (try dsimp only at hSw)
        go_simp
        try with_reducible rfl
      try simp only [Act.put, qa10, qb10, qc10, qd10, qe10, qf10]
      refine wpAnyN_take (i := 9) (v := ?_) rfl (by kernel_rfl) (by kernel_rfl) (by kernel_rfl) (by kernel_rfl) (fun _ _ _ h => h) (Or.inl ⟨by kernel_rfl, ?y31⟩) hHeld ?_
      case y31 =>
        intro w0 hSw
        (try dsimp only at hSw)
        go_simp
        try with_reducible rfl
      try simp only [Act.put, qa10, qb10, qc10, qd10, qe10, qf10]
      refine wpAnyN_take (i := 10) (v := ?_) rfl (by kernel_rfl) (by kernel_rfl) (by kernel_rfl) (by kernel_rfl) (fun _ _ _ h => h) (Or.inl ⟨by kernel_rfl, ?y32⟩) hHeld ?_
      case y32 =>
        intro w0 hSw
        (try dsimp only at hSw)
        go_simp
        try with_reducible rfl
      try simp only [Act.put, qa10, qb10, qc10, qd10, qe10, qf10]
      refine wpAnyN_step (i := 11) (by kernel_rfl) rfl (fun K hK => ?_)
      go_simp
      go_at_call 196
      refine (hmk).mono ?_
      rintro en wx ⟨rfl, hbx⟩
      have hHeld := HS.out wx (hbx)
      clear hmk
      go_wp2_with fail
      refine hK.out _ _ (fun _ => hHeld) ?_
      clear hK K
      try simp only [Act.put, qa10, qb10, qc10, qd10, qe10, qf10]
      refine wpAnyN_step (i := 12) (by kernel_rfl) rfl (fun K hK => ?_)
      go_simp
      go_at_call 212
      refine (sameAcc_any _ (markA id (k : Int))).mono ?_
      rintro en wn ⟨rfl, hwn⟩
      have hHeld := HS.out wn (hbx.trans (hwn.mono hbx.size))
      go_wp2_with fail
      refine hK.out _ _ (fun _ => hHeld) ?_
      clear hK K
      try simp only [Act.put, qa10, qb10, qc10, qd10, qe10, qf10]
      refine wpAnyN_take (i := 13) (v := ?_) rfl (by kernel_rfl) (by kernel_rfl) (by kernel_rfl) (by kernel_rfl) (fun _ _ _ h => h) (Or.inl ⟨by kernel_rfl, ?y33⟩) hHeld ?_
      case y33 =>
        intro w0 hSw
        (try dsimp only at hSw)
        go_simp
        try with_reducible rfl
      try simp only [Act.put, qa10, qb10, qc10, qd10, qe10, qf10]
      refine wpAnyN_take (i := 14) (v := ?_) rfl (by kernel_rfl) (by kernel_rfl) (by kernel_rfl) (by kernel_rfl) (fun _ _ _ h => h) (Or.inl ⟨by kernel_rfl, ?y34⟩) hHeld ?_
      case y34 =>
        intro w0 hSw
        (try dsimp only at hSw)
        go_simp
        try with_reducible rfl
      try simp only [Act.put, qa10, qb10, qc10, qd10, qe10, qf10]
      refine wpAnyN_take (i := 15) (v := ?_) rfl (by kernel_rfl) (by kernel_rfl) (by kernel_rfl) (by kernel_rfl) (fun _ _ _ h => h) (Or.inl ⟨by kernel_rfl, ?y35⟩) hHeld ?_
      case y35 =>
        intro w0 hSw
        (try dsimp only at hSw)
        go_simp
        try with_reducible rfl
      try simp only [Act.put, qa10, qb10, qc10, qd10, qe10, qf10]
      refine wpAnyN_take (i := 16) (v := ?_) rfl (by kernel_rfl) (by kernel_rfl) (by kernel_rfl) (by kernel_rfl) (fun _ _ _ h => h) (Or.inl ⟨by kernel_rfl, ?y36⟩) hHeld ?_
      case y36 =>
        intro w0 hSw
        (try dsimp only at hSw)
        go_simp
        try with_reducible rfl
      try simp only [Act.put, qa10, qb10, qc10, qd10, qe10, qf10]
      refine wpAnyN_take (i := 17) (v := ?_) rfl (by kernel_rfl) (by kernel_rfl) (by kernel_rfl) (by kernel_rfl) (fun _ _ _ h => h) (Or.inl ⟨by kernel_rfl, ?y37⟩) hHeld ?_
      case y37 =>
        intro w0 hSw
        (try dsimp only at hSw)
        go_simp
        try with_reducible rfl
      try simp only [Act.put, qa10, qb10, qc10, qd10, qe10, qf10]
      refine wpAnyN_take (i := 18) (v := ?_) rfl (by kernel_rfl) (by kernel_rfl) (by kernel_rfl) (by kernel_rfl) (fun _ _ _ h => h) (Or.inl ⟨by kernel_rfl, ?y38⟩) hHeld ?_
      case y38 =>
        intro w0 hSw
        (try dsimp only at hSw)
        go_simp
        try with_reducible rfl
      try simp only [Act.put, qa10, qb10, qc10, qd10, qe10, qf10]
      refine wpAnyN_take (i := 19) (v := ?_) rfl (by kernel_rfl) (by kernel_rfl) (by kernel_rfl) (by kernel_rfl) (fun _ _ _ h => h) (Or.inl ⟨by kernel_rfl, ?y39⟩) hHeld ?_
      case y39 =>
        intro w0 hSw
        (try dsimp only at hSw)
        go_simp
        try with_reducible rfl
      try simp only [Act.put, qa10, qb10, qc10, qd10, qe10, qf10]
      refine wpAnyN_take (i := 20) (v := ?_) rfl (by kernel_rfl) (by kernel_rfl) (by kernel_rfl) (by kernel_rfl) (fun _ _ _ h => h) (Or.inl ⟨by kernel_rfl, ?y40⟩) hHeld ?_
      case y40 =>
        intro w0 hSw
        (try dsimp only at hSw)
        go_simp
        try with_reducible rfl
      try simp only [Act.put, qa10, qb10, qc10, qd10, qe10, qf10]
      refine wpAnyN_take (i := 21) (v := ?_) rfl (by kernel_rfl) (by kernel_rfl) (by kernel_rfl) (by kernel_rfl) (fun _ _ _ h => h) (Or.inl ⟨by kernel_rfl, ?y41⟩) hHeld ?_
      case y41 =>
        intro w0 hSw
        (try dsimp only at hSw)
        go_simp
        try with_reducible rfl
      try simp only [Act.put, qa10, qb10, qc10, qd10, qe10, qf10]
      refine wpAnyN_take (i := 22) (v := ?_) rfl (by kernel_rfl) (by kernel_rfl) (by kernel_rfl) (by kernel_rfl) (fun _ _ _ h => h) (Or.inl ⟨by kernel_rfl, ?y42⟩) hHeld ?_
      case y42 =>
        intro w0 hSw
        (try dsimp only at hSw)
        go_simp
        try with_reducible rfl
      try simp only [Act.put, qa10, qb10, qc10, qd10, qe10, qf10]
      refine wpAnyN_take (i := 23) (v := ?_) rfl (by kernel_rfl) (by kernel_rfl) (by kernel_rfl) (by kernel_rfl) (fun _ _ _ h => h) (Or.inl ⟨by kernel_rfl, ?y43⟩) hHeld ?_
      case y43 =>
        intro w0 hSw
        (try dsimp only at hSw)
        go_simp
        try with_reducible rfl
      try simp only [Act.put, qa10, qb10, qc10, qd10, qe10, qf10]
      refine wpAnyN_take (i := 24) (v := ?_) rfl (by kernel_rfl) (by kernel_rfl) (by kernel_rfl) (by kernel_rfl) (fun _ _ _ h => h) (Or.inl ⟨by kernel_rfl, ?y44⟩) hHeld ?_
      case y44 =>
        intro w0 hSw
        (try dsimp only at hSw)
        go_simp
        try with_reducible rfl
      try simp only [Act.put, qa10, qb10, qc10, qd10, qe10, qf10]
      refine wpAnyN_take (i := 25) (v := ?_) rfl (by kernel_rfl) (by kernel_rfl) (by kernel_rfl) (by kernel_rfl) (fun _ _ _ h => h) (Or.inl ⟨by kernel_rfl, ?y45⟩) hHeld ?_
      case y45 =>
        intro w0 hSw
        (try dsimp only at hSw)
        go_simp
        try with_reducible rfl
      try simp only [Act.put, qa10, qb10, qc10, qd10, qe10, qf10]
      refine wpAnyN_take (i := 26) (v := ?_) rfl (by kernel_rfl) (by kernel_rfl) (by kernel_rfl) (by kernel_rfl) (fun _ _ _ h => h) (Or.inl ⟨by kernel_rfl, ?y46⟩) hHeld ?_
      case y46 =>
        intro w0 hSw
        (try dsimp only at hSw)
        go_simp
        try with_reducible rfl
      try simp only [Act.put, qa10, qb10, qc10, qd10, qe10, qf10]
      refine wpAnyN_take (i := 27) (v := ?_) rfl (by kernel_rfl) (by kernel_rfl) (by kernel_rfl) (by kernel_rfl) (fun _ _ _ h => h) (Or.inl ⟨by kernel_rfl, ?y47⟩) hHeld ?_
      case y47 =>
        intro w0 hSw
        (try dsimp only at hSw)
        go_simp
        try with_reducible rfl
      try simp only [Act.put, qa10, qb10, qc10, qd10, qe10, qf10]
      refine wpAnyN_step (i := 28) (by kernel_rfl) rfl (fun K hK => ?_)
      go_simp
      go_at_call 196
      refine (hmk2 wn (hbx.trans (hwn.mono hbx.size))).mono ?_
      rintro en wy ⟨rfl, hby⟩
      have hHeld := HS.out wy ((hbx.trans (hwn.mono hbx.size)).trans (hby.mono (hbx.trans (hwn.mono hbx.size)).size))

      go_wp2_with fail
      refine hK.out _ _ (fun _ => hHeld) ?_
      clear hK K
      try simp only [Act.put, qa10, qb10, qc10, qd10, qe10, qf10]
      refine wpAnyN_step (i := 29) (by kernel_rfl) rfl (fun K hK => ?_)
      go_simp
      go_at_call 212
      refine (sameAcc_any _ (markA id (k : Int))).mono ?_
      rintro en wz ⟨rfl, hwz⟩
      have hHeld := HS.out wz (((hbx.trans (hwn.mono hbx.size)).trans (hby.mono (hbx.trans (hwn.mono hbx.size)).size)).trans (hwz.mono ((hbx.trans (hwn.mono hbx.size)).trans (hby.mono (hbx.trans (hwn.mono hbx.size)).size)).size))
      go_wp2_with fail
      refine hK.out _ _ (fun _ => hHeld) ?_
      clear hK K
      try simp only [Act.put, qa10, qb10, qc10, qd10, qe10, qf10]
      refine wpAnyN_take (i := 30) (v := ?_) rfl (by kernel_rfl) (by kernel_rfl) (by kernel_rfl) (by kernel_rfl) (fun _ _ _ h => h) (Or.inl ⟨by kernel_rfl, ?y48⟩) hHeld ?_
      case y48 =>
        intro w0 hSw
        (try dsimp only at hSw)
        go_simp
        try with_reducible rfl
      try simp only [Act.put, qa10, qb10, qc10, qd10, qe10, qf10]
      refine wpAnyN_take (i := 31) (v := ?_) rfl (by kernel_rfl) (by kernel_rfl) (by kernel_rfl) (by kernel_rfl) (fun _ _ _ h => h) (Or.inl ⟨by kernel_rfl, ?y49⟩) hHeld ?_
      case y49 =>
        intro w0 hSw
        (try dsimp only at hSw)
        go_simp
        try with_reducible rfl
      try simp only [Act.put, qa10, qb10, qc10, qd10, qe10, qf10]
      refine wpAnyN_take (i := 32) (v := ?_) rfl (by kernel_rfl) (by kernel_rfl) (by kernel_rfl) (by kernel_rfl) (fun _ _ _ h => h) (Or.inl ⟨by kernel_rfl, ?y50⟩) hHeld ?_
      case y50 =>
        intro w0 hSw
        (try dsimp only at hSw)
        go_simp
        try with_reducible rfl
      try simp only [Act.put, qa10, qb10, qc10, qd10, qe10, qf10]
      refine wpAnyN_take (i := 33) (v := ?_) rfl (by kernel_rfl) (by kernel_rfl) (by kernel_rfl) (by kernel_rfl) (fun _ _ _ h => h) (Or.inl ⟨by kernel_rfl, ?y51⟩) hHeld ?_
      case y51 =>
        intro w0 hSw
        (try dsimp only at hSw)
        go_simp
        try with_reducible rfl
      try simp only [Act.put, qa10, qb10, qc10, qd10, qe10, qf10]
      refine wpAnyN_done (by kernel_rfl) ?_ _
      have hbz := HUP.out _ (((hbx.trans (hwn.mono hbx.size)).trans (hby.mono (hbx.trans (hwn.mono hbx.size)).size)).trans (hwz.mono ((hbx.trans (hwn.mono hbx.size)).trans (hby.mono (hbx.trans (hwn.mono hbx.size)).size)).size))
      go_wp2
      go_roundw
      case rel => exact ⟨k + 1, by go_num, by omega, by repeat (first | exact hbz | refine below_drewN ?_ _)⟩
      case measure => simpa [intOf] using hmu
    · obtain rfl : k = xs.length := by omega
      obtain ⟨c0, c1, c2, c3, c4⟩ := HC.out wr hbr
      go_wp2
      obtain ⟨w8, h8⟩ : ∃ w8, w8 = wr := ⟨_, rfl⟩
      subst h8
      go_loopw [5] (fun i wr => ∃ k : Nat, i = .int .i64 (k : Int) ∧ xs.length ≤ k ∧ k ≤ xs.length + 64 ∧ Below wa.heap.size wa wr) (fun i _ => xs.length + 64 - (intOf i).toNat)
      case atStart => exact ⟨xs.length, rfl, Nat.le_refl _, Nat.le_add_right _ _, hbr⟩
      case round =>
        obtain ⟨k, rfl, hk, hk2, hbr⟩ := hrel
        by_cases hlt : k < xs.length + 64
        · obtain ⟨ag', eg, _, hcg⟩ := HG.out k (by have := HGL.out; omega)
          obtain rfl : ag = ag' := Option.some.inj eg
          rw [HG2.out k (by have := HGL.out; omega) hk] at hcg
          have HE2 := Lib.hid (fun W (hb : Below wa.heap.size wa W) => (show E4 W (ag.add (k * 4)) (markA (id + 100000) ((k : Int) - (xs.length : Int))) from by rw [HWA.out] at hb; exact e4_old hcg hgb hb))
          have hlt' : (k : Int) < (xs.length : Int) + 64 := by omega
          have hwk := wrap_up k (by omega)
          have hwd := wrap_down xs.length k hk (by omega)
          have hwd' := wrap_down' xs.length k hk (by omega)
          have hmu := meas_up (xs.length + 64) k hlt
          have HP2 := Lib.hid (fun W (hb : Below wr.drew.heap.size wr.drew W) => (show Pow W from (HP.out.below (box_below (by rw [← HWA.out]; exact hbr.trans (show Below wa.heap.size wr W from ⟨hb.os, hb.tape, hb.output, hb.size, fun q hq => hb.block q (Nat.lt_of_lt_of_le hq hbr.size)⟩))))))
          have HUP := Lib.hid (fun W (hb : Below wr.drew.heap.size wr.drew W) => (show Below wa.heap.size wa W from hbr.trans ⟨hb.os, hb.tape, hb.output, hb.size, fun q hq => hb.block q (Nat.lt_of_lt_of_le hq hbr.size)⟩))
          have HS := Lib.hid (fun W (hb : Below wr.drew.heap.size wr.drew W) => (show W.cell? ⟨w.heap.size, 1, none⟩ = some (.slice (some ag) (xs.length + 64) cg) ∧ W.cell? ⟨w.heap.size, 3, none⟩ = some (.int .i64 id) ∧ W.cell? (ag.add (k * 4)) = some (.string (markA (id + 100000) ((k : Int) - (xs.length : Int))).name) ∧ W.cell? ⟨(ag.add (k * 4)).block, (ag.add (k * 4)).off + 1, none⟩ = some (.int .i64 (markA (id + 100000) ((k : Int) - (xs.length : Int))).typ) ∧ W.cell? ⟨(ag.add (k * 4)).block, (ag.add (k * 4)).off + 2, none⟩ = some (.int .i64 (markA (id + 100000) ((k : Int) - (xs.length : Int))).opened) ∧ W.cell? ⟨(ag.add (k * 4)).block, (ag.add (k * 4)).off + 3, none⟩ = some (.bool (markA (id + 100000) ((k : Int) - (xs.length : Int))).closed) from by
            obtain ⟨c0, c1, c2, c3, c4⟩ := HC.out W (HUP.out W hb)
            obtain ⟨z0, z1, z2, z3⟩ := HE2.out _ (HUP.out W hb)
            exact ⟨c1, c3, z0, z1, z2, z3⟩))
          have hHeld := HS.out wr.drew (Below.refl _ _)
          have hbh := behind_any wr.drew id hid
          have hmk := markAcc_any wr.drew (HP2.out _ (Below.refl _ _)) (id + 100000) ((k : Int) - (xs.length : Int)) ⟨by omega, by omega⟩ ⟨by omega, by omega⟩
          unfold accV at hmk
          obtain ⟨c0, c1, c2, c3, c4⟩ := HC.out wr hbr
          clear hcg
          go_wp2
          clear c0 c1 c2 c3 c4
          refine wp_region_n (n := 14) (S := fun w' => w'.cell? ⟨w.heap.size, 1, none⟩ = some (.slice (some ag) (xs.length + 64) cg) ∧ w'.cell? ⟨w.heap.size, 3, none⟩ = some (.int .i64 id) ∧ w'.cell? (ag.add (k * 4)) = some (.string (markA (id + 100000) ((k : Int) - (xs.length : Int))).name) ∧ w'.cell? ⟨(ag.add (k * 4)).block, (ag.add (k * 4)).off + 1, none⟩ = some (.int .i64 (markA (id + 100000) ((k : Int) - (xs.length : Int))).typ) ∧ w'.cell? ⟨(ag.add (k * 4)).block, (ag.add (k * 4)).off + 2, none⟩ = some (.int .i64 (markA (id + 100000) ((k : Int) - (xs.length : Int))).opened) ∧ w'.cell? ⟨(ag.add (k * 4)).block, (ag.add (k * 4)).off + 3, none⟩ = some (.bool (markA (id + 100000) ((k : Int) - (xs.length : Int))).closed)) (by kernel_rfl) ?_
          refine wpAnyN_take (i := 0) (v := ?_) rfl (by kernel_rfl) (by kernel_rfl) (by kernel_rfl) (by kernel_rfl) (fun _ _ _ h => h) (Or.inl ⟨by kernel_rfl, ?y68⟩) hHeld ?_
          case y68 =>
            intro w0 hSw
            (try dsimp only at hSw)
            go_simp
            try with_reducible rfl
          try simp only [Act.put, qa10, qb10, qc10, qd10, qe10, qf10]
          refine wpAnyN_take (i := 1) (v := ?_) rfl (by kernel_rfl) (by kernel_rfl) (by kernel_rfl) (by kernel_rfl) (fun _ _ _ h => h) (Or.inl ⟨by kernel_rfl, ?y69⟩) hHeld ?_
          case y69 =>
            intro w0 hSw
            (try dsimp only at hSw)
            go_simp
            try with_reducible rfl
          try simp only [Act.put, qa10, qb10, qc10, qd10, qe10, qf10]
          refine wpAnyN_take (i := 2) (v := ?_) rfl (by kernel_rfl) (by kernel_rfl) (by kernel_rfl) (by kernel_rfl) (fun _ _ _ h => h) (Or.inl ⟨by kernel_rfl, ?y70⟩) hHeld ?_
          case y70 =>
            intro w0 hSw
            (try dsimp only at hSw)
            go_simp
            try with_reducible rfl
          try simp only [Act.put, qa10, qb10, qc10, qd10, qe10, qf10]
          refine wpAnyN_take (i := 3) (v := ?_) rfl (by kernel_rfl) (by kernel_rfl) (by kernel_rfl) (by kernel_rfl) (fun _ _ _ h => h) (Or.inl ⟨by kernel_rfl, ?y71⟩) hHeld ?_
          case y71 =>
            intro w0 hSw
            (try dsimp only at hSw)
            go_simp
            try with_reducible rfl
          try simp only [Act.put, qa10, qb10, qc10, qd10, qe10, qf10]
          refine wpAnyN_take (i := 4) (v := ?_) rfl (by kernel_rfl) (by kernel_rfl) (by kernel_rfl) (by kernel_rfl) (fun _ _ _ h => h) (Or.inl ⟨by kernel_rfl, ?y72⟩) hHeld ?_
          case y72 =>
            intro w0 hSw
            (try dsimp only at hSw)
            go_simp
            try with_reducible rfl
          try simp only [Act.put, qa10, qb10, qc10, qd10, qe10, qf10]
          refine wpAnyN_take (i := 5) (v := ?_) rfl (by kernel_rfl) (by kernel_rfl) (by kernel_rfl) (by kernel_rfl) (fun _ _ _ h => h) (Or.inl ⟨by kernel_rfl, ?y73⟩) hHeld ?_
          case y73 =>
            intro w0 hSw
            (try dsimp only at hSw)
            go_simp
            try with_reducible rfl
          try simp only [Act.put, qa10, qb10, qc10, qd10, qe10, qf10]
          refine wpAnyN_take (i := 6) (v := ?_) rfl (by kernel_rfl) (by kernel_rfl) (by kernel_rfl) (by kernel_rfl) (fun _ _ _ h => h) (Or.inl ⟨by kernel_rfl, ?y74⟩) hHeld ?_
          case y74 =>
            intro w0 hSw
            (try dsimp only at hSw)
            go_simp
            try with_reducible rfl
          try simp only [Act.put, qa10, qb10, qc10, qd10, qe10, qf10]
          refine wpAnyN_take (i := 8) (v := ?_) rfl (by kernel_rfl) (by kernel_rfl) (by kernel_rfl) (by kernel_rfl) (fun _ _ _ h => h) (Or.inl ⟨by kernel_rfl, ?y75⟩) hHeld ?_
          case y75 =>
            intro w0 hSw
            (try dsimp only at hSw)
            go_simp
            try with_reducible rfl
          try simp only [Act.put, qa10, qb10, qc10, qd10, qe10, qf10]
          refine wpAnyN_take (i := 9) (v := ?_) rfl (by kernel_rfl) (by kernel_rfl) (by kernel_rfl) (by kernel_rfl) (fun _ _ _ h => h) (Or.inl ⟨by kernel_rfl, ?y76⟩) hHeld ?_
          case y76 =>
            intro w0 hSw
            (try dsimp only at hSw)
            go_simp
            try with_reducible rfl
          try simp only [Act.put, qa10, qb10, qc10, qd10, qe10, qf10]
          refine wpAnyN_take (i := 10) (v := ?_) rfl (by kernel_rfl) (by kernel_rfl) (by kernel_rfl) (by kernel_rfl) (fun _ _ _ h => h) (Or.inl ⟨by kernel_rfl, ?y77⟩) hHeld ?_
          case y77 =>
            intro w0 hSw
            (try dsimp only at hSw)
            go_simp
            try with_reducible rfl
          try simp only [Act.put, qa10, qb10, qc10, qd10, qe10, qf10]
          refine wpAnyN_step (i := 7) (by kernel_rfl) rfl (fun K hK => ?_)
          go_simp
          go_at_call 87
          refine (hbh).mono ?_
          rintro en wn ⟨rfl, hwn⟩
          have hwn := hwn.symm
          subst hwn
          clear hbh
          go_wp2_with fail
          refine hK.out _ _ (fun _ => hHeld) ?_
          clear hK K
          try simp only [Act.put, qa10, qb10, qc10, qd10, qe10, qf10]
          refine wpAnyN_step (i := 11) (by kernel_rfl) rfl (fun K hK => ?_)
          go_simp
          go_at_call 196
          refine (hmk).mono ?_
          rintro en wx ⟨rfl, hbx⟩
          have hHeld := HS.out wx (hbx)
          clear hmk
          go_wp2_with fail
          refine hK.out _ _ (fun _ => hHeld) ?_
          clear hK K
          try simp only [Act.put, qa10, qb10, qc10, qd10, qe10, qf10]
          refine wpAnyN_step (i := 12) (by kernel_rfl) rfl (fun K hK => ?_)
          go_simp
          go_at_call 212
          refine (sameAcc_any _ (markA (id + 100000) ((k : Int) - (xs.length : Int)))).mono ?_
          rintro en wn ⟨rfl, hwn⟩
          have hHeld := HS.out wn (hbx.trans (hwn.mono hbx.size))
          go_wp2_with fail
          refine hK.out _ _ (fun _ => hHeld) ?_
          clear hK K
          try simp only [Act.put, qa10, qb10, qc10, qd10, qe10, qf10]
          refine wpAnyN_take (i := 13) (v := ?_) rfl (by kernel_rfl) (by kernel_rfl) (by kernel_rfl) (by kernel_rfl) (fun _ _ _ h => h) (Or.inl ⟨by kernel_rfl, ?y78⟩) hHeld ?_
          case y78 =>
            intro w0 hSw
            (try dsimp only at hSw)
            go_simp
            try with_reducible rfl
          try simp only [Act.put, qa10, qb10, qc10, qd10, qe10, qf10]
          refine wpAnyN_done (by kernel_rfl) ?_ _
          have hbz := HUP.out _ (hbx.trans (hwn.mono hbx.size))
          go_wp2
          go_roundw
          case rel => exact ⟨k + 1, by go_num, by omega, by omega, by repeat (first | exact hbz | refine below_drewN ?_ _)⟩
          case measure => simpa [intOf] using hmu
        · obtain rfl : k = xs.length + 64 := by omega
          obtain ⟨c0, c1, c2, c3, c4⟩ := HC.out wr hbr
          go_wp2
          go_ret
          exact ⟨rfl, box_below (by rw [HWA.out] at hbr; repeat (first | exact hbr | refine below_drewN ?_ _))⟩

end Go.Proofs.YtplocldnklccfaaGreatDoor
namespace Go.Proofs.YtplocldnklccfaaGreatDoor
open Go.RowKit
set_option linter.unusedVariables false
set_option linter.unusedSimpArgs false

theorem encA_len (x : Acct) : (encA x).length = 4 := rfl
theorem encs_4 (xs : List Acct) : ∀ x ∈ xs.map encA, x.length = 4 := fun x hx => by
  obtain ⟨y, _, rfl⟩ := List.mem_map.1 hx
  rfl
abbrev PageA (w : World) (p : Pg Acct) : Prop := PageAt markA w p.F 159 4 encA p.v p.L p.G p.W
abbrev PagesA (w : World) (Tv : Value) (ps : List (Pg Acct)) : Prop := PagesAt markA w 159 4 encA 108 Tv ps
theorem AccN.own {w : World} {B n c : Nat} {A : Option Addr} {xs : List Acct} (h : w.ownsRow B 159 4 (.slice A n c) n (xs.map encA).flatten) (hn : n = xs.length) : AccN w A xs := by
  subst hn
  exact AccN.of_row (RowAt.of_own (R := fun _ => True) (by rw [List.length_map]; exact h) (encs_4 xs) fun _ _ => trivial)
theorem cur_getA {p : PageV Acct} (h : p.done = true) : ∀ j (hj : j < (curL markA p).length), (curL markA p)[j] = markA p.id (j : Int) := by
  unfold curL
  rw [if_pos h]
  exact fun j hj => marksL_get _ _ _ _ hj
theorem showsA_any {w : World} {p : Pg Acct} (h : PageA w p) (hid : 0 ≤ p.v.id ∧ p.v.id ≤ 1048576) (hp : Pow w) :
    Calls Tryz.prog 177 #[.agg #[p.L, p.G, p.W, .int .i64 p.v.id, .bool p.v.done]] w fun e w' => e = .returned (.bool true) ∧ Below w.heap.size w w' := by
  obtain ⟨A, c, hL⟩ := h.form
  have hcl := curL_len markA p.v
  have hsm := h.small
  have hLx : p.L = .slice A (curL markA p.v).length c := by rw [hcl]; exact hL
  have hLT : AccN w A (curL markA p.v) := by
    have := h.reads encA_len
    rw [hLx] at this
    exact AccN.of_row this
  cases hd : p.v.done with
  | false =>
    obtain ⟨hg, hW, _⟩ := h.keep hd
    have hG := (h.own hg).2
    have hc : curL markA p.v = p.v.was := by unfold curL; rw [hd]; rfl
    rw [hc] at hLx hLT
    obtain ⟨B, d, hWv⟩ := own_form hW
    rw [hWv] at hW
    rw [hLx, hG, hWv]
    exact shows_keptA hLT (AccN.own hW rfl) hsm
  | true =>
    cases hg : p.v.grown with
    | false =>
      have hG := (h.own hg).2
      rw [hLx, hG]
      exact shows_filledA hLT (cur_getA hd) (by omega) hid hp
    | true =>
      have hgo := (h.gro hg).2.1
      obtain ⟨B, d, hGv⟩ := own_form hgo
      have hgl := groL_len markA p.v
      rw [hGv] at hgo
      have hGT := AccN.own hgo hgl.symm
      rw [hLx, hGv, ← hcl]
      refine shows_grownA hLT hGT (by rw [hgl, hcl]) (cur_getA hd) (fun j hj hlt => ?_) (fun j hj hle => ?_) (by omega) hid hp
      · exact (List.getElem_append_left hlt).trans (cur_getA hd j hlt)
      · refine (List.getElem_append_right hle).trans ?_
        rw [marksL_get, Int.ofNat_sub hle]

/-- A book: its lists of accounts. -/
structure BookA (w : World) (kb : Nat) (bc : Array Value) (Tv : Value) (ps : List (Pg Acct)) : Prop where
  blk : w.heap[kb]? = some (.cells bc 49 (0, 0))
  c8 : bc[8]? = some Tv
  pages : PagesA w Tv ps
  out : ∀ j (h : j < ps.length) q, ps[j].F q → q ≠ kb ∧ q ≠ 3
  tout : ∀ q, Tv.ownBlock = some q → q ≠ kb ∧ q ≠ 3
  pow : Pow w
  ids : ∀ j (h : j < ps.length), 0 ≤ ps[j].v.id ∧ ps[j].v.id ≤ 1048576
  len : ps.length ≤ 96
def BookFA (Tv : Value) (ps : List (Pg Acct)) (q : Nat) : Prop := Tv.ownBlock = some q ∨ ∃ j, ∃ h : j < ps.length, ps[j].F q
theorem BookA.below {w w' : World} {kb : Nat} {bc : Array Value} {Tv : Value} {ps : List (Pg Acct)} (h : BookA w kb bc Tv ps) (hb : Below w.heap.size w w') : BookA w' kb bc Tv ps where
  blk := (hb.block kb (heap_lt h.blk)).trans h.blk
  c8 := h.c8
  pages := h.pages.below hb
  out := h.out
  tout := h.tout
  pow := h.pow.below hb
  ids := h.ids
  len := h.len
theorem BookA.turn {w w' : World} {kb : Nat} {bc : Array Value} {Tv : Value} {ps : List (Pg Acct)} {D : Nat → Prop} {tb cap : Nat} {cs : Array Value} (h : BookA w kb bc Tv ps) (k : Nat) (hk : k < ps.length) (hT : Tv = .slice (some ⟨tb, 0, none⟩) ps.length cap)
    (hcs : w.heap[tb]? = some (.cells cs 108 (0, 0))) (i : Nat) (hi : i < 5) (u : Value) (hcs' : w'.heap[tb]? = some (.cells (cs.setIfInBounds (k * 5 + i) u) 108 (0, 0))) (hc : Ch (fun q => q = tb ∨ D q) w w') (hD : ∀ q, D q → ps[k].F q) (p' : Pg Acct)
    (hp' : p'.cells = ps[k].cells.set i u) (hpg : PageA w' p') (hF : ∀ q, p'.F q → (ps[k].F q ∨ w.heap.size ≤ q) ∧ q < w'.heap.size) (hid : p'.v.id = ps[k].v.id) : BookA w' kb bc Tv (ps.set k p') := by
  have htb := h.tout tb (by rw [hT]; rfl)
  have hkl := heap_lt h.blk
  have hpl := h.pow.lt
  have get : ∀ j (hj : j < (ps.set k p').length), (ps.set k p')[j] = p' ∨ ∃ hj' : j < ps.length, (ps.set k p')[j] = ps[j] := fun j hj => by
    by_cases e : j = k
    · exact .inl (by subst e; simp)
    · exact .inr ⟨by simpa using hj, by rw [List.getElem_set_ne (Ne.symm e)]⟩
  refine ⟨(hc.block kb hkl ?_).trans h.blk, h.c8, h.pages.set k hk hT hcs i hi u hcs' hc hD p' hp' hpg hF, ?_, h.tout, h.pow.ch hc ?_, ?_, by rw [List.length_set]; exact h.len⟩
  · rintro (e | hd)
    · exact htb.1 e.symm
    · exact (h.out k hk kb (hD kb hd)).1 rfl
  · intro j hj q hq
    rcases get j hj with e | ⟨hj', e⟩
    · rw [e] at hq
      rcases (hF q hq).1 with h1 | h1
      · exact h.out k hk q h1
      · exact ⟨by omega, by omega⟩
    · rw [e] at hq
      exact h.out j hj' q hq
  · rintro q (rfl | hd)
    · exact htb.2
    · exact (h.out k hk q (hD q hd)).2
  · intro j hj
    rcases get j hj with e | ⟨hj', e⟩
    · rw [e, hid]
      exact h.ids k hk
    · rw [e]
      exact h.ids j hj'
end Go.Proofs.YtplocldnklccfaaGreatDoor
