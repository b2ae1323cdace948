/- From of a chart's accounts, whatever they are. Printed by gen_fromg.py. -/
import Derived.Test.YtplocldnklccfaaGreatDoorPack3
import Derived.Test.YtplocldnklccfaaGreatDoorPack4
namespace Go.Proofs.YtplocldnklccfaaGreatDoor
theorem qa14 {T : Type} (l : List T) (i : Nat) (a : T) : l.toArray.setIfInBounds i a = (l.set i a).toArray := List.setIfInBounds_toArray l i a
theorem qb14 {T : Type} {x : T} {xs : List T} {a : T} : (x :: xs).set 0 a = a :: xs := List.set_cons_zero
theorem qc14 {T : Type} {x : T} {xs : List T} {i : Nat} {a : T} : (x :: xs).set (i + 1) a = x :: xs.set i a := List.set_cons_succ
theorem qd14 {T : Type} {xs : List T} {i : Nat} (h : i < xs.toArray.size) : xs.toArray[i] = xs[i]'(by simpa using h) := List.getElem_toArray h
theorem qe14 {T : Type} (a : T) (ys : List T) (i : Nat) (h : i + 1 < (a :: ys).length) : (a :: ys)[i + 1] = ys[i]'(by simpa using h) := List.getElem_cons_succ a ys i h
theorem qf14 {T : Type} (a : T) (ys : List T) (h : 0 < (a :: ys).length) : (a :: ys)[0] = a := List.getElem_cons_zero a ys h
open Go.RowKit
set_option linter.unusedVariables false
set_option linter.unusedSimpArgs false

theorem from_keep2 {W6 w' w7 : World} {Ba b i : Nat} {v0 v1 v2 vp : Value} (hb7 : Below w'.heap.size w' w7) (hBa : Ba < W6.heap.size) (hb : b < W6.heap.size) (h0 : w'.cell? ⟨Ba, 0, none⟩ = some v0) (h1 : w'.cell? ⟨Ba, 1, none⟩ = some v1) (h2 : w'.cell? ⟨Ba, 2, none⟩ = some v2) (h3 : w'.cell? ⟨b, i, none⟩ = some vp) (hB : Below W6.heap.size W6 w') :
    w7.cell? ⟨Ba, 0, none⟩ = some v0 ∧ w7.cell? ⟨Ba, 1, none⟩ = some v1 ∧ w7.cell? ⟨Ba, 2, none⟩ = some v2 ∧ w7.cell? ⟨b, i, none⟩ = some vp ∧ Below W6.heap.size W6 w7 := by
  have hs := hB.size
  exact ⟨(hb7.cell (p := ⟨Ba, 0, none⟩) (by show Ba < _; omega)).trans h0, (hb7.cell (p := ⟨Ba, 1, none⟩) (by show Ba < _; omega)).trans h1, (hb7.cell (p := ⟨Ba, 2, none⟩) (by show Ba < _; omega)).trans h2, (hb7.cell (p := ⟨b, i, none⟩) (by show b < _; omega)).trans h3, hB.trans (hb7.mono hs)⟩

/-- Between two rounds of From. -/
structure FromInv2 (w : World) (L : List Acct) (cb : Nat) (i : Value) (wr : World) (k : Nat) : Prop where
  le : k ≤ L.length
  at_ : i = .int .i64 (k : Int)
  valid : Valid (L.take k)
  chart : ∃ F, ChartAt wr F cb (L.take k) ∧ ∀ x, F x → w.heap.size ≤ x
  bel : Below w.heap.size w wr

theorem valid_next {L : List Acct} {k : Nat} (hk : k < L.length) (h100 : L.length ≤ 100) (hv : Valid (L.take k)) (hg : goodB L[k].name.data.toList = true) (hord : ∀ (h : 0 < k), cmpB (L[k - 1]'(by omega)).name L[k].name < 0) (hd : 1 ≤ L[k].opened ∧ L[k].opened ≤ 3652059) (ht : 1 ≤ L[k].typ ∧ L[k].typ ≤ 5)
    (hup : ∀ u, parentF L[k].name = some u → ∃ p, findA (L.take k) u = some p ∧ p.typ = L[k].typ ∧ p.opened ≤ L[k].opened ∧ (p.closed = true → L[k].closed = true)) :
    CanAdd (L.take k) L[k] ∧ insA L[k] (L.take k) = L.take (k + 1) ∧ Valid (L.take (k + 1)) := by
  have hlt : ∀ b ∈ L.take k, cmpB b.name L[k].name < 0 := fun b hb => by
    obtain ⟨j, hj, rfl⟩ := List.getElem_of_mem hb
    have hj' : j < k := by simp at hj; omega
    rw [List.getElem_take]
    have h1 := hord (by omega)
    by_cases e : j = k - 1
    · subst e; exact h1
    · have h2 := rising_get hv.rising (i := j) (j := k - 1) (by simp; omega) (by omega)
      rw [List.getElem_take, List.getElem_take] at h2
      exact cmp_trans h2 h1
  have hl : (L.take k).length = k := by simp; omega
  have hfit : Fits (L.take k) L[k] :=
    { none_ := by
        unfold findA
        rw [List.find?_eq_none]
        intro b hb
        simpa using cmp_ne (hlt b hb)
      room := by omega
      good := hg
      up := fun u hu => by
        obtain ⟨p, hp, h1, h2, h3⟩ := hup u hu
        exact ⟨p, (findA_some hp).1, (findA_some hp).2, h1, h2, h3⟩
      day := hd
      typ := ht }
  have hins : insA L[k] (L.take k) = L.take (k + 1) := by
    rw [insA_at L[k] (L.take k) k (by omega) (fun j hj _ => hlt _ (List.getElem_mem hj)) (fun j hj h => by omega)]
    rw [List.take_of_length_le (by omega), List.drop_eq_nil_of_le (by omega), List.take_succ_eq_append_getElem hk]
  exact ⟨hfit.can hv, hins, hins ▸ hfit.valid hv⟩

set_option maxRecDepth 100000 in
set_option maxHeartbeats 16000000 in
theorem From_gen (b c : Nat) (L : List Acct) (hle : L.length ≤ 1048576) (hns : ∀ a ∈ L, a.name.size ≤ 1048576) (w : World) (hrow : RowA w b L) :
    Calls Tryz.prog 147 #[.slice (some ⟨b, 0, none⟩) L.length c] w fun e w' => ∃ p n, e = .returned (.tuple #[.pointer p, .int .i64 n]) ∧ Below w.heap.size w w' ∧
      ((Valid L ∧ n = 0 ∧ ∃ cb F, p = some ⟨cb, 0, none⟩ ∧ ChartAt w' F cb L ∧ (∀ x, F x → w.heap.size ≤ x)) ∨ (¬ Valid L ∧ n = 67 ∧ p = none)) := by
  have hnew := New_any w
  have HROW := Lib.hid hrow
  have HNS := Lib.hid hns
  clear hrow hns
  by_cases h100 : 100 < L.length
  · have hbad : Hid (¬ Valid L) := Lib.hid fun hv => by have := hv.le; omega
    have hi : (100 : Int) < ((L.length : Nat) : Int) := by omega
    go_enter Tryz.func147, Tryz.ntmps147
    go_wp2_with (go_at_call 73; refine hnew.mono ?_; rintro e w1 ⟨rfl, hch, hs1, hb1⟩)
    refine bodyPost_ret (v := .tuple #[.pointer none, .int .i64 67]) (by simp [results, Tryz.results147, go_sem]) rfl ⟨none, 67, rfl, hb1, .inr ⟨hbad.out, rfl, rfl⟩⟩
  go_enter Tryz.func147, Tryz.ntmps147
  go_wp2_with (go_at_call 73; refine hnew.mono ?_; rintro e w1 ⟨rfl, hch, hs1, hb1⟩; have HCH := Lib.hid hch; clear hch)
  obtain ⟨cb, hcb⟩ : ∃ cb, cb = w.heap.size + 1 := ⟨_, rfl⟩
  rw [← hcb]
  have HCB := Lib.hid hcb
  clear hcb
  unfold ptrV
  go_loopw [16] (fun i wr => ∃ k, FromInv2 w L cb i wr k) (fun i _ => L.length - (intOf i).toNat)
  case atStart => exact ⟨0, Nat.zero_le _, rfl, by rw [List.take_zero]; exact valid_nil, ⟨fun k => w.heap.size ≤ k ∧ k < w.heap.size + 2, by have := HCH.out; rw [← HCB.out] at this; simpa using this, fun x hx => hx.1⟩, hb1⟩
  case round =>
    obtain ⟨k, hk, rfl, hvk, ⟨F, hch, hF⟩, hbel⟩ := hrel
    by_cases hlt : k < L.length
    case neg =>
      obtain rfl : k = L.length := by omega
      rw [List.take_length] at hch hvk
      have HV := Lib.hid hvk
      go_wp2
      refine bodyPost_ret (v := .tuple #[.pointer (some ⟨cb, 0, none⟩), .int .i64 0]) (by simp [results, Tryz.results147, go_sem]) rfl ⟨_, 0, rfl, hbel, .inl ⟨HV.out, rfl, cb, F, rfl, hch, hF⟩⟩
    have hrw := HROW.out.below hbel
    have q0 := hrw.c0 k hlt
    have q1 := hrw.c1 k hlt
    have q2 := hrw.c2 k hlt
    have q3 := hrw.c3 k hlt
    have HVK := Lib.hid hvk
    have HBEL := Lib.hid hbel
    have hbsz := hbel.size
    have hsz : L[k].name.size ≤ 1048576 := HNS.out _ (List.getElem_mem hlt)
    obtain ⟨a, ha⟩ : ∃ a, a = L[k] := ⟨_, rfl⟩
    rw [← ha] at q0 q1 q2 q3 hsz
    have HA := Lib.hid ha
    have HR := Lib.hid hrw
    have HCI := Lib.hid hch
    have hbl := hrw.lt
    clear ha hrw hch hvk hbel
    have hg := fun W => Good_any a.name W (by unfold maxLen; omega)
    have hdd := fun W => isDay_any a.opened W
    have hpr := fun W => Parent_any a.name W (by omega)
    obtain ⟨p, hp⟩ : ∃ p, p = L[k - 1] := ⟨_, rfl⟩
    have r0 := HR.out.c0 (k - 1) (by omega)
    rw [← hp] at r0
    have HP := Lib.hid hp
    clear hp
    cases hgb : goodB a.name.data.toList with
    | false =>
      have hbad : Hid (¬ Valid L) := Lib.hid fun hv => by have := hv.good a (HA.out ▸ List.getElem_mem hlt); rw [hgb] at this; cases this
      rw [hgb] at hg
      clear hgb
      by_cases hk0 : k = 0
      · subst hk0
        have hpa : a = p := by rw [HP.out, HA.out]
        subst hpa
        simp only [Nat.zero_mul, Nat.zero_add] at q0 q1 q2 q3
        go_wp2
        obtain ⟨W6, hW6⟩ : ∃ W6, wr.alloc (.cells #[.string a.name, .int .i64 a.typ, .int .i64 a.opened, .bool a.closed] 159) = W6 := ⟨_, rfl⟩
        have hn6 : W6.heap[wr.heap.size]? = some (.cells #[.string a.name, .int .i64 a.typ, .int .i64 a.opened, .bool a.closed] 159 (0, 0)) := by rw [← hW6]; exact heap_alloc_new _ _
        have hB6 : Below wr.heap.size wr W6 := by rw [← hW6]; exact (Below.refl _ _).alloc (Nat.le_refl _) _
        have z0 : W6.cell? ⟨wr.heap.size, 0, none⟩ = some (.string a.name) := by rw [cell_of_blk hn6]; rfl
        have z1 : W6.cell? ⟨wr.heap.size, 1, none⟩ = some (.int .i64 a.typ) := by rw [cell_of_blk hn6]; rfl
        have z2 : W6.cell? ⟨wr.heap.size, 2, none⟩ = some (.int .i64 a.opened) := by rw [cell_of_blk hn6]; rfl
        have z3 : W6.cell? ⟨b, (0 - 1) * 4, none⟩ = some (.string a.name) := (hB6.cell (p := ⟨b, (0 - 1) * 4, none⟩) hbl).trans r0
        have hs6 : wr.heap.size < W6.heap.size := heap_lt hn6
        have hb6 : b < W6.heap.size := by omega
        have HN := Lib.hid hn6
        have hBd : Below W6.heap.size W6 W6.drew := (Below.refl _ _).drew
        rw [hW6]
        clear hW6 hn6 r0 q0 q1 q2 q3
        refine wp_region_held_drew (S := fun w' => w'.cell? ⟨wr.heap.size, 0, none⟩ = some (.string a.name) ∧ w'.cell? ⟨wr.heap.size, 1, none⟩ = some (.int .i64 a.typ) ∧ w'.cell? ⟨wr.heap.size, 2, none⟩ = some (.int .i64 a.opened) ∧ w'.cell? ⟨b, (0 - 1) * 4, none⟩ = some (.string a.name) ∧ Below W6.heap.size W6 w') (by kernel_rfl) ⟨z0, z1, z2, z3, hBd⟩ (fun hHeld => ?_)
        refine wpAnyH_take (i := 0) (v := ?_) rfl (by kernel_rfl) (by kernel_rfl) (by kernel_rfl) (fun _ _ _ h => h) (Or.inl ⟨by kernel_rfl, ?y0⟩) (by assumption) ?_
        case y0 =>
          intro w0 hSw
          (try dsimp only at hSw)
          go_simp
          try with_reducible rfl
        try simp only [Act.put, qa14, qb14, qc14, qd14, qe14, qf14]
        refine wpAnyH_take (i := 1) (v := ?_) rfl (by kernel_rfl) (by kernel_rfl) (by kernel_rfl) (fun _ _ _ h => h) (Or.inl ⟨by kernel_rfl, ?y1⟩) (by assumption) ?_
        case y1 =>
          intro w0 hSw
          (try dsimp only at hSw)
          go_simp
          try with_reducible rfl
        try simp only [Act.put, qa14, qb14, qc14, qd14, qe14, qf14]
        refine wpAnyH_ready (rs := [2]) (by kernel_rfl) (by simp) (AllReadyH.cons rfl (fun K hK => ?_) AllReadyH.nil)
        go_simp
        go_at_call 6; refine (hg _).mono ?_; rintro e w7 ⟨rfl, hb7⟩; obtain ⟨g0, g1, g2, g3, g4⟩ := from_keep2 hb7 hs6 hb6 z0 z1 z2 z3 hBd
        go_wp2_with fail
        refine hK.out _ _ ⟨g0, g1, g2, g3, g4⟩ (fun hHeld => ?_)
        clear hK K
        try simp only [Act.put, qa14, qb14, qc14, qd14, qe14, qf14]
        refine wpAnyH_take (i := 3) (v := ?_) rfl (by kernel_rfl) (by kernel_rfl) (by kernel_rfl) (fun _ _ _ h => h) (Or.inl ⟨by kernel_rfl, ?y3⟩) (by assumption) ?_
        case y3 =>
          intro w0 hSw
          (try dsimp only at hSw)
          go_simp
          try with_reducible rfl
        try simp only [Act.put, qa14, qb14, qc14, qd14, qe14, qf14]
        refine wpAnyH_take (i := 4) (v := ?_) rfl (by kernel_rfl) (by kernel_rfl) (by kernel_rfl) (fun _ _ _ h => h) (Or.inl ⟨by kernel_rfl, ?y4⟩) (by assumption) ?_
        case y4 =>
          intro w0 hSw
          (try dsimp only at hSw)
          go_simp
          try with_reducible rfl
        try simp only [Act.put, qa14, qb14, qc14, qd14, qe14, qf14]
        refine wpAnyH_take (i := 5) (v := undef) rfl (by kernel_rfl) (by kernel_rfl) (by kernel_rfl) (fun _ _ _ h => h) (Or.inr ⟨by kernel_rfl, rfl⟩) (by assumption) ?_
        try simp only [Act.put, qa14, qb14, qc14, qd14, qe14, qf14]
        refine wpAnyH_take (i := 6) (v := undef) rfl (by kernel_rfl) (by kernel_rfl) (by kernel_rfl) (fun _ _ _ h => h) (Or.inr ⟨by kernel_rfl, rfl⟩) (by assumption) ?_
        try simp only [Act.put, qa14, qb14, qc14, qd14, qe14, qf14]
        refine wpAnyH_take (i := 7) (v := undef) rfl (by kernel_rfl) (by kernel_rfl) (by kernel_rfl) (fun _ _ _ h => h) (Or.inr ⟨by kernel_rfl, rfl⟩) (by assumption) ?_
        try simp only [Act.put, qa14, qb14, qc14, qd14, qe14, qf14]
        refine wpAnyH_take (i := 8) (v := undef) rfl (by kernel_rfl) (by kernel_rfl) (by kernel_rfl) (fun _ _ _ h => h) (Or.inr ⟨by kernel_rfl, rfl⟩) (by assumption) ?_
        try simp only [Act.put, qa14, qb14, qc14, qd14, qe14, qf14]
        refine wpAnyH_take (i := 9) (v := undef) rfl (by kernel_rfl) (by kernel_rfl) (by kernel_rfl) (fun _ _ _ h => h) (Or.inr ⟨by kernel_rfl, rfl⟩) (by assumption) ?_
        try simp only [Act.put, qa14, qb14, qc14, qd14, qe14, qf14]
        refine wpAnyH_take (i := 10) (v := undef) rfl (by kernel_rfl) (by kernel_rfl) (by kernel_rfl) (fun _ _ _ h => h) (Or.inr ⟨by kernel_rfl, rfl⟩) (by assumption) ?_
        try simp only [Act.put, qa14, qb14, qc14, qd14, qe14, qf14]
        refine wpAnyH_take (i := 11) (v := undef) rfl (by kernel_rfl) (by kernel_rfl) (by kernel_rfl) (fun _ _ _ h => h) (Or.inr ⟨by kernel_rfl, rfl⟩) (by assumption) ?_
        try simp only [Act.put, qa14, qb14, qc14, qd14, qe14, qf14]
        refine wpAnyH_take (i := 12) (v := undef) rfl (by kernel_rfl) (by kernel_rfl) (by kernel_rfl) (fun _ _ _ h => h) (Or.inr ⟨by kernel_rfl, rfl⟩) (by assumption) ?_
        try simp only [Act.put, qa14, qb14, qc14, qd14, qe14, qf14]
        refine wpAnyH_take (i := 13) (v := undef) rfl (by kernel_rfl) (by kernel_rfl) (by kernel_rfl) (fun _ _ _ h => h) (Or.inr ⟨by kernel_rfl, rfl⟩) (by assumption) ?_
        try simp only [Act.put, qa14, qb14, qc14, qd14, qe14, qf14]
        refine wpAnyH_take (i := 14) (v := undef) rfl (by kernel_rfl) (by kernel_rfl) (by kernel_rfl) (fun _ _ _ h => h) (Or.inr ⟨by kernel_rfl, rfl⟩) (by assumption) ?_
        try simp only [Act.put, qa14, qb14, qc14, qd14, qe14, qf14]
        refine wpAnyH_take (i := 15) (v := undef) rfl (by kernel_rfl) (by kernel_rfl) (by kernel_rfl) (fun _ _ _ h => h) (Or.inr ⟨by kernel_rfl, rfl⟩) (by assumption) ?_
        try simp only [Act.put, qa14, qb14, qc14, qd14, qe14, qf14]
        refine wpAnyH_take (i := 16) (v := undef) rfl (by kernel_rfl) (by kernel_rfl) (by kernel_rfl) (fun _ _ _ h => h) (Or.inr ⟨by kernel_rfl, rfl⟩) (by assumption) ?_
        try simp only [Act.put, qa14, qb14, qc14, qd14, qe14, qf14]
        refine wpAnyH_take (i := 17) (v := undef) rfl (by kernel_rfl) (by kernel_rfl) (by kernel_rfl) (fun _ _ _ h => h) (Or.inr ⟨by kernel_rfl, rfl⟩) (by assumption) ?_
        try simp only [Act.put, qa14, qb14, qc14, qd14, qe14, qf14]
        refine wpAnyH_take (i := 18) (v := ?_) rfl (by kernel_rfl) (by kernel_rfl) (by kernel_rfl) (fun _ _ _ h => h) (Or.inl ⟨by kernel_rfl, ?y18⟩) (by assumption) ?_
        case y18 =>
          intro w0 hSw
          (try dsimp only at hSw)
          go_simp
          try with_reducible rfl
        try simp only [Act.put, qa14, qb14, qc14, qd14, qe14, qf14]
        refine wpAnyH_take (i := 19) (v := ?_) rfl (by kernel_rfl) (by kernel_rfl) (by kernel_rfl) (fun _ _ _ h => h) (Or.inl ⟨by kernel_rfl, ?y19⟩) (by assumption) ?_
        case y19 =>
          intro w0 hSw
          (try dsimp only at hSw)
          go_simp
          try with_reducible rfl
        try simp only [Act.put, qa14, qb14, qc14, qd14, qe14, qf14]
        refine wpAnyH_take (i := 20) (v := undef) rfl (by kernel_rfl) (by kernel_rfl) (by kernel_rfl) (fun _ _ _ h => h) (Or.inr ⟨by kernel_rfl, rfl⟩) (by assumption) ?_
        try simp only [Act.put, qa14, qb14, qc14, qd14, qe14, qf14]
        refine wpAnyH_take (i := 21) (v := undef) rfl (by kernel_rfl) (by kernel_rfl) (by kernel_rfl) (fun _ _ _ h => h) (Or.inr ⟨by kernel_rfl, rfl⟩) (by assumption) ?_
        try simp only [Act.put, qa14, qb14, qc14, qd14, qe14, qf14]
        refine wpAnyH_take (i := 22) (v := undef) rfl (by kernel_rfl) (by kernel_rfl) (by kernel_rfl) (fun _ _ _ h => h) (Or.inr ⟨by kernel_rfl, rfl⟩) (by assumption) ?_
        try simp only [Act.put, qa14, qb14, qc14, qd14, qe14, qf14]
        refine wpAnyH_take (i := 23) (v := undef) rfl (by kernel_rfl) (by kernel_rfl) (by kernel_rfl) (fun _ _ _ h => h) (Or.inr ⟨by kernel_rfl, rfl⟩) (by assumption) ?_
        try simp only [Act.put, qa14, qb14, qc14, qd14, qe14, qf14]
        refine wpAnyH_take (i := 24) (v := ?_) rfl (by kernel_rfl) (by kernel_rfl) (by kernel_rfl) (fun _ _ _ h => h) (Or.inl ⟨by kernel_rfl, ?y24⟩) (by assumption) ?_
        case y24 =>
          intro w0 hSw
          (try dsimp only at hSw)
          go_simp
          try with_reducible rfl
        try simp only [Act.put, qa14, qb14, qc14, qd14, qe14, qf14]
        refine wpAnyH_take (i := 25) (v := ?_) rfl (by kernel_rfl) (by kernel_rfl) (by kernel_rfl) (fun _ _ _ h => h) (Or.inl ⟨by kernel_rfl, ?y25⟩) (by assumption) ?_
        case y25 =>
          intro w0 hSw
          (try dsimp only at hSw)
          go_simp
          try with_reducible rfl
        try simp only [Act.put, qa14, qb14, qc14, qd14, qe14, qf14]
        refine wpAnyH_take (i := 26) (v := undef) rfl (by kernel_rfl) (by kernel_rfl) (by kernel_rfl) (fun _ _ _ h => h) (Or.inr ⟨by kernel_rfl, rfl⟩) (by assumption) ?_
        try simp only [Act.put, qa14, qb14, qc14, qd14, qe14, qf14]
        refine wpAnyH_take (i := 27) (v := undef) rfl (by kernel_rfl) (by kernel_rfl) (by kernel_rfl) (fun _ _ _ h => h) (Or.inr ⟨by kernel_rfl, rfl⟩) (by assumption) ?_
        try simp only [Act.put, qa14, qb14, qc14, qd14, qe14, qf14]
        refine wpAnyH_take (i := 28) (v := undef) rfl (by kernel_rfl) (by kernel_rfl) (by kernel_rfl) (fun _ _ _ h => h) (Or.inr ⟨by kernel_rfl, rfl⟩) (by assumption) ?_
        try simp only [Act.put, qa14, qb14, qc14, qd14, qe14, qf14]
        refine wpAnyH_take (i := 29) (v := ?_) rfl (by kernel_rfl) (by kernel_rfl) (by kernel_rfl) (fun _ _ _ h => h) (Or.inl ⟨by kernel_rfl, ?y29⟩) (by assumption) ?_
        case y29 =>
          intro w0 hSw
          (try dsimp only at hSw)
          go_simp
          try with_reducible rfl
        try simp only [Act.put, qa14, qb14, qc14, qd14, qe14, qf14]
        refine wpAnyH_take (i := 30) (v := ?_) rfl (by kernel_rfl) (by kernel_rfl) (by kernel_rfl) (fun _ _ _ h => h) (Or.inl ⟨by kernel_rfl, ?y30⟩) (by assumption) ?_
        case y30 =>
          intro w0 hSw
          (try dsimp only at hSw)
          go_simp
          try with_reducible rfl
        try simp only [Act.put, qa14, qb14, qc14, qd14, qe14, qf14]
        refine wpAnyH_take (i := 31) (v := undef) rfl (by kernel_rfl) (by kernel_rfl) (by kernel_rfl) (fun _ _ _ h => h) (Or.inr ⟨by kernel_rfl, rfl⟩) (by assumption) ?_
        try simp only [Act.put, qa14, qb14, qc14, qd14, qe14, qf14]
        refine wpAnyH_take (i := 32) (v := undef) rfl (by kernel_rfl) (by kernel_rfl) (by kernel_rfl) (fun _ _ _ h => h) (Or.inr ⟨by kernel_rfl, rfl⟩) (by assumption) ?_
        try simp only [Act.put, qa14, qb14, qc14, qd14, qe14, qf14]
        refine wpAnyH_take (i := 33) (v := undef) rfl (by kernel_rfl) (by kernel_rfl) (by kernel_rfl) (fun _ _ _ h => h) (Or.inr ⟨by kernel_rfl, rfl⟩) (by assumption) ?_
        try simp only [Act.put, qa14, qb14, qc14, qd14, qe14, qf14]
        refine wpAnyH_take (i := 34) (v := ?_) rfl (by kernel_rfl) (by kernel_rfl) (by kernel_rfl) (fun _ _ _ h => h) (Or.inl ⟨by kernel_rfl, ?y34⟩) (by assumption) ?_
        case y34 =>
          intro w0 hSw
          (try dsimp only at hSw)
          go_simp
          try with_reducible rfl
        try simp only [Act.put, qa14, qb14, qc14, qd14, qe14, qf14]
        refine wpAnyH_done (by kernel_rfl) ?_ _
        go_wp2
        refine bodyPost_ret (v := .tuple #[.pointer none, .int .i64 67]) (by simp [results, Tryz.results147, go_sem]) rfl ⟨none, 67, rfl, HBEL.out.trans ((hB6.trans (g4.mono (Nat.le_of_lt hs6))).mono hbsz), .inr ⟨hbad.out, rfl, rfl⟩⟩
      · have s1 : IntKind.i64.wrap ((k : Int) - 1) = (k : Int) - 1 := IntWalk.i64_in _ (by omega)
        have s2 : ((k : Int) - 1).toNat = k - 1 := by omega
        have s3 : (0 : Int) ≤ (k : Int) - 1 := by omega
        have s4 : (k : Int) - 1 < L.length := by omega
        have s5 : decide ((0 : Int) < (k : Int)) = true := decide_eq_true (by omega)
        have s6 : 0 < k := by omega
        have s9 : (1 : Int) ≤ (k : Int) := by omega
        have s8 : k - 1 < L.length := by omega
        have s7 : decide (0 < k) = true := decide_eq_true s6
        go_wp2
        obtain ⟨W6, hW6⟩ : ∃ W6, wr.alloc (.cells #[.string a.name, .int .i64 a.typ, .int .i64 a.opened, .bool a.closed] 159) = W6 := ⟨_, rfl⟩
        have hn6 : W6.heap[wr.heap.size]? = some (.cells #[.string a.name, .int .i64 a.typ, .int .i64 a.opened, .bool a.closed] 159 (0, 0)) := by rw [← hW6]; exact heap_alloc_new _ _
        have hB6 : Below wr.heap.size wr W6 := by rw [← hW6]; exact (Below.refl _ _).alloc (Nat.le_refl _) _
        have z0 : W6.cell? ⟨wr.heap.size, 0, none⟩ = some (.string a.name) := by rw [cell_of_blk hn6]; rfl
        have z1 : W6.cell? ⟨wr.heap.size, 1, none⟩ = some (.int .i64 a.typ) := by rw [cell_of_blk hn6]; rfl
        have z2 : W6.cell? ⟨wr.heap.size, 2, none⟩ = some (.int .i64 a.opened) := by rw [cell_of_blk hn6]; rfl
        have z3 : W6.cell? ⟨b, (k - 1) * 4, none⟩ = some (.string p.name) := (hB6.cell (p := ⟨b, (k - 1) * 4, none⟩) hbl).trans r0
        have hs6 : wr.heap.size < W6.heap.size := heap_lt hn6
        have hb6 : b < W6.heap.size := by omega
        have HN := Lib.hid hn6
        have hBd : Below W6.heap.size W6 W6.drew := (Below.refl _ _).drew
        rw [hW6]
        clear hW6 hn6 r0 q0 q1 q2 q3
        refine wp_region_held_drew (S := fun w' => w'.cell? ⟨wr.heap.size, 0, none⟩ = some (.string a.name) ∧ w'.cell? ⟨wr.heap.size, 1, none⟩ = some (.int .i64 a.typ) ∧ w'.cell? ⟨wr.heap.size, 2, none⟩ = some (.int .i64 a.opened) ∧ w'.cell? ⟨b, (k - 1) * 4, none⟩ = some (.string p.name) ∧ Below W6.heap.size W6 w') (by kernel_rfl) ⟨z0, z1, z2, z3, hBd⟩ (fun hHeld => ?_)
        refine wpAnyH_take (i := 0) (v := ?_) rfl (by kernel_rfl) (by kernel_rfl) (by kernel_rfl) (fun _ _ _ h => h) (Or.inl ⟨by kernel_rfl, ?y0⟩) (by assumption) ?_
        case y0 =>
          intro w0 hSw
          (try dsimp only at hSw)
          go_simp
          try with_reducible rfl
        try simp only [Act.put, qa14, qb14, qc14, qd14, qe14, qf14]
        refine wpAnyH_take (i := 1) (v := ?_) rfl (by kernel_rfl) (by kernel_rfl) (by kernel_rfl) (fun _ _ _ h => h) (Or.inl ⟨by kernel_rfl, ?y1⟩) (by assumption) ?_
        case y1 =>
          intro w0 hSw
          (try dsimp only at hSw)
          go_simp
          try with_reducible rfl
        try simp only [Act.put, qa14, qb14, qc14, qd14, qe14, qf14]
        refine wpAnyH_ready (rs := [2]) (by kernel_rfl) (by simp) (AllReadyH.cons rfl (fun K hK => ?_) AllReadyH.nil)
        go_simp
        go_at_call 6; refine (hg _).mono ?_; rintro e w7 ⟨rfl, hb7⟩; obtain ⟨g0, g1, g2, g3, g4⟩ := from_keep2 hb7 hs6 hb6 z0 z1 z2 z3 hBd
        go_wp2_with fail
        refine hK.out _ _ ⟨g0, g1, g2, g3, g4⟩ (fun hHeld => ?_)
        clear hK K
        try simp only [Act.put, qa14, qb14, qc14, qd14, qe14, qf14]
        refine wpAnyH_take (i := 3) (v := ?_) rfl (by kernel_rfl) (by kernel_rfl) (by kernel_rfl) (fun _ _ _ h => h) (Or.inl ⟨by kernel_rfl, ?y3⟩) (by assumption) ?_
        case y3 =>
          intro w0 hSw
          (try dsimp only at hSw)
          go_simp
          try with_reducible rfl
        try simp only [Act.put, qa14, qb14, qc14, qd14, qe14, qf14]
        refine wpAnyH_take (i := 4) (v := ?_) rfl (by kernel_rfl) (by kernel_rfl) (by kernel_rfl) (fun _ _ _ h => h) (Or.inl ⟨by kernel_rfl, ?y4⟩) (by assumption) ?_
        case y4 =>
          intro w0 hSw
          (try dsimp only at hSw)
          go_simp
          try with_reducible rfl
        try simp only [Act.put, qa14, qb14, qc14, qd14, qe14, qf14]
        refine wpAnyH_take (i := 5) (v := undef) rfl (by kernel_rfl) (by kernel_rfl) (by kernel_rfl) (fun _ _ _ h => h) (Or.inr ⟨by kernel_rfl, rfl⟩) (by assumption) ?_
        try simp only [Act.put, qa14, qb14, qc14, qd14, qe14, qf14]
        refine wpAnyH_take (i := 6) (v := undef) rfl (by kernel_rfl) (by kernel_rfl) (by kernel_rfl) (fun _ _ _ h => h) (Or.inr ⟨by kernel_rfl, rfl⟩) (by assumption) ?_
        try simp only [Act.put, qa14, qb14, qc14, qd14, qe14, qf14]
        refine wpAnyH_take (i := 7) (v := undef) rfl (by kernel_rfl) (by kernel_rfl) (by kernel_rfl) (fun _ _ _ h => h) (Or.inr ⟨by kernel_rfl, rfl⟩) (by assumption) ?_
        try simp only [Act.put, qa14, qb14, qc14, qd14, qe14, qf14]
        refine wpAnyH_take (i := 8) (v := undef) rfl (by kernel_rfl) (by kernel_rfl) (by kernel_rfl) (fun _ _ _ h => h) (Or.inr ⟨by kernel_rfl, rfl⟩) (by assumption) ?_
        try simp only [Act.put, qa14, qb14, qc14, qd14, qe14, qf14]
        refine wpAnyH_take (i := 9) (v := undef) rfl (by kernel_rfl) (by kernel_rfl) (by kernel_rfl) (fun _ _ _ h => h) (Or.inr ⟨by kernel_rfl, rfl⟩) (by assumption) ?_
        try simp only [Act.put, qa14, qb14, qc14, qd14, qe14, qf14]
        refine wpAnyH_take (i := 10) (v := undef) rfl (by kernel_rfl) (by kernel_rfl) (by kernel_rfl) (fun _ _ _ h => h) (Or.inr ⟨by kernel_rfl, rfl⟩) (by assumption) ?_
        try simp only [Act.put, qa14, qb14, qc14, qd14, qe14, qf14]
        refine wpAnyH_take (i := 11) (v := undef) rfl (by kernel_rfl) (by kernel_rfl) (by kernel_rfl) (fun _ _ _ h => h) (Or.inr ⟨by kernel_rfl, rfl⟩) (by assumption) ?_
        try simp only [Act.put, qa14, qb14, qc14, qd14, qe14, qf14]
        refine wpAnyH_take (i := 12) (v := undef) rfl (by kernel_rfl) (by kernel_rfl) (by kernel_rfl) (fun _ _ _ h => h) (Or.inr ⟨by kernel_rfl, rfl⟩) (by assumption) ?_
        try simp only [Act.put, qa14, qb14, qc14, qd14, qe14, qf14]
        refine wpAnyH_take (i := 13) (v := undef) rfl (by kernel_rfl) (by kernel_rfl) (by kernel_rfl) (fun _ _ _ h => h) (Or.inr ⟨by kernel_rfl, rfl⟩) (by assumption) ?_
        try simp only [Act.put, qa14, qb14, qc14, qd14, qe14, qf14]
        refine wpAnyH_take (i := 14) (v := undef) rfl (by kernel_rfl) (by kernel_rfl) (by kernel_rfl) (fun _ _ _ h => h) (Or.inr ⟨by kernel_rfl, rfl⟩) (by assumption) ?_
        try simp only [Act.put, qa14, qb14, qc14, qd14, qe14, qf14]
        refine wpAnyH_take (i := 15) (v := undef) rfl (by kernel_rfl) (by kernel_rfl) (by kernel_rfl) (fun _ _ _ h => h) (Or.inr ⟨by kernel_rfl, rfl⟩) (by assumption) ?_
        try simp only [Act.put, qa14, qb14, qc14, qd14, qe14, qf14]
        refine wpAnyH_take (i := 16) (v := undef) rfl (by kernel_rfl) (by kernel_rfl) (by kernel_rfl) (fun _ _ _ h => h) (Or.inr ⟨by kernel_rfl, rfl⟩) (by assumption) ?_
        try simp only [Act.put, qa14, qb14, qc14, qd14, qe14, qf14]
        refine wpAnyH_take (i := 17) (v := undef) rfl (by kernel_rfl) (by kernel_rfl) (by kernel_rfl) (fun _ _ _ h => h) (Or.inr ⟨by kernel_rfl, rfl⟩) (by assumption) ?_
        try simp only [Act.put, qa14, qb14, qc14, qd14, qe14, qf14]
        refine wpAnyH_take (i := 18) (v := ?_) rfl (by kernel_rfl) (by kernel_rfl) (by kernel_rfl) (fun _ _ _ h => h) (Or.inl ⟨by kernel_rfl, ?y18⟩) (by assumption) ?_
        case y18 =>
          intro w0 hSw
          (try dsimp only at hSw)
          go_simp
          try with_reducible rfl
        try simp only [Act.put, qa14, qb14, qc14, qd14, qe14, qf14]
        refine wpAnyH_take (i := 19) (v := ?_) rfl (by kernel_rfl) (by kernel_rfl) (by kernel_rfl) (fun _ _ _ h => h) (Or.inl ⟨by kernel_rfl, ?y19⟩) (by assumption) ?_
        case y19 =>
          intro w0 hSw
          (try dsimp only at hSw)
          go_simp
          try with_reducible rfl
        try simp only [Act.put, qa14, qb14, qc14, qd14, qe14, qf14]
        refine wpAnyH_take (i := 20) (v := undef) rfl (by kernel_rfl) (by kernel_rfl) (by kernel_rfl) (fun _ _ _ h => h) (Or.inr ⟨by kernel_rfl, rfl⟩) (by assumption) ?_
        try simp only [Act.put, qa14, qb14, qc14, qd14, qe14, qf14]
        refine wpAnyH_take (i := 21) (v := undef) rfl (by kernel_rfl) (by kernel_rfl) (by kernel_rfl) (fun _ _ _ h => h) (Or.inr ⟨by kernel_rfl, rfl⟩) (by assumption) ?_
        try simp only [Act.put, qa14, qb14, qc14, qd14, qe14, qf14]
        refine wpAnyH_take (i := 22) (v := undef) rfl (by kernel_rfl) (by kernel_rfl) (by kernel_rfl) (fun _ _ _ h => h) (Or.inr ⟨by kernel_rfl, rfl⟩) (by assumption) ?_
        try simp only [Act.put, qa14, qb14, qc14, qd14, qe14, qf14]
        refine wpAnyH_take (i := 23) (v := undef) rfl (by kernel_rfl) (by kernel_rfl) (by kernel_rfl) (fun _ _ _ h => h) (Or.inr ⟨by kernel_rfl, rfl⟩) (by assumption) ?_
        try simp only [Act.put, qa14, qb14, qc14, qd14, qe14, qf14]
        refine wpAnyH_take (i := 24) (v := ?_) rfl (by kernel_rfl) (by kernel_rfl) (by kernel_rfl) (fun _ _ _ h => h) (Or.inl ⟨by kernel_rfl, ?y24⟩) (by assumption) ?_
        case y24 =>
          intro w0 hSw
          (try dsimp only at hSw)
          go_simp
          try with_reducible rfl
        try simp only [Act.put, qa14, qb14, qc14, qd14, qe14, qf14]
        refine wpAnyH_take (i := 25) (v := ?_) rfl (by kernel_rfl) (by kernel_rfl) (by kernel_rfl) (fun _ _ _ h => h) (Or.inl ⟨by kernel_rfl, ?y25⟩) (by assumption) ?_
        case y25 =>
          intro w0 hSw
          (try dsimp only at hSw)
          go_simp
          try with_reducible rfl
        try simp only [Act.put, qa14, qb14, qc14, qd14, qe14, qf14]
        refine wpAnyH_take (i := 26) (v := undef) rfl (by kernel_rfl) (by kernel_rfl) (by kernel_rfl) (fun _ _ _ h => h) (Or.inr ⟨by kernel_rfl, rfl⟩) (by assumption) ?_
        try simp only [Act.put, qa14, qb14, qc14, qd14, qe14, qf14]
        refine wpAnyH_take (i := 27) (v := undef) rfl (by kernel_rfl) (by kernel_rfl) (by kernel_rfl) (fun _ _ _ h => h) (Or.inr ⟨by kernel_rfl, rfl⟩) (by assumption) ?_
        try simp only [Act.put, qa14, qb14, qc14, qd14, qe14, qf14]
        refine wpAnyH_take (i := 28) (v := undef) rfl (by kernel_rfl) (by kernel_rfl) (by kernel_rfl) (fun _ _ _ h => h) (Or.inr ⟨by kernel_rfl, rfl⟩) (by assumption) ?_
        try simp only [Act.put, qa14, qb14, qc14, qd14, qe14, qf14]
        refine wpAnyH_take (i := 29) (v := ?_) rfl (by kernel_rfl) (by kernel_rfl) (by kernel_rfl) (fun _ _ _ h => h) (Or.inl ⟨by kernel_rfl, ?y29⟩) (by assumption) ?_
        case y29 =>
          intro w0 hSw
          (try dsimp only at hSw)
          go_simp
          try with_reducible rfl
        try simp only [Act.put, qa14, qb14, qc14, qd14, qe14, qf14]
        refine wpAnyH_take (i := 30) (v := ?_) rfl (by kernel_rfl) (by kernel_rfl) (by kernel_rfl) (fun _ _ _ h => h) (Or.inl ⟨by kernel_rfl, ?y30⟩) (by assumption) ?_
        case y30 =>
          intro w0 hSw
          (try dsimp only at hSw)
          go_simp
          try with_reducible rfl
        try simp only [Act.put, qa14, qb14, qc14, qd14, qe14, qf14]
        refine wpAnyH_take (i := 31) (v := undef) rfl (by kernel_rfl) (by kernel_rfl) (by kernel_rfl) (fun _ _ _ h => h) (Or.inr ⟨by kernel_rfl, rfl⟩) (by assumption) ?_
        try simp only [Act.put, qa14, qb14, qc14, qd14, qe14, qf14]
        refine wpAnyH_take (i := 32) (v := undef) rfl (by kernel_rfl) (by kernel_rfl) (by kernel_rfl) (fun _ _ _ h => h) (Or.inr ⟨by kernel_rfl, rfl⟩) (by assumption) ?_
        try simp only [Act.put, qa14, qb14, qc14, qd14, qe14, qf14]
        refine wpAnyH_take (i := 33) (v := undef) rfl (by kernel_rfl) (by kernel_rfl) (by kernel_rfl) (fun _ _ _ h => h) (Or.inr ⟨by kernel_rfl, rfl⟩) (by assumption) ?_
        try simp only [Act.put, qa14, qb14, qc14, qd14, qe14, qf14]
        refine wpAnyH_take (i := 34) (v := ?_) rfl (by kernel_rfl) (by kernel_rfl) (by kernel_rfl) (fun _ _ _ h => h) (Or.inl ⟨by kernel_rfl, ?y34⟩) (by assumption) ?_
        case y34 =>
          intro w0 hSw
          (try dsimp only at hSw)
          go_simp
          try with_reducible rfl
        try simp only [Act.put, qa14, qb14, qc14, qd14, qe14, qf14]
        refine wpAnyH_done (by kernel_rfl) ?_ _
        go_wp2
        refine bodyPost_ret (v := .tuple #[.pointer none, .int .i64 67]) (by simp [results, Tryz.results147, go_sem]) rfl ⟨none, 67, rfl, HBEL.out.trans ((hB6.trans (g4.mono (Nat.le_of_lt hs6))).mono hbsz), .inr ⟨hbad.out, rfl, rfl⟩⟩
    | true =>
    rw [hgb] at hg
    have HGB := Lib.hid hgb
    clear hgb
    by_cases hk0 : k = 0
    case neg =>
      by_cases hord : cmpB p.name a.name < 0
      case neg =>
        have hbad : Hid (¬ Valid L) := Lib.hid fun hv => by have := rising_get hv.rising hlt (show k - 1 < k by omega); rw [← HA.out, ← HP.out] at this; exact hord this
        have ho : Op.bytesLess p.name.toList a.name.toList = false := by rw [bytesLess_cmp]; exact decide_eq_false hord
        clear hord
        have s1 : IntKind.i64.wrap ((k : Int) - 1) = (k : Int) - 1 := IntWalk.i64_in _ (by omega)
        have s2 : ((k : Int) - 1).toNat = k - 1 := by omega
        have s3 : (0 : Int) ≤ (k : Int) - 1 := by omega
        have s4 : (k : Int) - 1 < L.length := by omega
        have s5 : decide ((0 : Int) < (k : Int)) = true := decide_eq_true (by omega)
        have s6 : 0 < k := by omega
        have s9 : (1 : Int) ≤ (k : Int) := by omega
        have s8 : k - 1 < L.length := by omega
        have s7 : decide (0 < k) = true := decide_eq_true s6
        go_wp2
        obtain ⟨W6, hW6⟩ : ∃ W6, wr.alloc (.cells #[.string a.name, .int .i64 a.typ, .int .i64 a.opened, .bool a.closed] 159) = W6 := ⟨_, rfl⟩
        have hn6 : W6.heap[wr.heap.size]? = some (.cells #[.string a.name, .int .i64 a.typ, .int .i64 a.opened, .bool a.closed] 159 (0, 0)) := by rw [← hW6]; exact heap_alloc_new _ _
        have hB6 : Below wr.heap.size wr W6 := by rw [← hW6]; exact (Below.refl _ _).alloc (Nat.le_refl _) _
        have z0 : W6.cell? ⟨wr.heap.size, 0, none⟩ = some (.string a.name) := by rw [cell_of_blk hn6]; rfl
        have z1 : W6.cell? ⟨wr.heap.size, 1, none⟩ = some (.int .i64 a.typ) := by rw [cell_of_blk hn6]; rfl
        have z2 : W6.cell? ⟨wr.heap.size, 2, none⟩ = some (.int .i64 a.opened) := by rw [cell_of_blk hn6]; rfl
        have z3 : W6.cell? ⟨b, (k - 1) * 4, none⟩ = some (.string p.name) := (hB6.cell (p := ⟨b, (k - 1) * 4, none⟩) hbl).trans r0
        have hs6 : wr.heap.size < W6.heap.size := heap_lt hn6
        have hb6 : b < W6.heap.size := by omega
        have HN := Lib.hid hn6
        have hBd : Below W6.heap.size W6 W6.drew := (Below.refl _ _).drew
        rw [hW6]
        clear hW6 hn6 r0 q0 q1 q2 q3
        refine wp_region_held_drew (S := fun w' => w'.cell? ⟨wr.heap.size, 0, none⟩ = some (.string a.name) ∧ w'.cell? ⟨wr.heap.size, 1, none⟩ = some (.int .i64 a.typ) ∧ w'.cell? ⟨wr.heap.size, 2, none⟩ = some (.int .i64 a.opened) ∧ w'.cell? ⟨b, (k - 1) * 4, none⟩ = some (.string p.name) ∧ Below W6.heap.size W6 w') (by kernel_rfl) ⟨z0, z1, z2, z3, hBd⟩ (fun hHeld => ?_)
        refine wpAnyH_take (i := 0) (v := ?_) rfl (by kernel_rfl) (by kernel_rfl) (by kernel_rfl) (fun _ _ _ h => h) (Or.inl ⟨by kernel_rfl, ?y0⟩) (by assumption) ?_
        case y0 =>
          intro w0 hSw
          (try dsimp only at hSw)
          go_simp
          try with_reducible rfl
        try simp only [Act.put, qa14, qb14, qc14, qd14, qe14, qf14]
        refine wpAnyH_take (i := 1) (v := ?_) rfl (by kernel_rfl) (by kernel_rfl) (by kernel_rfl) (fun _ _ _ h => h) (Or.inl ⟨by kernel_rfl, ?y1⟩) (by assumption) ?_
        case y1 =>
          intro w0 hSw
          (try dsimp only at hSw)
          go_simp
          try with_reducible rfl
        try simp only [Act.put, qa14, qb14, qc14, qd14, qe14, qf14]
        refine wpAnyH_ready (rs := [2]) (by kernel_rfl) (by simp) (AllReadyH.cons rfl (fun K hK => ?_) AllReadyH.nil)
        go_simp
        go_at_call 6; refine (hg _).mono ?_; rintro e w7 ⟨rfl, hb7⟩; obtain ⟨g0, g1, g2, g3, g4⟩ := from_keep2 hb7 hs6 hb6 z0 z1 z2 z3 hBd
        go_wp2_with fail
        refine hK.out _ _ ⟨g0, g1, g2, g3, g4⟩ (fun hHeld => ?_)
        clear hK K
        try simp only [Act.put, qa14, qb14, qc14, qd14, qe14, qf14]
        refine wpAnyH_take (i := 3) (v := ?_) rfl (by kernel_rfl) (by kernel_rfl) (by kernel_rfl) (fun _ _ _ h => h) (Or.inl ⟨by kernel_rfl, ?y3⟩) (by assumption) ?_
        case y3 =>
          intro w0 hSw
          (try dsimp only at hSw)
          go_simp
          try with_reducible rfl
        try simp only [Act.put, qa14, qb14, qc14, qd14, qe14, qf14]
        refine wpAnyH_take (i := 4) (v := ?_) rfl (by kernel_rfl) (by kernel_rfl) (by kernel_rfl) (fun _ _ _ h => h) (Or.inl ⟨by kernel_rfl, ?y4⟩) (by assumption) ?_
        case y4 =>
          intro w0 hSw
          (try dsimp only at hSw)
          go_simp
          try with_reducible rfl
        try simp only [Act.put, qa14, qb14, qc14, qd14, qe14, qf14]
        refine wpAnyH_take (i := 5) (v := ?_) rfl (by kernel_rfl) (by kernel_rfl) (by kernel_rfl) (fun _ _ _ h => h) (Or.inl ⟨by kernel_rfl, ?y5⟩) (by assumption) ?_
        case y5 =>
          intro w0 hSw
          (try dsimp only at hSw)
          go_simp
          try with_reducible rfl
        try simp only [Act.put, qa14, qb14, qc14, qd14, qe14, qf14]
        refine wpAnyH_take (i := 6) (v := ?_) rfl (by kernel_rfl) (by kernel_rfl) (by kernel_rfl) (fun _ _ _ h => h) (Or.inl ⟨by kernel_rfl, ?y6⟩) (by assumption) ?_
        case y6 =>
          intro w0 hSw
          (try dsimp only at hSw)
          go_simp
          try with_reducible rfl
        try simp only [Act.put, qa14, qb14, qc14, qd14, qe14, qf14]
        refine wpAnyH_take (i := 7) (v := ?_) rfl (by kernel_rfl) (by kernel_rfl) (by kernel_rfl) (fun _ _ _ h => h) (Or.inl ⟨by kernel_rfl, ?y7⟩) (by assumption) ?_
        case y7 =>
          intro w0 hSw
          (try dsimp only at hSw)
          go_simp
          try with_reducible rfl
        try simp only [Act.put, qa14, qb14, qc14, qd14, qe14, qf14]
        refine wpAnyH_take (i := 8) (v := ?_) rfl (by kernel_rfl) (by kernel_rfl) (by kernel_rfl) (fun _ _ _ h => h) (Or.inl ⟨by kernel_rfl, ?y8⟩) (by assumption) ?_
        case y8 =>
          intro w0 hSw
          (try dsimp only at hSw)
          go_simp
          try with_reducible rfl
        try simp only [Act.put, qa14, qb14, qc14, qd14, qe14, qf14]
        refine wpAnyH_take (i := 9) (v := ?_) rfl (by kernel_rfl) (by kernel_rfl) (by kernel_rfl) (fun _ _ _ h => h) (Or.inl ⟨by kernel_rfl, ?y9⟩) (by assumption) ?_
        case y9 =>
          intro w0 hSw
          (try dsimp only at hSw)
          go_simp
          try with_reducible rfl
        try simp only [Act.put, qa14, qb14, qc14, qd14, qe14, qf14]
        refine wpAnyH_take (i := 10) (v := ?_) rfl (by kernel_rfl) (by kernel_rfl) (by kernel_rfl) (fun _ _ _ h => h) (Or.inl ⟨by kernel_rfl, ?y10⟩) (by assumption) ?_
        case y10 =>
          intro w0 hSw
          (try dsimp only at hSw)
          go_simp
          try with_reducible rfl
        try simp only [Act.put, qa14, qb14, qc14, qd14, qe14, qf14]
        refine wpAnyH_take (i := 11) (v := ?_) rfl (by kernel_rfl) (by kernel_rfl) (by kernel_rfl) (fun _ _ _ h => h) (Or.inl ⟨by kernel_rfl, ?y11⟩) (by assumption) ?_
        case y11 =>
          intro w0 hSw
          (try dsimp only at hSw)
          go_simp
          try with_reducible rfl
        try simp only [Act.put, qa14, qb14, qc14, qd14, qe14, qf14]
        refine wpAnyH_take (i := 12) (v := ?_) rfl (by kernel_rfl) (by kernel_rfl) (by kernel_rfl) (fun _ _ _ h => h) (Or.inl ⟨by kernel_rfl, ?y12⟩) (by assumption) ?_
        case y12 =>
          intro w0 hSw
          (try dsimp only at hSw)
          go_simp
          try with_reducible rfl
        try simp only [Act.put, qa14, qb14, qc14, qd14, qe14, qf14]
        refine wpAnyH_take (i := 13) (v := ?_) rfl (by kernel_rfl) (by kernel_rfl) (by kernel_rfl) (fun _ _ _ h => h) (Or.inl ⟨by kernel_rfl, ?y13⟩) (by assumption) ?_
        case y13 =>
          intro w0 hSw
          (try dsimp only at hSw)
          go_simp
          try with_reducible rfl
        try simp only [Act.put, qa14, qb14, qc14, qd14, qe14, qf14]
        refine wpAnyH_take (i := 14) (v := ?_) rfl (by kernel_rfl) (by kernel_rfl) (by kernel_rfl) (fun _ _ _ h => h) (Or.inl ⟨by kernel_rfl, ?y14⟩) (by assumption) ?_
        case y14 =>
          intro w0 hSw
          (try dsimp only at hSw)
          go_simp
          try with_reducible rfl
        try simp only [Act.put, qa14, qb14, qc14, qd14, qe14, qf14]
        refine wpAnyH_take (i := 15) (v := ?_) rfl (by kernel_rfl) (by kernel_rfl) (by kernel_rfl) (fun _ _ _ h => h) (Or.inl ⟨by kernel_rfl, ?y15⟩) (by assumption) ?_
        case y15 =>
          intro w0 hSw
          (try dsimp only at hSw)
          go_simp
          try with_reducible rfl
        try simp only [Act.put, qa14, qb14, qc14, qd14, qe14, qf14]
        refine wpAnyH_take (i := 16) (v := ?_) rfl (by kernel_rfl) (by kernel_rfl) (by kernel_rfl) (fun _ _ _ h => h) (Or.inl ⟨by kernel_rfl, ?y16⟩) (by assumption) ?_
        case y16 =>
          intro w0 hSw
          (try dsimp only at hSw)
          go_simp
          try with_reducible rfl
        try simp only [Act.put, qa14, qb14, qc14, qd14, qe14, qf14]
        refine wpAnyH_take (i := 17) (v := ?_) rfl (by kernel_rfl) (by kernel_rfl) (by kernel_rfl) (fun _ _ _ h => h) (Or.inl ⟨by kernel_rfl, ?y17⟩) (by assumption) ?_
        case y17 =>
          intro w0 hSw
          (try dsimp only at hSw)
          go_simp
          try with_reducible rfl
        try simp only [Act.put, qa14, qb14, qc14, qd14, qe14, qf14]
        refine wpAnyH_take (i := 18) (v := ?_) rfl (by kernel_rfl) (by kernel_rfl) (by kernel_rfl) (fun _ _ _ h => h) (Or.inl ⟨by kernel_rfl, ?y18⟩) (by assumption) ?_
        case y18 =>
          intro w0 hSw
          (try dsimp only at hSw)
          go_simp
          try with_reducible rfl
        try simp only [Act.put, qa14, qb14, qc14, qd14, qe14, qf14]
        refine wpAnyH_take (i := 19) (v := ?_) rfl (by kernel_rfl) (by kernel_rfl) (by kernel_rfl) (fun _ _ _ h => h) (Or.inl ⟨by kernel_rfl, ?y19⟩) (by assumption) ?_
        case y19 =>
          intro w0 hSw
          (try dsimp only at hSw)
          go_simp
          try with_reducible rfl
        try simp only [Act.put, qa14, qb14, qc14, qd14, qe14, qf14]
        refine wpAnyH_take (i := 20) (v := undef) rfl (by kernel_rfl) (by kernel_rfl) (by kernel_rfl) (fun _ _ _ h => h) (Or.inr ⟨by kernel_rfl, rfl⟩) (by assumption) ?_
        try simp only [Act.put, qa14, qb14, qc14, qd14, qe14, qf14]
        refine wpAnyH_take (i := 21) (v := undef) rfl (by kernel_rfl) (by kernel_rfl) (by kernel_rfl) (fun _ _ _ h => h) (Or.inr ⟨by kernel_rfl, rfl⟩) (by assumption) ?_
        try simp only [Act.put, qa14, qb14, qc14, qd14, qe14, qf14]
        refine wpAnyH_take (i := 22) (v := undef) rfl (by kernel_rfl) (by kernel_rfl) (by kernel_rfl) (fun _ _ _ h => h) (Or.inr ⟨by kernel_rfl, rfl⟩) (by assumption) ?_
        try simp only [Act.put, qa14, qb14, qc14, qd14, qe14, qf14]
        refine wpAnyH_take (i := 23) (v := undef) rfl (by kernel_rfl) (by kernel_rfl) (by kernel_rfl) (fun _ _ _ h => h) (Or.inr ⟨by kernel_rfl, rfl⟩) (by assumption) ?_
        try simp only [Act.put, qa14, qb14, qc14, qd14, qe14, qf14]
        refine wpAnyH_take (i := 24) (v := ?_) rfl (by kernel_rfl) (by kernel_rfl) (by kernel_rfl) (fun _ _ _ h => h) (Or.inl ⟨by kernel_rfl, ?y24⟩) (by assumption) ?_
        case y24 =>
          intro w0 hSw
          (try dsimp only at hSw)
          go_simp
          try with_reducible rfl
        try simp only [Act.put, qa14, qb14, qc14, qd14, qe14, qf14]
        refine wpAnyH_take (i := 25) (v := ?_) rfl (by kernel_rfl) (by kernel_rfl) (by kernel_rfl) (fun _ _ _ h => h) (Or.inl ⟨by kernel_rfl, ?y25⟩) (by assumption) ?_
        case y25 =>
          intro w0 hSw
          (try dsimp only at hSw)
          go_simp
          try with_reducible rfl
        try simp only [Act.put, qa14, qb14, qc14, qd14, qe14, qf14]
        refine wpAnyH_take (i := 26) (v := undef) rfl (by kernel_rfl) (by kernel_rfl) (by kernel_rfl) (fun _ _ _ h => h) (Or.inr ⟨by kernel_rfl, rfl⟩) (by assumption) ?_
        try simp only [Act.put, qa14, qb14, qc14, qd14, qe14, qf14]
        refine wpAnyH_take (i := 27) (v := undef) rfl (by kernel_rfl) (by kernel_rfl) (by kernel_rfl) (fun _ _ _ h => h) (Or.inr ⟨by kernel_rfl, rfl⟩) (by assumption) ?_
        try simp only [Act.put, qa14, qb14, qc14, qd14, qe14, qf14]
        refine wpAnyH_take (i := 28) (v := undef) rfl (by kernel_rfl) (by kernel_rfl) (by kernel_rfl) (fun _ _ _ h => h) (Or.inr ⟨by kernel_rfl, rfl⟩) (by assumption) ?_
        try simp only [Act.put, qa14, qb14, qc14, qd14, qe14, qf14]
        refine wpAnyH_take (i := 29) (v := ?_) rfl (by kernel_rfl) (by kernel_rfl) (by kernel_rfl) (fun _ _ _ h => h) (Or.inl ⟨by kernel_rfl, ?y29⟩) (by assumption) ?_
        case y29 =>
          intro w0 hSw
          (try dsimp only at hSw)
          go_simp
          try with_reducible rfl
        try simp only [Act.put, qa14, qb14, qc14, qd14, qe14, qf14]
        refine wpAnyH_take (i := 30) (v := ?_) rfl (by kernel_rfl) (by kernel_rfl) (by kernel_rfl) (fun _ _ _ h => h) (Or.inl ⟨by kernel_rfl, ?y30⟩) (by assumption) ?_
        case y30 =>
          intro w0 hSw
          (try dsimp only at hSw)
          go_simp
          try with_reducible rfl
        try simp only [Act.put, qa14, qb14, qc14, qd14, qe14, qf14]
        refine wpAnyH_take (i := 31) (v := undef) rfl (by kernel_rfl) (by kernel_rfl) (by kernel_rfl) (fun _ _ _ h => h) (Or.inr ⟨by kernel_rfl, rfl⟩) (by assumption) ?_
        try simp only [Act.put, qa14, qb14, qc14, qd14, qe14, qf14]
        refine wpAnyH_take (i := 32) (v := undef) rfl (by kernel_rfl) (by kernel_rfl) (by kernel_rfl) (fun _ _ _ h => h) (Or.inr ⟨by kernel_rfl, rfl⟩) (by assumption) ?_
        try simp only [Act.put, qa14, qb14, qc14, qd14, qe14, qf14]
        refine wpAnyH_take (i := 33) (v := undef) rfl (by kernel_rfl) (by kernel_rfl) (by kernel_rfl) (fun _ _ _ h => h) (Or.inr ⟨by kernel_rfl, rfl⟩) (by assumption) ?_
        try simp only [Act.put, qa14, qb14, qc14, qd14, qe14, qf14]
        refine wpAnyH_take (i := 34) (v := ?_) rfl (by kernel_rfl) (by kernel_rfl) (by kernel_rfl) (fun _ _ _ h => h) (Or.inl ⟨by kernel_rfl, ?y34⟩) (by assumption) ?_
        case y34 =>
          intro w0 hSw
          (try dsimp only at hSw)
          go_simp
          try with_reducible rfl
        try simp only [Act.put, qa14, qb14, qc14, qd14, qe14, qf14]
        refine wpAnyH_done (by kernel_rfl) ?_ _
        go_wp2
        refine bodyPost_ret (v := .tuple #[.pointer none, .int .i64 67]) (by simp [results, Tryz.results147, go_sem]) rfl ⟨none, 67, rfl, HBEL.out.trans ((hB6.trans (g4.mono (Nat.le_of_lt hs6))).mono hbsz), .inr ⟨hbad.out, rfl, rfl⟩⟩
      have ho : Op.bytesLess p.name.toList a.name.toList = true := by rw [bytesLess_cmp]; exact decide_eq_true hord
      have HORD : Hid (∀ (h : 0 < k), cmpB (L[k - 1]'(by omega)).name L[k].name < 0) := Lib.hid fun h => by rw [← HA.out, ← HP.out]; exact hord
      clear hord
      by_cases hdy : 1 ≤ a.opened ∧ a.opened ≤ 3652059
      case neg =>
        have hbad : Hid (¬ Valid L) := Lib.hid fun hv => hdy (hv.day a (HA.out ▸ List.getElem_mem hlt))
        simp only [decide_eq_false hdy] at hdd
        clear hdy
        have s1 : IntKind.i64.wrap ((k : Int) - 1) = (k : Int) - 1 := IntWalk.i64_in _ (by omega)
        have s2 : ((k : Int) - 1).toNat = k - 1 := by omega
        have s3 : (0 : Int) ≤ (k : Int) - 1 := by omega
        have s4 : (k : Int) - 1 < L.length := by omega
        have s5 : decide ((0 : Int) < (k : Int)) = true := decide_eq_true (by omega)
        have s6 : 0 < k := by omega
        have s9 : (1 : Int) ≤ (k : Int) := by omega
        have s8 : k - 1 < L.length := by omega
        have s7 : decide (0 < k) = true := decide_eq_true s6
        go_wp2
        obtain ⟨W6, hW6⟩ : ∃ W6, wr.alloc (.cells #[.string a.name, .int .i64 a.typ, .int .i64 a.opened, .bool a.closed] 159) = W6 := ⟨_, rfl⟩
        have hn6 : W6.heap[wr.heap.size]? = some (.cells #[.string a.name, .int .i64 a.typ, .int .i64 a.opened, .bool a.closed] 159 (0, 0)) := by rw [← hW6]; exact heap_alloc_new _ _
        have hB6 : Below wr.heap.size wr W6 := by rw [← hW6]; exact (Below.refl _ _).alloc (Nat.le_refl _) _
        have z0 : W6.cell? ⟨wr.heap.size, 0, none⟩ = some (.string a.name) := by rw [cell_of_blk hn6]; rfl
        have z1 : W6.cell? ⟨wr.heap.size, 1, none⟩ = some (.int .i64 a.typ) := by rw [cell_of_blk hn6]; rfl
        have z2 : W6.cell? ⟨wr.heap.size, 2, none⟩ = some (.int .i64 a.opened) := by rw [cell_of_blk hn6]; rfl
        have z3 : W6.cell? ⟨b, (k - 1) * 4, none⟩ = some (.string p.name) := (hB6.cell (p := ⟨b, (k - 1) * 4, none⟩) hbl).trans r0
        have hs6 : wr.heap.size < W6.heap.size := heap_lt hn6
        have hb6 : b < W6.heap.size := by omega
        have HN := Lib.hid hn6
        have hBd : Below W6.heap.size W6 W6.drew := (Below.refl _ _).drew
        rw [hW6]
        clear hW6 hn6 r0 q0 q1 q2 q3
        refine wp_region_held_drew (S := fun w' => w'.cell? ⟨wr.heap.size, 0, none⟩ = some (.string a.name) ∧ w'.cell? ⟨wr.heap.size, 1, none⟩ = some (.int .i64 a.typ) ∧ w'.cell? ⟨wr.heap.size, 2, none⟩ = some (.int .i64 a.opened) ∧ w'.cell? ⟨b, (k - 1) * 4, none⟩ = some (.string p.name) ∧ Below W6.heap.size W6 w') (by kernel_rfl) ⟨z0, z1, z2, z3, hBd⟩ (fun hHeld => ?_)
        refine wpAnyH_take (i := 0) (v := ?_) rfl (by kernel_rfl) (by kernel_rfl) (by kernel_rfl) (fun _ _ _ h => h) (Or.inl ⟨by kernel_rfl, ?y0⟩) (by assumption) ?_
        case y0 =>
          intro w0 hSw
          (try dsimp only at hSw)
          go_simp
          try with_reducible rfl
        try simp only [Act.put, qa14, qb14, qc14, qd14, qe14, qf14]
        refine wpAnyH_take (i := 1) (v := ?_) rfl (by kernel_rfl) (by kernel_rfl) (by kernel_rfl) (fun _ _ _ h => h) (Or.inl ⟨by kernel_rfl, ?y1⟩) (by assumption) ?_
        case y1 =>
          intro w0 hSw
          (try dsimp only at hSw)
          go_simp
          try with_reducible rfl
        try simp only [Act.put, qa14, qb14, qc14, qd14, qe14, qf14]
        refine wpAnyH_ready (rs := [2]) (by kernel_rfl) (by simp) (AllReadyH.cons rfl (fun K hK => ?_) AllReadyH.nil)
        go_simp
        go_at_call 6; refine (hg _).mono ?_; rintro e w7 ⟨rfl, hb7⟩; obtain ⟨g0, g1, g2, g3, g4⟩ := from_keep2 hb7 hs6 hb6 z0 z1 z2 z3 hBd
        go_wp2_with fail
        refine hK.out _ _ ⟨g0, g1, g2, g3, g4⟩ (fun hHeld => ?_)
        clear hK K
        try simp only [Act.put, qa14, qb14, qc14, qd14, qe14, qf14]
        refine wpAnyH_take (i := 3) (v := ?_) rfl (by kernel_rfl) (by kernel_rfl) (by kernel_rfl) (fun _ _ _ h => h) (Or.inl ⟨by kernel_rfl, ?y3⟩) (by assumption) ?_
        case y3 =>
          intro w0 hSw
          (try dsimp only at hSw)
          go_simp
          try with_reducible rfl
        try simp only [Act.put, qa14, qb14, qc14, qd14, qe14, qf14]
        refine wpAnyH_take (i := 4) (v := ?_) rfl (by kernel_rfl) (by kernel_rfl) (by kernel_rfl) (fun _ _ _ h => h) (Or.inl ⟨by kernel_rfl, ?y4⟩) (by assumption) ?_
        case y4 =>
          intro w0 hSw
          (try dsimp only at hSw)
          go_simp
          try with_reducible rfl
        try simp only [Act.put, qa14, qb14, qc14, qd14, qe14, qf14]
        refine wpAnyH_take (i := 5) (v := ?_) rfl (by kernel_rfl) (by kernel_rfl) (by kernel_rfl) (fun _ _ _ h => h) (Or.inl ⟨by kernel_rfl, ?y5⟩) (by assumption) ?_
        case y5 =>
          intro w0 hSw
          (try dsimp only at hSw)
          go_simp
          try with_reducible rfl
        try simp only [Act.put, qa14, qb14, qc14, qd14, qe14, qf14]
        refine wpAnyH_take (i := 6) (v := ?_) rfl (by kernel_rfl) (by kernel_rfl) (by kernel_rfl) (fun _ _ _ h => h) (Or.inl ⟨by kernel_rfl, ?y6⟩) (by assumption) ?_
        case y6 =>
          intro w0 hSw
          (try dsimp only at hSw)
          go_simp
          try with_reducible rfl
        try simp only [Act.put, qa14, qb14, qc14, qd14, qe14, qf14]
        refine wpAnyH_take (i := 7) (v := ?_) rfl (by kernel_rfl) (by kernel_rfl) (by kernel_rfl) (fun _ _ _ h => h) (Or.inl ⟨by kernel_rfl, ?y7⟩) (by assumption) ?_
        case y7 =>
          intro w0 hSw
          (try dsimp only at hSw)
          go_simp
          try with_reducible rfl
        try simp only [Act.put, qa14, qb14, qc14, qd14, qe14, qf14]
        refine wpAnyH_take (i := 8) (v := ?_) rfl (by kernel_rfl) (by kernel_rfl) (by kernel_rfl) (fun _ _ _ h => h) (Or.inl ⟨by kernel_rfl, ?y8⟩) (by assumption) ?_
        case y8 =>
          intro w0 hSw
          (try dsimp only at hSw)
          go_simp
          try with_reducible rfl
        try simp only [Act.put, qa14, qb14, qc14, qd14, qe14, qf14]
        refine wpAnyH_take (i := 9) (v := ?_) rfl (by kernel_rfl) (by kernel_rfl) (by kernel_rfl) (fun _ _ _ h => h) (Or.inl ⟨by kernel_rfl, ?y9⟩) (by assumption) ?_
        case y9 =>
          intro w0 hSw
          (try dsimp only at hSw)
          go_simp
          try with_reducible rfl
        try simp only [Act.put, qa14, qb14, qc14, qd14, qe14, qf14]
        refine wpAnyH_take (i := 10) (v := ?_) rfl (by kernel_rfl) (by kernel_rfl) (by kernel_rfl) (fun _ _ _ h => h) (Or.inl ⟨by kernel_rfl, ?y10⟩) (by assumption) ?_
        case y10 =>
          intro w0 hSw
          (try dsimp only at hSw)
          go_simp
          try with_reducible rfl
        try simp only [Act.put, qa14, qb14, qc14, qd14, qe14, qf14]
        refine wpAnyH_take (i := 11) (v := ?_) rfl (by kernel_rfl) (by kernel_rfl) (by kernel_rfl) (fun _ _ _ h => h) (Or.inl ⟨by kernel_rfl, ?y11⟩) (by assumption) ?_
        case y11 =>
          intro w0 hSw
          (try dsimp only at hSw)
          go_simp
          try with_reducible rfl
        try simp only [Act.put, qa14, qb14, qc14, qd14, qe14, qf14]
        refine wpAnyH_take (i := 12) (v := ?_) rfl (by kernel_rfl) (by kernel_rfl) (by kernel_rfl) (fun _ _ _ h => h) (Or.inl ⟨by kernel_rfl, ?y12⟩) (by assumption) ?_
        case y12 =>
          intro w0 hSw
          (try dsimp only at hSw)
          go_simp
          try with_reducible rfl
        try simp only [Act.put, qa14, qb14, qc14, qd14, qe14, qf14]
        refine wpAnyH_take (i := 13) (v := ?_) rfl (by kernel_rfl) (by kernel_rfl) (by kernel_rfl) (fun _ _ _ h => h) (Or.inl ⟨by kernel_rfl, ?y13⟩) (by assumption) ?_
        case y13 =>
          intro w0 hSw
          (try dsimp only at hSw)
          go_simp
          try with_reducible rfl
        try simp only [Act.put, qa14, qb14, qc14, qd14, qe14, qf14]
        refine wpAnyH_take (i := 14) (v := ?_) rfl (by kernel_rfl) (by kernel_rfl) (by kernel_rfl) (fun _ _ _ h => h) (Or.inl ⟨by kernel_rfl, ?y14⟩) (by assumption) ?_
        case y14 =>
          intro w0 hSw
          (try dsimp only at hSw)
          go_simp
          try with_reducible rfl
        try simp only [Act.put, qa14, qb14, qc14, qd14, qe14, qf14]
        refine wpAnyH_take (i := 15) (v := ?_) rfl (by kernel_rfl) (by kernel_rfl) (by kernel_rfl) (fun _ _ _ h => h) (Or.inl ⟨by kernel_rfl, ?y15⟩) (by assumption) ?_
        case y15 =>
          intro w0 hSw
          (try dsimp only at hSw)
          go_simp
          try with_reducible rfl
        try simp only [Act.put, qa14, qb14, qc14, qd14, qe14, qf14]
        refine wpAnyH_take (i := 16) (v := ?_) rfl (by kernel_rfl) (by kernel_rfl) (by kernel_rfl) (fun _ _ _ h => h) (Or.inl ⟨by kernel_rfl, ?y16⟩) (by assumption) ?_
        case y16 =>
          intro w0 hSw
          (try dsimp only at hSw)
          go_simp
          try with_reducible rfl
        try simp only [Act.put, qa14, qb14, qc14, qd14, qe14, qf14]
        refine wpAnyH_take (i := 17) (v := ?_) rfl (by kernel_rfl) (by kernel_rfl) (by kernel_rfl) (fun _ _ _ h => h) (Or.inl ⟨by kernel_rfl, ?y17⟩) (by assumption) ?_
        case y17 =>
          intro w0 hSw
          (try dsimp only at hSw)
          go_simp
          try with_reducible rfl
        try simp only [Act.put, qa14, qb14, qc14, qd14, qe14, qf14]
        refine wpAnyH_take (i := 18) (v := ?_) rfl (by kernel_rfl) (by kernel_rfl) (by kernel_rfl) (fun _ _ _ h => h) (Or.inl ⟨by kernel_rfl, ?y18⟩) (by assumption) ?_
        case y18 =>
          intro w0 hSw
          (try dsimp only at hSw)
          go_simp
          try with_reducible rfl
        try simp only [Act.put, qa14, qb14, qc14, qd14, qe14, qf14]
        refine wpAnyH_take (i := 19) (v := ?_) rfl (by kernel_rfl) (by kernel_rfl) (by kernel_rfl) (fun _ _ _ h => h) (Or.inl ⟨by kernel_rfl, ?y19⟩) (by assumption) ?_
        case y19 =>
          intro w0 hSw
          (try dsimp only at hSw)
          go_simp
          try with_reducible rfl
        try simp only [Act.put, qa14, qb14, qc14, qd14, qe14, qf14]
        refine wpAnyH_take (i := 20) (v := ?_) rfl (by kernel_rfl) (by kernel_rfl) (by kernel_rfl) (fun _ _ _ h => h) (Or.inl ⟨by kernel_rfl, ?y20⟩) (by assumption) ?_
        case y20 =>
          intro w0 hSw
          (try dsimp only at hSw)
          go_simp
          try with_reducible rfl
        try simp only [Act.put, qa14, qb14, qc14, qd14, qe14, qf14]
        refine wpAnyH_take (i := 21) (v := ?_) rfl (by kernel_rfl) (by kernel_rfl) (by kernel_rfl) (fun _ _ _ h => h) (Or.inl ⟨by kernel_rfl, ?y21⟩) (by assumption) ?_
        case y21 =>
          intro w0 hSw
          (try dsimp only at hSw)
          go_simp
          try with_reducible rfl
        try simp only [Act.put, qa14, qb14, qc14, qd14, qe14, qf14]
        refine wpAnyH_ready (rs := [22]) (by kernel_rfl) (by simp) (AllReadyH.cons rfl (fun K hK => ?_) AllReadyH.nil)
        go_simp
        go_at_call 209; refine (hdd _).mono ?_; rintro e w8 ⟨rfl, hw8⟩; have hw8 := hw8.symm; subst hw8
        go_wp2_with fail
        refine hK.out _ _ ⟨g0, g1, g2, g3, g4⟩ (fun hHeld => ?_)
        clear hK K
        try simp only [Act.put, qa14, qb14, qc14, qd14, qe14, qf14]
        refine wpAnyH_take (i := 23) (v := ?_) rfl (by kernel_rfl) (by kernel_rfl) (by kernel_rfl) (fun _ _ _ h => h) (Or.inl ⟨by kernel_rfl, ?y23⟩) (by assumption) ?_
        case y23 =>
          intro w0 hSw
          (try dsimp only at hSw)
          go_simp
          try with_reducible rfl
        try simp only [Act.put, qa14, qb14, qc14, qd14, qe14, qf14]
        refine wpAnyH_take (i := 24) (v := ?_) rfl (by kernel_rfl) (by kernel_rfl) (by kernel_rfl) (fun _ _ _ h => h) (Or.inl ⟨by kernel_rfl, ?y24⟩) (by assumption) ?_
        case y24 =>
          intro w0 hSw
          (try dsimp only at hSw)
          go_simp
          try with_reducible rfl
        try simp only [Act.put, qa14, qb14, qc14, qd14, qe14, qf14]
        refine wpAnyH_take (i := 25) (v := ?_) rfl (by kernel_rfl) (by kernel_rfl) (by kernel_rfl) (fun _ _ _ h => h) (Or.inl ⟨by kernel_rfl, ?y25⟩) (by assumption) ?_
        case y25 =>
          intro w0 hSw
          (try dsimp only at hSw)
          go_simp
          try with_reducible rfl
        try simp only [Act.put, qa14, qb14, qc14, qd14, qe14, qf14]
        refine wpAnyH_take (i := 26) (v := undef) rfl (by kernel_rfl) (by kernel_rfl) (by kernel_rfl) (fun _ _ _ h => h) (Or.inr ⟨by kernel_rfl, rfl⟩) (by assumption) ?_
        try simp only [Act.put, qa14, qb14, qc14, qd14, qe14, qf14]
        refine wpAnyH_take (i := 27) (v := undef) rfl (by kernel_rfl) (by kernel_rfl) (by kernel_rfl) (fun _ _ _ h => h) (Or.inr ⟨by kernel_rfl, rfl⟩) (by assumption) ?_
        try simp only [Act.put, qa14, qb14, qc14, qd14, qe14, qf14]
        refine wpAnyH_take (i := 28) (v := undef) rfl (by kernel_rfl) (by kernel_rfl) (by kernel_rfl) (fun _ _ _ h => h) (Or.inr ⟨by kernel_rfl, rfl⟩) (by assumption) ?_
        try simp only [Act.put, qa14, qb14, qc14, qd14, qe14, qf14]
        refine wpAnyH_take (i := 29) (v := ?_) rfl (by kernel_rfl) (by kernel_rfl) (by kernel_rfl) (fun _ _ _ h => h) (Or.inl ⟨by kernel_rfl, ?y29⟩) (by assumption) ?_
        case y29 =>
          intro w0 hSw
          (try dsimp only at hSw)
          go_simp
          try with_reducible rfl
        try simp only [Act.put, qa14, qb14, qc14, qd14, qe14, qf14]
        refine wpAnyH_take (i := 30) (v := ?_) rfl (by kernel_rfl) (by kernel_rfl) (by kernel_rfl) (fun _ _ _ h => h) (Or.inl ⟨by kernel_rfl, ?y30⟩) (by assumption) ?_
        case y30 =>
          intro w0 hSw
          (try dsimp only at hSw)
          go_simp
          try with_reducible rfl
        try simp only [Act.put, qa14, qb14, qc14, qd14, qe14, qf14]
        refine wpAnyH_take (i := 31) (v := undef) rfl (by kernel_rfl) (by kernel_rfl) (by kernel_rfl) (fun _ _ _ h => h) (Or.inr ⟨by kernel_rfl, rfl⟩) (by assumption) ?_
        try simp only [Act.put, qa14, qb14, qc14, qd14, qe14, qf14]
        refine wpAnyH_take (i := 32) (v := undef) rfl (by kernel_rfl) (by kernel_rfl) (by kernel_rfl) (fun _ _ _ h => h) (Or.inr ⟨by kernel_rfl, rfl⟩) (by assumption) ?_
        try simp only [Act.put, qa14, qb14, qc14, qd14, qe14, qf14]
        refine wpAnyH_take (i := 33) (v := undef) rfl (by kernel_rfl) (by kernel_rfl) (by kernel_rfl) (fun _ _ _ h => h) (Or.inr ⟨by kernel_rfl, rfl⟩) (by assumption) ?_
        try simp only [Act.put, qa14, qb14, qc14, qd14, qe14, qf14]
        refine wpAnyH_take (i := 34) (v := ?_) rfl (by kernel_rfl) (by kernel_rfl) (by kernel_rfl) (fun _ _ _ h => h) (Or.inl ⟨by kernel_rfl, ?y34⟩) (by assumption) ?_
        case y34 =>
          intro w0 hSw
          (try dsimp only at hSw)
          go_simp
          try with_reducible rfl
        try simp only [Act.put, qa14, qb14, qc14, qd14, qe14, qf14]
        refine wpAnyH_done (by kernel_rfl) ?_ _
        go_wp2
        refine bodyPost_ret (v := .tuple #[.pointer none, .int .i64 67]) (by simp [results, Tryz.results147, go_sem]) rfl ⟨none, 67, rfl, HBEL.out.trans ((hB6.trans (g4.mono (Nat.le_of_lt hs6))).mono hbsz), .inr ⟨hbad.out, rfl, rfl⟩⟩
      simp only [decide_eq_true hdy] at hdd
      have HDY := Lib.hid hdy
      clear hdy
      by_cases ht1 : a.typ < 1
      case pos =>
        have hbad : Hid (¬ Valid L) := Lib.hid fun hv => by have := hv.typ a (HA.out ▸ List.getElem_mem hlt); omega
        have t1 : decide (a.typ < 1) = true := decide_eq_true ht1
        have s1 : IntKind.i64.wrap ((k : Int) - 1) = (k : Int) - 1 := IntWalk.i64_in _ (by omega)
        have s2 : ((k : Int) - 1).toNat = k - 1 := by omega
        have s3 : (0 : Int) ≤ (k : Int) - 1 := by omega
        have s4 : (k : Int) - 1 < L.length := by omega
        have s5 : decide ((0 : Int) < (k : Int)) = true := decide_eq_true (by omega)
        have s6 : 0 < k := by omega
        have s9 : (1 : Int) ≤ (k : Int) := by omega
        have s8 : k - 1 < L.length := by omega
        have s7 : decide (0 < k) = true := decide_eq_true s6
        go_wp2
        obtain ⟨W6, hW6⟩ : ∃ W6, wr.alloc (.cells #[.string a.name, .int .i64 a.typ, .int .i64 a.opened, .bool a.closed] 159) = W6 := ⟨_, rfl⟩
        have hn6 : W6.heap[wr.heap.size]? = some (.cells #[.string a.name, .int .i64 a.typ, .int .i64 a.opened, .bool a.closed] 159 (0, 0)) := by rw [← hW6]; exact heap_alloc_new _ _
        have hB6 : Below wr.heap.size wr W6 := by rw [← hW6]; exact (Below.refl _ _).alloc (Nat.le_refl _) _
        have z0 : W6.cell? ⟨wr.heap.size, 0, none⟩ = some (.string a.name) := by rw [cell_of_blk hn6]; rfl
        have z1 : W6.cell? ⟨wr.heap.size, 1, none⟩ = some (.int .i64 a.typ) := by rw [cell_of_blk hn6]; rfl
        have z2 : W6.cell? ⟨wr.heap.size, 2, none⟩ = some (.int .i64 a.opened) := by rw [cell_of_blk hn6]; rfl
        have z3 : W6.cell? ⟨b, (k - 1) * 4, none⟩ = some (.string p.name) := (hB6.cell (p := ⟨b, (k - 1) * 4, none⟩) hbl).trans r0
        have hs6 : wr.heap.size < W6.heap.size := heap_lt hn6
        have hb6 : b < W6.heap.size := by omega
        have HN := Lib.hid hn6
        have hBd : Below W6.heap.size W6 W6.drew := (Below.refl _ _).drew
        rw [hW6]
        clear hW6 hn6 r0 q0 q1 q2 q3
        refine wp_region_held_drew (S := fun w' => w'.cell? ⟨wr.heap.size, 0, none⟩ = some (.string a.name) ∧ w'.cell? ⟨wr.heap.size, 1, none⟩ = some (.int .i64 a.typ) ∧ w'.cell? ⟨wr.heap.size, 2, none⟩ = some (.int .i64 a.opened) ∧ w'.cell? ⟨b, (k - 1) * 4, none⟩ = some (.string p.name) ∧ Below W6.heap.size W6 w') (by kernel_rfl) ⟨z0, z1, z2, z3, hBd⟩ (fun hHeld => ?_)
        refine wpAnyH_take (i := 0) (v := ?_) rfl (by kernel_rfl) (by kernel_rfl) (by kernel_rfl) (fun _ _ _ h => h) (Or.inl ⟨by kernel_rfl, ?y0⟩) (by assumption) ?_
        case y0 =>
          intro w0 hSw
          (try dsimp only at hSw)
          go_simp
          try with_reducible rfl
        try simp only [Act.put, qa14, qb14, qc14, qd14, qe14, qf14]
        refine wpAnyH_take (i := 1) (v := ?_) rfl (by kernel_rfl) (by kernel_rfl) (by kernel_rfl) (fun _ _ _ h => h) (Or.inl ⟨by kernel_rfl, ?y1⟩) (by assumption) ?_
        case y1 =>
          intro w0 hSw
          (try dsimp only at hSw)
          go_simp
          try with_reducible rfl
        try simp only [Act.put, qa14, qb14, qc14, qd14, qe14, qf14]
        refine wpAnyH_ready (rs := [2]) (by kernel_rfl) (by simp) (AllReadyH.cons rfl (fun K hK => ?_) AllReadyH.nil)
        go_simp
        go_at_call 6; refine (hg _).mono ?_; rintro e w7 ⟨rfl, hb7⟩; obtain ⟨g0, g1, g2, g3, g4⟩ := from_keep2 hb7 hs6 hb6 z0 z1 z2 z3 hBd
        go_wp2_with fail
        refine hK.out _ _ ⟨g0, g1, g2, g3, g4⟩ (fun hHeld => ?_)
        clear hK K
        try simp only [Act.put, qa14, qb14, qc14, qd14, qe14, qf14]
        refine wpAnyH_take (i := 3) (v := ?_) rfl (by kernel_rfl) (by kernel_rfl) (by kernel_rfl) (fun _ _ _ h => h) (Or.inl ⟨by kernel_rfl, ?y3⟩) (by assumption) ?_
        case y3 =>
          intro w0 hSw
          (try dsimp only at hSw)
          go_simp
          try with_reducible rfl
        try simp only [Act.put, qa14, qb14, qc14, qd14, qe14, qf14]
        refine wpAnyH_take (i := 4) (v := ?_) rfl (by kernel_rfl) (by kernel_rfl) (by kernel_rfl) (fun _ _ _ h => h) (Or.inl ⟨by kernel_rfl, ?y4⟩) (by assumption) ?_
        case y4 =>
          intro w0 hSw
          (try dsimp only at hSw)
          go_simp
          try with_reducible rfl
        try simp only [Act.put, qa14, qb14, qc14, qd14, qe14, qf14]
        refine wpAnyH_take (i := 5) (v := ?_) rfl (by kernel_rfl) (by kernel_rfl) (by kernel_rfl) (fun _ _ _ h => h) (Or.inl ⟨by kernel_rfl, ?y5⟩) (by assumption) ?_
        case y5 =>
          intro w0 hSw
          (try dsimp only at hSw)
          go_simp
          try with_reducible rfl
        try simp only [Act.put, qa14, qb14, qc14, qd14, qe14, qf14]
        refine wpAnyH_take (i := 6) (v := ?_) rfl (by kernel_rfl) (by kernel_rfl) (by kernel_rfl) (fun _ _ _ h => h) (Or.inl ⟨by kernel_rfl, ?y6⟩) (by assumption) ?_
        case y6 =>
          intro w0 hSw
          (try dsimp only at hSw)
          go_simp
          try with_reducible rfl
        try simp only [Act.put, qa14, qb14, qc14, qd14, qe14, qf14]
        refine wpAnyH_take (i := 7) (v := ?_) rfl (by kernel_rfl) (by kernel_rfl) (by kernel_rfl) (fun _ _ _ h => h) (Or.inl ⟨by kernel_rfl, ?y7⟩) (by assumption) ?_
        case y7 =>
          intro w0 hSw
          (try dsimp only at hSw)
          go_simp
          try with_reducible rfl
        try simp only [Act.put, qa14, qb14, qc14, qd14, qe14, qf14]
        refine wpAnyH_take (i := 8) (v := ?_) rfl (by kernel_rfl) (by kernel_rfl) (by kernel_rfl) (fun _ _ _ h => h) (Or.inl ⟨by kernel_rfl, ?y8⟩) (by assumption) ?_
        case y8 =>
          intro w0 hSw
          (try dsimp only at hSw)
          go_simp
          try with_reducible rfl
        try simp only [Act.put, qa14, qb14, qc14, qd14, qe14, qf14]
        refine wpAnyH_take (i := 9) (v := ?_) rfl (by kernel_rfl) (by kernel_rfl) (by kernel_rfl) (fun _ _ _ h => h) (Or.inl ⟨by kernel_rfl, ?y9⟩) (by assumption) ?_
        case y9 =>
          intro w0 hSw
          (try dsimp only at hSw)
          go_simp
          try with_reducible rfl
        try simp only [Act.put, qa14, qb14, qc14, qd14, qe14, qf14]
        refine wpAnyH_take (i := 10) (v := ?_) rfl (by kernel_rfl) (by kernel_rfl) (by kernel_rfl) (fun _ _ _ h => h) (Or.inl ⟨by kernel_rfl, ?y10⟩) (by assumption) ?_
        case y10 =>
          intro w0 hSw
          (try dsimp only at hSw)
          go_simp
          try with_reducible rfl
        try simp only [Act.put, qa14, qb14, qc14, qd14, qe14, qf14]
        refine wpAnyH_take (i := 11) (v := ?_) rfl (by kernel_rfl) (by kernel_rfl) (by kernel_rfl) (fun _ _ _ h => h) (Or.inl ⟨by kernel_rfl, ?y11⟩) (by assumption) ?_
        case y11 =>
          intro w0 hSw
          (try dsimp only at hSw)
          go_simp
          try with_reducible rfl
        try simp only [Act.put, qa14, qb14, qc14, qd14, qe14, qf14]
        refine wpAnyH_take (i := 12) (v := ?_) rfl (by kernel_rfl) (by kernel_rfl) (by kernel_rfl) (fun _ _ _ h => h) (Or.inl ⟨by kernel_rfl, ?y12⟩) (by assumption) ?_
        case y12 =>
          intro w0 hSw
          (try dsimp only at hSw)
          go_simp
          try with_reducible rfl
        try simp only [Act.put, qa14, qb14, qc14, qd14, qe14, qf14]
        refine wpAnyH_take (i := 13) (v := ?_) rfl (by kernel_rfl) (by kernel_rfl) (by kernel_rfl) (fun _ _ _ h => h) (Or.inl ⟨by kernel_rfl, ?y13⟩) (by assumption) ?_
        case y13 =>
          intro w0 hSw
          (try dsimp only at hSw)
          go_simp
          try with_reducible rfl
        try simp only [Act.put, qa14, qb14, qc14, qd14, qe14, qf14]
        refine wpAnyH_take (i := 14) (v := ?_) rfl (by kernel_rfl) (by kernel_rfl) (by kernel_rfl) (fun _ _ _ h => h) (Or.inl ⟨by kernel_rfl, ?y14⟩) (by assumption) ?_
        case y14 =>
          intro w0 hSw
          (try dsimp only at hSw)
          go_simp
          try with_reducible rfl
        try simp only [Act.put, qa14, qb14, qc14, qd14, qe14, qf14]
        refine wpAnyH_take (i := 15) (v := ?_) rfl (by kernel_rfl) (by kernel_rfl) (by kernel_rfl) (fun _ _ _ h => h) (Or.inl ⟨by kernel_rfl, ?y15⟩) (by assumption) ?_
        case y15 =>
          intro w0 hSw
          (try dsimp only at hSw)
          go_simp
          try with_reducible rfl
        try simp only [Act.put, qa14, qb14, qc14, qd14, qe14, qf14]
        refine wpAnyH_take (i := 16) (v := ?_) rfl (by kernel_rfl) (by kernel_rfl) (by kernel_rfl) (fun _ _ _ h => h) (Or.inl ⟨by kernel_rfl, ?y16⟩) (by assumption) ?_
        case y16 =>
          intro w0 hSw
          (try dsimp only at hSw)
          go_simp
          try with_reducible rfl
        try simp only [Act.put, qa14, qb14, qc14, qd14, qe14, qf14]
        refine wpAnyH_take (i := 17) (v := ?_) rfl (by kernel_rfl) (by kernel_rfl) (by kernel_rfl) (fun _ _ _ h => h) (Or.inl ⟨by kernel_rfl, ?y17⟩) (by assumption) ?_
        case y17 =>
          intro w0 hSw
          (try dsimp only at hSw)
          go_simp
          try with_reducible rfl
        try simp only [Act.put, qa14, qb14, qc14, qd14, qe14, qf14]
        refine wpAnyH_take (i := 18) (v := ?_) rfl (by kernel_rfl) (by kernel_rfl) (by kernel_rfl) (fun _ _ _ h => h) (Or.inl ⟨by kernel_rfl, ?y18⟩) (by assumption) ?_
        case y18 =>
          intro w0 hSw
          (try dsimp only at hSw)
          go_simp
          try with_reducible rfl
        try simp only [Act.put, qa14, qb14, qc14, qd14, qe14, qf14]
        refine wpAnyH_take (i := 19) (v := ?_) rfl (by kernel_rfl) (by kernel_rfl) (by kernel_rfl) (fun _ _ _ h => h) (Or.inl ⟨by kernel_rfl, ?y19⟩) (by assumption) ?_
        case y19 =>
          intro w0 hSw
          (try dsimp only at hSw)
          go_simp
          try with_reducible rfl
        try simp only [Act.put, qa14, qb14, qc14, qd14, qe14, qf14]
        refine wpAnyH_take (i := 20) (v := ?_) rfl (by kernel_rfl) (by kernel_rfl) (by kernel_rfl) (fun _ _ _ h => h) (Or.inl ⟨by kernel_rfl, ?y20⟩) (by assumption) ?_
        case y20 =>
          intro w0 hSw
          (try dsimp only at hSw)
          go_simp
          try with_reducible rfl
        try simp only [Act.put, qa14, qb14, qc14, qd14, qe14, qf14]
        refine wpAnyH_take (i := 21) (v := ?_) rfl (by kernel_rfl) (by kernel_rfl) (by kernel_rfl) (fun _ _ _ h => h) (Or.inl ⟨by kernel_rfl, ?y21⟩) (by assumption) ?_
        case y21 =>
          intro w0 hSw
          (try dsimp only at hSw)
          go_simp
          try with_reducible rfl
        try simp only [Act.put, qa14, qb14, qc14, qd14, qe14, qf14]
        refine wpAnyH_ready (rs := [22]) (by kernel_rfl) (by simp) (AllReadyH.cons rfl (fun K hK => ?_) AllReadyH.nil)
        go_simp
        go_at_call 209; refine (hdd _).mono ?_; rintro e w8 ⟨rfl, hw8⟩; have hw8 := hw8.symm; subst hw8
        go_wp2_with fail
        refine hK.out _ _ ⟨g0, g1, g2, g3, g4⟩ (fun hHeld => ?_)
        clear hK K
        try simp only [Act.put, qa14, qb14, qc14, qd14, qe14, qf14]
        refine wpAnyH_take (i := 23) (v := ?_) rfl (by kernel_rfl) (by kernel_rfl) (by kernel_rfl) (fun _ _ _ h => h) (Or.inl ⟨by kernel_rfl, ?y23⟩) (by assumption) ?_
        case y23 =>
          intro w0 hSw
          (try dsimp only at hSw)
          go_simp
          try with_reducible rfl
        try simp only [Act.put, qa14, qb14, qc14, qd14, qe14, qf14]
        refine wpAnyH_take (i := 24) (v := ?_) rfl (by kernel_rfl) (by kernel_rfl) (by kernel_rfl) (fun _ _ _ h => h) (Or.inl ⟨by kernel_rfl, ?y24⟩) (by assumption) ?_
        case y24 =>
          intro w0 hSw
          (try dsimp only at hSw)
          go_simp
          try with_reducible rfl
        try simp only [Act.put, qa14, qb14, qc14, qd14, qe14, qf14]
        refine wpAnyH_take (i := 25) (v := ?_) rfl (by kernel_rfl) (by kernel_rfl) (by kernel_rfl) (fun _ _ _ h => h) (Or.inl ⟨by kernel_rfl, ?y25⟩) (by assumption) ?_
        case y25 =>
          intro w0 hSw
          (try dsimp only at hSw)
          go_simp
          try with_reducible rfl
        try simp only [Act.put, qa14, qb14, qc14, qd14, qe14, qf14]
        refine wpAnyH_take (i := 26) (v := ?_) rfl (by kernel_rfl) (by kernel_rfl) (by kernel_rfl) (fun _ _ _ h => h) (Or.inl ⟨by kernel_rfl, ?y26⟩) (by assumption) ?_
        case y26 =>
          intro w0 hSw
          (try dsimp only at hSw)
          go_simp
          try with_reducible rfl
        try simp only [Act.put, qa14, qb14, qc14, qd14, qe14, qf14]
        refine wpAnyH_take (i := 27) (v := ?_) rfl (by kernel_rfl) (by kernel_rfl) (by kernel_rfl) (fun _ _ _ h => h) (Or.inl ⟨by kernel_rfl, ?y27⟩) (by assumption) ?_
        case y27 =>
          intro w0 hSw
          (try dsimp only at hSw)
          go_simp
          try with_reducible rfl
        try simp only [Act.put, qa14, qb14, qc14, qd14, qe14, qf14]
        refine wpAnyH_take (i := 28) (v := ?_) rfl (by kernel_rfl) (by kernel_rfl) (by kernel_rfl) (fun _ _ _ h => h) (Or.inl ⟨by kernel_rfl, ?y28⟩) (by assumption) ?_
        case y28 =>
          intro w0 hSw
          (try dsimp only at hSw)
          go_simp
          try with_reducible rfl
        try simp only [Act.put, qa14, qb14, qc14, qd14, qe14, qf14]
        refine wpAnyH_take (i := 29) (v := ?_) rfl (by kernel_rfl) (by kernel_rfl) (by kernel_rfl) (fun _ _ _ h => h) (Or.inl ⟨by kernel_rfl, ?y29⟩) (by assumption) ?_
        case y29 =>
          intro w0 hSw
          (try dsimp only at hSw)
          go_simp
          try with_reducible rfl
        try simp only [Act.put, qa14, qb14, qc14, qd14, qe14, qf14]
        refine wpAnyH_take (i := 30) (v := ?_) rfl (by kernel_rfl) (by kernel_rfl) (by kernel_rfl) (fun _ _ _ h => h) (Or.inl ⟨by kernel_rfl, ?y30⟩) (by assumption) ?_
        case y30 =>
          intro w0 hSw
          (try dsimp only at hSw)
          go_simp
          try with_reducible rfl
        try simp only [Act.put, qa14, qb14, qc14, qd14, qe14, qf14]
        refine wpAnyH_take (i := 31) (v := undef) rfl (by kernel_rfl) (by kernel_rfl) (by kernel_rfl) (fun _ _ _ h => h) (Or.inr ⟨by kernel_rfl, rfl⟩) (by assumption) ?_
        try simp only [Act.put, qa14, qb14, qc14, qd14, qe14, qf14]
        refine wpAnyH_take (i := 32) (v := undef) rfl (by kernel_rfl) (by kernel_rfl) (by kernel_rfl) (fun _ _ _ h => h) (Or.inr ⟨by kernel_rfl, rfl⟩) (by assumption) ?_
        try simp only [Act.put, qa14, qb14, qc14, qd14, qe14, qf14]
        refine wpAnyH_take (i := 33) (v := undef) rfl (by kernel_rfl) (by kernel_rfl) (by kernel_rfl) (fun _ _ _ h => h) (Or.inr ⟨by kernel_rfl, rfl⟩) (by assumption) ?_
        try simp only [Act.put, qa14, qb14, qc14, qd14, qe14, qf14]
        refine wpAnyH_take (i := 34) (v := ?_) rfl (by kernel_rfl) (by kernel_rfl) (by kernel_rfl) (fun _ _ _ h => h) (Or.inl ⟨by kernel_rfl, ?y34⟩) (by assumption) ?_
        case y34 =>
          intro w0 hSw
          (try dsimp only at hSw)
          go_simp
          try with_reducible rfl
        try simp only [Act.put, qa14, qb14, qc14, qd14, qe14, qf14]
        refine wpAnyH_done (by kernel_rfl) ?_ _
        go_wp2
        refine bodyPost_ret (v := .tuple #[.pointer none, .int .i64 67]) (by simp [results, Tryz.results147, go_sem]) rfl ⟨none, 67, rfl, HBEL.out.trans ((hB6.trans (g4.mono (Nat.le_of_lt hs6))).mono hbsz), .inr ⟨hbad.out, rfl, rfl⟩⟩
      have t1 : decide (a.typ < 1) = false := decide_eq_false ht1
      by_cases ht5 : 5 < a.typ
      case pos =>
        have hbad : Hid (¬ Valid L) := Lib.hid fun hv => by have := hv.typ a (HA.out ▸ List.getElem_mem hlt); omega
        have t2 : decide (5 < a.typ) = true := decide_eq_true ht5
        have s1 : IntKind.i64.wrap ((k : Int) - 1) = (k : Int) - 1 := IntWalk.i64_in _ (by omega)
        have s2 : ((k : Int) - 1).toNat = k - 1 := by omega
        have s3 : (0 : Int) ≤ (k : Int) - 1 := by omega
        have s4 : (k : Int) - 1 < L.length := by omega
        have s5 : decide ((0 : Int) < (k : Int)) = true := decide_eq_true (by omega)
        have s6 : 0 < k := by omega
        have s9 : (1 : Int) ≤ (k : Int) := by omega
        have s8 : k - 1 < L.length := by omega
        have s7 : decide (0 < k) = true := decide_eq_true s6
        go_wp2
        obtain ⟨W6, hW6⟩ : ∃ W6, wr.alloc (.cells #[.string a.name, .int .i64 a.typ, .int .i64 a.opened, .bool a.closed] 159) = W6 := ⟨_, rfl⟩
        have hn6 : W6.heap[wr.heap.size]? = some (.cells #[.string a.name, .int .i64 a.typ, .int .i64 a.opened, .bool a.closed] 159 (0, 0)) := by rw [← hW6]; exact heap_alloc_new _ _
        have hB6 : Below wr.heap.size wr W6 := by rw [← hW6]; exact (Below.refl _ _).alloc (Nat.le_refl _) _
        have z0 : W6.cell? ⟨wr.heap.size, 0, none⟩ = some (.string a.name) := by rw [cell_of_blk hn6]; rfl
        have z1 : W6.cell? ⟨wr.heap.size, 1, none⟩ = some (.int .i64 a.typ) := by rw [cell_of_blk hn6]; rfl
        have z2 : W6.cell? ⟨wr.heap.size, 2, none⟩ = some (.int .i64 a.opened) := by rw [cell_of_blk hn6]; rfl
        have z3 : W6.cell? ⟨b, (k - 1) * 4, none⟩ = some (.string p.name) := (hB6.cell (p := ⟨b, (k - 1) * 4, none⟩) hbl).trans r0
        have hs6 : wr.heap.size < W6.heap.size := heap_lt hn6
        have hb6 : b < W6.heap.size := by omega
        have HN := Lib.hid hn6
        have hBd : Below W6.heap.size W6 W6.drew := (Below.refl _ _).drew
        rw [hW6]
        clear hW6 hn6 r0 q0 q1 q2 q3
        refine wp_region_held_drew (S := fun w' => w'.cell? ⟨wr.heap.size, 0, none⟩ = some (.string a.name) ∧ w'.cell? ⟨wr.heap.size, 1, none⟩ = some (.int .i64 a.typ) ∧ w'.cell? ⟨wr.heap.size, 2, none⟩ = some (.int .i64 a.opened) ∧ w'.cell? ⟨b, (k - 1) * 4, none⟩ = some (.string p.name) ∧ Below W6.heap.size W6 w') (by kernel_rfl) ⟨z0, z1, z2, z3, hBd⟩ (fun hHeld => ?_)
        refine wpAnyH_take (i := 0) (v := ?_) rfl (by kernel_rfl) (by kernel_rfl) (by kernel_rfl) (fun _ _ _ h => h) (Or.inl ⟨by kernel_rfl, ?y0⟩) (by assumption) ?_
        case y0 =>
          intro w0 hSw
          (try dsimp only at hSw)
          go_simp
          try with_reducible rfl
        try simp only [Act.put, qa14, qb14, qc14, qd14, qe14, qf14]
        refine wpAnyH_take (i := 1) (v := ?_) rfl (by kernel_rfl) (by kernel_rfl) (by kernel_rfl) (fun _ _ _ h => h) (Or.inl ⟨by kernel_rfl, ?y1⟩) (by assumption) ?_
        case y1 =>
          intro w0 hSw
          (try dsimp only at hSw)
          go_simp
          try with_reducible rfl
        try simp only [Act.put, qa14, qb14, qc14, qd14, qe14, qf14]
        refine wpAnyH_ready (rs := [2]) (by kernel_rfl) (by simp) (AllReadyH.cons rfl (fun K hK => ?_) AllReadyH.nil)
        go_simp
        go_at_call 6; refine (hg _).mono ?_; rintro e w7 ⟨rfl, hb7⟩; obtain ⟨g0, g1, g2, g3, g4⟩ := from_keep2 hb7 hs6 hb6 z0 z1 z2 z3 hBd
        go_wp2_with fail
        refine hK.out _ _ ⟨g0, g1, g2, g3, g4⟩ (fun hHeld => ?_)
        clear hK K
        try simp only [Act.put, qa14, qb14, qc14, qd14, qe14, qf14]
        refine wpAnyH_take (i := 3) (v := ?_) rfl (by kernel_rfl) (by kernel_rfl) (by kernel_rfl) (fun _ _ _ h => h) (Or.inl ⟨by kernel_rfl, ?y3⟩) (by assumption) ?_
        case y3 =>
          intro w0 hSw
          (try dsimp only at hSw)
          go_simp
          try with_reducible rfl
        try simp only [Act.put, qa14, qb14, qc14, qd14, qe14, qf14]
        refine wpAnyH_take (i := 4) (v := ?_) rfl (by kernel_rfl) (by kernel_rfl) (by kernel_rfl) (fun _ _ _ h => h) (Or.inl ⟨by kernel_rfl, ?y4⟩) (by assumption) ?_
        case y4 =>
          intro w0 hSw
          (try dsimp only at hSw)
          go_simp
          try with_reducible rfl
        try simp only [Act.put, qa14, qb14, qc14, qd14, qe14, qf14]
        refine wpAnyH_take (i := 5) (v := ?_) rfl (by kernel_rfl) (by kernel_rfl) (by kernel_rfl) (fun _ _ _ h => h) (Or.inl ⟨by kernel_rfl, ?y5⟩) (by assumption) ?_
        case y5 =>
          intro w0 hSw
          (try dsimp only at hSw)
          go_simp
          try with_reducible rfl
        try simp only [Act.put, qa14, qb14, qc14, qd14, qe14, qf14]
        refine wpAnyH_take (i := 6) (v := ?_) rfl (by kernel_rfl) (by kernel_rfl) (by kernel_rfl) (fun _ _ _ h => h) (Or.inl ⟨by kernel_rfl, ?y6⟩) (by assumption) ?_
        case y6 =>
          intro w0 hSw
          (try dsimp only at hSw)
          go_simp
          try with_reducible rfl
        try simp only [Act.put, qa14, qb14, qc14, qd14, qe14, qf14]
        refine wpAnyH_take (i := 7) (v := ?_) rfl (by kernel_rfl) (by kernel_rfl) (by kernel_rfl) (fun _ _ _ h => h) (Or.inl ⟨by kernel_rfl, ?y7⟩) (by assumption) ?_
        case y7 =>
          intro w0 hSw
          (try dsimp only at hSw)
          go_simp
          try with_reducible rfl
        try simp only [Act.put, qa14, qb14, qc14, qd14, qe14, qf14]
        refine wpAnyH_take (i := 8) (v := ?_) rfl (by kernel_rfl) (by kernel_rfl) (by kernel_rfl) (fun _ _ _ h => h) (Or.inl ⟨by kernel_rfl, ?y8⟩) (by assumption) ?_
        case y8 =>
          intro w0 hSw
          (try dsimp only at hSw)
          go_simp
          try with_reducible rfl
        try simp only [Act.put, qa14, qb14, qc14, qd14, qe14, qf14]
        refine wpAnyH_take (i := 9) (v := ?_) rfl (by kernel_rfl) (by kernel_rfl) (by kernel_rfl) (fun _ _ _ h => h) (Or.inl ⟨by kernel_rfl, ?y9⟩) (by assumption) ?_
        case y9 =>
          intro w0 hSw
          (try dsimp only at hSw)
          go_simp
          try with_reducible rfl
        try simp only [Act.put, qa14, qb14, qc14, qd14, qe14, qf14]
        refine wpAnyH_take (i := 10) (v := ?_) rfl (by kernel_rfl) (by kernel_rfl) (by kernel_rfl) (fun _ _ _ h => h) (Or.inl ⟨by kernel_rfl, ?y10⟩) (by assumption) ?_
        case y10 =>
          intro w0 hSw
          (try dsimp only at hSw)
          go_simp
          try with_reducible rfl
        try simp only [Act.put, qa14, qb14, qc14, qd14, qe14, qf14]
        refine wpAnyH_take (i := 11) (v := ?_) rfl (by kernel_rfl) (by kernel_rfl) (by kernel_rfl) (fun _ _ _ h => h) (Or.inl ⟨by kernel_rfl, ?y11⟩) (by assumption) ?_
        case y11 =>
          intro w0 hSw
          (try dsimp only at hSw)
          go_simp
          try with_reducible rfl
        try simp only [Act.put, qa14, qb14, qc14, qd14, qe14, qf14]
        refine wpAnyH_take (i := 12) (v := ?_) rfl (by kernel_rfl) (by kernel_rfl) (by kernel_rfl) (fun _ _ _ h => h) (Or.inl ⟨by kernel_rfl, ?y12⟩) (by assumption) ?_
        case y12 =>
          intro w0 hSw
          (try dsimp only at hSw)
          go_simp
          try with_reducible rfl
        try simp only [Act.put, qa14, qb14, qc14, qd14, qe14, qf14]
        refine wpAnyH_take (i := 13) (v := ?_) rfl (by kernel_rfl) (by kernel_rfl) (by kernel_rfl) (fun _ _ _ h => h) (Or.inl ⟨by kernel_rfl, ?y13⟩) (by assumption) ?_
        case y13 =>
          intro w0 hSw
          (try dsimp only at hSw)
          go_simp
          try with_reducible rfl
        try simp only [Act.put, qa14, qb14, qc14, qd14, qe14, qf14]
        refine wpAnyH_take (i := 14) (v := ?_) rfl (by kernel_rfl) (by kernel_rfl) (by kernel_rfl) (fun _ _ _ h => h) (Or.inl ⟨by kernel_rfl, ?y14⟩) (by assumption) ?_
        case y14 =>
          intro w0 hSw
          (try dsimp only at hSw)
          go_simp
          try with_reducible rfl
        try simp only [Act.put, qa14, qb14, qc14, qd14, qe14, qf14]
        refine wpAnyH_take (i := 15) (v := ?_) rfl (by kernel_rfl) (by kernel_rfl) (by kernel_rfl) (fun _ _ _ h => h) (Or.inl ⟨by kernel_rfl, ?y15⟩) (by assumption) ?_
        case y15 =>
          intro w0 hSw
          (try dsimp only at hSw)
          go_simp
          try with_reducible rfl
        try simp only [Act.put, qa14, qb14, qc14, qd14, qe14, qf14]
        refine wpAnyH_take (i := 16) (v := ?_) rfl (by kernel_rfl) (by kernel_rfl) (by kernel_rfl) (fun _ _ _ h => h) (Or.inl ⟨by kernel_rfl, ?y16⟩) (by assumption) ?_
        case y16 =>
          intro w0 hSw
          (try dsimp only at hSw)
          go_simp
          try with_reducible rfl
        try simp only [Act.put, qa14, qb14, qc14, qd14, qe14, qf14]
        refine wpAnyH_take (i := 17) (v := ?_) rfl (by kernel_rfl) (by kernel_rfl) (by kernel_rfl) (fun _ _ _ h => h) (Or.inl ⟨by kernel_rfl, ?y17⟩) (by assumption) ?_
        case y17 =>
          intro w0 hSw
          (try dsimp only at hSw)
          go_simp
          try with_reducible rfl
        try simp only [Act.put, qa14, qb14, qc14, qd14, qe14, qf14]
        refine wpAnyH_take (i := 18) (v := ?_) rfl (by kernel_rfl) (by kernel_rfl) (by kernel_rfl) (fun _ _ _ h => h) (Or.inl ⟨by kernel_rfl, ?y18⟩) (by assumption) ?_
        case y18 =>
          intro w0 hSw
          (try dsimp only at hSw)
          go_simp
          try with_reducible rfl
        try simp only [Act.put, qa14, qb14, qc14, qd14, qe14, qf14]
        refine wpAnyH_take (i := 19) (v := ?_) rfl (by kernel_rfl) (by kernel_rfl) (by kernel_rfl) (fun _ _ _ h => h) (Or.inl ⟨by kernel_rfl, ?y19⟩) (by assumption) ?_
        case y19 =>
          intro w0 hSw
          (try dsimp only at hSw)
          go_simp
          try with_reducible rfl
        try simp only [Act.put, qa14, qb14, qc14, qd14, qe14, qf14]
        refine wpAnyH_take (i := 20) (v := ?_) rfl (by kernel_rfl) (by kernel_rfl) (by kernel_rfl) (fun _ _ _ h => h) (Or.inl ⟨by kernel_rfl, ?y20⟩) (by assumption) ?_
        case y20 =>
          intro w0 hSw
          (try dsimp only at hSw)
          go_simp
          try with_reducible rfl
        try simp only [Act.put, qa14, qb14, qc14, qd14, qe14, qf14]
        refine wpAnyH_take (i := 21) (v := ?_) rfl (by kernel_rfl) (by kernel_rfl) (by kernel_rfl) (fun _ _ _ h => h) (Or.inl ⟨by kernel_rfl, ?y21⟩) (by assumption) ?_
        case y21 =>
          intro w0 hSw
          (try dsimp only at hSw)
          go_simp
          try with_reducible rfl
        try simp only [Act.put, qa14, qb14, qc14, qd14, qe14, qf14]
        refine wpAnyH_ready (rs := [22]) (by kernel_rfl) (by simp) (AllReadyH.cons rfl (fun K hK => ?_) AllReadyH.nil)
        go_simp
        go_at_call 209; refine (hdd _).mono ?_; rintro e w8 ⟨rfl, hw8⟩; have hw8 := hw8.symm; subst hw8
        go_wp2_with fail
        refine hK.out _ _ ⟨g0, g1, g2, g3, g4⟩ (fun hHeld => ?_)
        clear hK K
        try simp only [Act.put, qa14, qb14, qc14, qd14, qe14, qf14]
        refine wpAnyH_take (i := 23) (v := ?_) rfl (by kernel_rfl) (by kernel_rfl) (by kernel_rfl) (fun _ _ _ h => h) (Or.inl ⟨by kernel_rfl, ?y23⟩) (by assumption) ?_
        case y23 =>
          intro w0 hSw
          (try dsimp only at hSw)
          go_simp
          try with_reducible rfl
        try simp only [Act.put, qa14, qb14, qc14, qd14, qe14, qf14]
        refine wpAnyH_take (i := 24) (v := ?_) rfl (by kernel_rfl) (by kernel_rfl) (by kernel_rfl) (fun _ _ _ h => h) (Or.inl ⟨by kernel_rfl, ?y24⟩) (by assumption) ?_
        case y24 =>
          intro w0 hSw
          (try dsimp only at hSw)
          go_simp
          try with_reducible rfl
        try simp only [Act.put, qa14, qb14, qc14, qd14, qe14, qf14]
        refine wpAnyH_take (i := 25) (v := ?_) rfl (by kernel_rfl) (by kernel_rfl) (by kernel_rfl) (fun _ _ _ h => h) (Or.inl ⟨by kernel_rfl, ?y25⟩) (by assumption) ?_
        case y25 =>
          intro w0 hSw
          (try dsimp only at hSw)
          go_simp
          try with_reducible rfl
        try simp only [Act.put, qa14, qb14, qc14, qd14, qe14, qf14]
        refine wpAnyH_take (i := 26) (v := ?_) rfl (by kernel_rfl) (by kernel_rfl) (by kernel_rfl) (fun _ _ _ h => h) (Or.inl ⟨by kernel_rfl, ?y26⟩) (by assumption) ?_
        case y26 =>
          intro w0 hSw
          (try dsimp only at hSw)
          go_simp
          try with_reducible rfl
        try simp only [Act.put, qa14, qb14, qc14, qd14, qe14, qf14]
        refine wpAnyH_take (i := 27) (v := ?_) rfl (by kernel_rfl) (by kernel_rfl) (by kernel_rfl) (fun _ _ _ h => h) (Or.inl ⟨by kernel_rfl, ?y27⟩) (by assumption) ?_
        case y27 =>
          intro w0 hSw
          (try dsimp only at hSw)
          go_simp
          try with_reducible rfl
        try simp only [Act.put, qa14, qb14, qc14, qd14, qe14, qf14]
        refine wpAnyH_take (i := 28) (v := ?_) rfl (by kernel_rfl) (by kernel_rfl) (by kernel_rfl) (fun _ _ _ h => h) (Or.inl ⟨by kernel_rfl, ?y28⟩) (by assumption) ?_
        case y28 =>
          intro w0 hSw
          (try dsimp only at hSw)
          go_simp
          try with_reducible rfl
        try simp only [Act.put, qa14, qb14, qc14, qd14, qe14, qf14]
        refine wpAnyH_take (i := 29) (v := ?_) rfl (by kernel_rfl) (by kernel_rfl) (by kernel_rfl) (fun _ _ _ h => h) (Or.inl ⟨by kernel_rfl, ?y29⟩) (by assumption) ?_
        case y29 =>
          intro w0 hSw
          (try dsimp only at hSw)
          go_simp
          try with_reducible rfl
        try simp only [Act.put, qa14, qb14, qc14, qd14, qe14, qf14]
        refine wpAnyH_take (i := 30) (v := ?_) rfl (by kernel_rfl) (by kernel_rfl) (by kernel_rfl) (fun _ _ _ h => h) (Or.inl ⟨by kernel_rfl, ?y30⟩) (by assumption) ?_
        case y30 =>
          intro w0 hSw
          (try dsimp only at hSw)
          go_simp
          try with_reducible rfl
        try simp only [Act.put, qa14, qb14, qc14, qd14, qe14, qf14]
        refine wpAnyH_take (i := 31) (v := ?_) rfl (by kernel_rfl) (by kernel_rfl) (by kernel_rfl) (fun _ _ _ h => h) (Or.inl ⟨by kernel_rfl, ?y31⟩) (by assumption) ?_
        case y31 =>
          intro w0 hSw
          (try dsimp only at hSw)
          go_simp
          try with_reducible rfl
        try simp only [Act.put, qa14, qb14, qc14, qd14, qe14, qf14]
        refine wpAnyH_take (i := 32) (v := ?_) rfl (by kernel_rfl) (by kernel_rfl) (by kernel_rfl) (fun _ _ _ h => h) (Or.inl ⟨by kernel_rfl, ?y32⟩) (by assumption) ?_
        case y32 =>
          intro w0 hSw
          (try dsimp only at hSw)
          go_simp
          try with_reducible rfl
        try simp only [Act.put, qa14, qb14, qc14, qd14, qe14, qf14]
        refine wpAnyH_take (i := 33) (v := ?_) rfl (by kernel_rfl) (by kernel_rfl) (by kernel_rfl) (fun _ _ _ h => h) (Or.inl ⟨by kernel_rfl, ?y33⟩) (by assumption) ?_
        case y33 =>
          intro w0 hSw
          (try dsimp only at hSw)
          go_simp
          try with_reducible rfl
        try simp only [Act.put, qa14, qb14, qc14, qd14, qe14, qf14]
        refine wpAnyH_take (i := 34) (v := ?_) rfl (by kernel_rfl) (by kernel_rfl) (by kernel_rfl) (fun _ _ _ h => h) (Or.inl ⟨by kernel_rfl, ?y34⟩) (by assumption) ?_
        case y34 =>
          intro w0 hSw
          (try dsimp only at hSw)
          go_simp
          try with_reducible rfl
        try simp only [Act.put, qa14, qb14, qc14, qd14, qe14, qf14]
        refine wpAnyH_done (by kernel_rfl) ?_ _
        go_wp2
        refine bodyPost_ret (v := .tuple #[.pointer none, .int .i64 67]) (by simp [results, Tryz.results147, go_sem]) rfl ⟨none, 67, rfl, HBEL.out.trans ((hB6.trans (g4.mono (Nat.le_of_lt hs6))).mono hbsz), .inr ⟨hbad.out, rfl, rfl⟩⟩
      have t2 : decide (5 < a.typ) = false := decide_eq_false ht5
      have HTY : Hid (1 ≤ a.typ ∧ a.typ ≤ 5) := Lib.hid ⟨by omega, by omega⟩
      clear ht1 ht5
      have s1 : IntKind.i64.wrap ((k : Int) - 1) = (k : Int) - 1 := IntWalk.i64_in _ (by omega)
      have s2 : ((k : Int) - 1).toNat = k - 1 := by omega
      have s3 : (0 : Int) ≤ (k : Int) - 1 := by omega
      have s4 : (k : Int) - 1 < L.length := by omega
      have s5 : decide ((0 : Int) < (k : Int)) = true := decide_eq_true (by omega)
      have s6 : 0 < k := by omega
      have s9 : (1 : Int) ≤ (k : Int) := by omega
      have s8 : k - 1 < L.length := by omega
      have s7 : decide (0 < k) = true := decide_eq_true s6
      go_wp2
      obtain ⟨W6, hW6⟩ : ∃ W6, wr.alloc (.cells #[.string a.name, .int .i64 a.typ, .int .i64 a.opened, .bool a.closed] 159) = W6 := ⟨_, rfl⟩
      have hn6 : W6.heap[wr.heap.size]? = some (.cells #[.string a.name, .int .i64 a.typ, .int .i64 a.opened, .bool a.closed] 159 (0, 0)) := by rw [← hW6]; exact heap_alloc_new _ _
      have hB6 : Below wr.heap.size wr W6 := by rw [← hW6]; exact (Below.refl _ _).alloc (Nat.le_refl _) _
      have z0 : W6.cell? ⟨wr.heap.size, 0, none⟩ = some (.string a.name) := by rw [cell_of_blk hn6]; rfl
      have z1 : W6.cell? ⟨wr.heap.size, 1, none⟩ = some (.int .i64 a.typ) := by rw [cell_of_blk hn6]; rfl
      have z2 : W6.cell? ⟨wr.heap.size, 2, none⟩ = some (.int .i64 a.opened) := by rw [cell_of_blk hn6]; rfl
      have z3 : W6.cell? ⟨b, (k - 1) * 4, none⟩ = some (.string p.name) := (hB6.cell (p := ⟨b, (k - 1) * 4, none⟩) hbl).trans r0
      have hs6 : wr.heap.size < W6.heap.size := heap_lt hn6
      have hb6 : b < W6.heap.size := by omega
      have HN := Lib.hid hn6
      have hBd : Below W6.heap.size W6 W6.drew := (Below.refl _ _).drew
      rw [hW6]
      clear hW6 hn6 r0 q0 q1 q2 q3
      refine wp_region_held_drew (S := fun w' => w'.cell? ⟨wr.heap.size, 0, none⟩ = some (.string a.name) ∧ w'.cell? ⟨wr.heap.size, 1, none⟩ = some (.int .i64 a.typ) ∧ w'.cell? ⟨wr.heap.size, 2, none⟩ = some (.int .i64 a.opened) ∧ w'.cell? ⟨b, (k - 1) * 4, none⟩ = some (.string p.name) ∧ Below W6.heap.size W6 w') (by kernel_rfl) ⟨z0, z1, z2, z3, hBd⟩ (fun hHeld => ?_)
      refine wpAnyH_take (i := 0) (v := ?_) rfl (by kernel_rfl) (by kernel_rfl) (by kernel_rfl) (fun _ _ _ h => h) (Or.inl ⟨by kernel_rfl, ?y0⟩) (by assumption) ?_
      case y0 =>
        intro w0 hSw
        (try dsimp only at hSw)
        go_simp
        try with_reducible rfl
      try simp only [Act.put, qa14, qb14, qc14, qd14, qe14, qf14]
      refine wpAnyH_take (i := 1) (v := ?_) rfl (by kernel_rfl) (by kernel_rfl) (by kernel_rfl) (fun _ _ _ h => h) (Or.inl ⟨by kernel_rfl, ?y1⟩) (by assumption) ?_
      case y1 =>
        intro w0 hSw
        (try dsimp only at hSw)
        go_simp
        try with_reducible rfl
      try simp only [Act.put, qa14, qb14, qc14, qd14, qe14, qf14]
      refine wpAnyH_ready (rs := [2]) (by kernel_rfl) (by simp) (AllReadyH.cons rfl (fun K hK => ?_) AllReadyH.nil)
      go_simp
      go_at_call 6; refine (hg _).mono ?_; rintro e w7 ⟨rfl, hb7⟩; obtain ⟨g0, g1, g2, g3, g4⟩ := from_keep2 hb7 hs6 hb6 z0 z1 z2 z3 hBd
      go_wp2_with fail
      refine hK.out _ _ ⟨g0, g1, g2, g3, g4⟩ (fun hHeld => ?_)
      clear hK K
      try simp only [Act.put, qa14, qb14, qc14, qd14, qe14, qf14]
      refine wpAnyH_take (i := 3) (v := ?_) rfl (by kernel_rfl) (by kernel_rfl) (by kernel_rfl) (fun _ _ _ h => h) (Or.inl ⟨by kernel_rfl, ?y3⟩) (by assumption) ?_
      case y3 =>
        intro w0 hSw
        (try dsimp only at hSw)
        go_simp
        try with_reducible rfl
      try simp only [Act.put, qa14, qb14, qc14, qd14, qe14, qf14]
      refine wpAnyH_take (i := 4) (v := ?_) rfl (by kernel_rfl) (by kernel_rfl) (by kernel_rfl) (fun _ _ _ h => h) (Or.inl ⟨by kernel_rfl, ?y4⟩) (by assumption) ?_
      case y4 =>
        intro w0 hSw
        (try dsimp only at hSw)
        go_simp
        try with_reducible rfl
      try simp only [Act.put, qa14, qb14, qc14, qd14, qe14, qf14]
      refine wpAnyH_take (i := 5) (v := ?_) rfl (by kernel_rfl) (by kernel_rfl) (by kernel_rfl) (fun _ _ _ h => h) (Or.inl ⟨by kernel_rfl, ?y5⟩) (by assumption) ?_
      case y5 =>
        intro w0 hSw
        (try dsimp only at hSw)
        go_simp
        try with_reducible rfl
      try simp only [Act.put, qa14, qb14, qc14, qd14, qe14, qf14]
      refine wpAnyH_take (i := 6) (v := ?_) rfl (by kernel_rfl) (by kernel_rfl) (by kernel_rfl) (fun _ _ _ h => h) (Or.inl ⟨by kernel_rfl, ?y6⟩) (by assumption) ?_
      case y6 =>
        intro w0 hSw
        (try dsimp only at hSw)
        go_simp
        try with_reducible rfl
      try simp only [Act.put, qa14, qb14, qc14, qd14, qe14, qf14]
      refine wpAnyH_take (i := 7) (v := ?_) rfl (by kernel_rfl) (by kernel_rfl) (by kernel_rfl) (fun _ _ _ h => h) (Or.inl ⟨by kernel_rfl, ?y7⟩) (by assumption) ?_
      case y7 =>
        intro w0 hSw
        (try dsimp only at hSw)
        go_simp
        try with_reducible rfl
      try simp only [Act.put, qa14, qb14, qc14, qd14, qe14, qf14]
      refine wpAnyH_take (i := 8) (v := ?_) rfl (by kernel_rfl) (by kernel_rfl) (by kernel_rfl) (fun _ _ _ h => h) (Or.inl ⟨by kernel_rfl, ?y8⟩) (by assumption) ?_
      case y8 =>
        intro w0 hSw
        (try dsimp only at hSw)
        go_simp
        try with_reducible rfl
      try simp only [Act.put, qa14, qb14, qc14, qd14, qe14, qf14]
      refine wpAnyH_take (i := 9) (v := ?_) rfl (by kernel_rfl) (by kernel_rfl) (by kernel_rfl) (fun _ _ _ h => h) (Or.inl ⟨by kernel_rfl, ?y9⟩) (by assumption) ?_
      case y9 =>
        intro w0 hSw
        (try dsimp only at hSw)
        go_simp
        try with_reducible rfl
      try simp only [Act.put, qa14, qb14, qc14, qd14, qe14, qf14]
      refine wpAnyH_take (i := 10) (v := ?_) rfl (by kernel_rfl) (by kernel_rfl) (by kernel_rfl) (fun _ _ _ h => h) (Or.inl ⟨by kernel_rfl, ?y10⟩) (by assumption) ?_
      case y10 =>
        intro w0 hSw
        (try dsimp only at hSw)
        go_simp
        try with_reducible rfl
      try simp only [Act.put, qa14, qb14, qc14, qd14, qe14, qf14]
      refine wpAnyH_take (i := 11) (v := ?_) rfl (by kernel_rfl) (by kernel_rfl) (by kernel_rfl) (fun _ _ _ h => h) (Or.inl ⟨by kernel_rfl, ?y11⟩) (by assumption) ?_
      case y11 =>
        intro w0 hSw
        (try dsimp only at hSw)
        go_simp
        try with_reducible rfl
      try simp only [Act.put, qa14, qb14, qc14, qd14, qe14, qf14]
      refine wpAnyH_take (i := 12) (v := ?_) rfl (by kernel_rfl) (by kernel_rfl) (by kernel_rfl) (fun _ _ _ h => h) (Or.inl ⟨by kernel_rfl, ?y12⟩) (by assumption) ?_
      case y12 =>
        intro w0 hSw
        (try dsimp only at hSw)
        go_simp
        try with_reducible rfl
      try simp only [Act.put, qa14, qb14, qc14, qd14, qe14, qf14]
      refine wpAnyH_take (i := 13) (v := ?_) rfl (by kernel_rfl) (by kernel_rfl) (by kernel_rfl) (fun _ _ _ h => h) (Or.inl ⟨by kernel_rfl, ?y13⟩) (by assumption) ?_
      case y13 =>
        intro w0 hSw
        (try dsimp only at hSw)
        go_simp
        try with_reducible rfl
      try simp only [Act.put, qa14, qb14, qc14, qd14, qe14, qf14]
      refine wpAnyH_take (i := 14) (v := ?_) rfl (by kernel_rfl) (by kernel_rfl) (by kernel_rfl) (fun _ _ _ h => h) (Or.inl ⟨by kernel_rfl, ?y14⟩) (by assumption) ?_
      case y14 =>
        intro w0 hSw
        (try dsimp only at hSw)
        go_simp
        try with_reducible rfl
      try simp only [Act.put, qa14, qb14, qc14, qd14, qe14, qf14]
      refine wpAnyH_take (i := 15) (v := ?_) rfl (by kernel_rfl) (by kernel_rfl) (by kernel_rfl) (fun _ _ _ h => h) (Or.inl ⟨by kernel_rfl, ?y15⟩) (by assumption) ?_
      case y15 =>
        intro w0 hSw
        (try dsimp only at hSw)
        go_simp
        try with_reducible rfl
      try simp only [Act.put, qa14, qb14, qc14, qd14, qe14, qf14]
      refine wpAnyH_take (i := 16) (v := ?_) rfl (by kernel_rfl) (by kernel_rfl) (by kernel_rfl) (fun _ _ _ h => h) (Or.inl ⟨by kernel_rfl, ?y16⟩) (by assumption) ?_
      case y16 =>
        intro w0 hSw
        (try dsimp only at hSw)
        go_simp
        try with_reducible rfl
      try simp only [Act.put, qa14, qb14, qc14, qd14, qe14, qf14]
      refine wpAnyH_take (i := 17) (v := ?_) rfl (by kernel_rfl) (by kernel_rfl) (by kernel_rfl) (fun _ _ _ h => h) (Or.inl ⟨by kernel_rfl, ?y17⟩) (by assumption) ?_
      case y17 =>
        intro w0 hSw
        (try dsimp only at hSw)
        go_simp
        try with_reducible rfl
      try simp only [Act.put, qa14, qb14, qc14, qd14, qe14, qf14]
      refine wpAnyH_take (i := 18) (v := ?_) rfl (by kernel_rfl) (by kernel_rfl) (by kernel_rfl) (fun _ _ _ h => h) (Or.inl ⟨by kernel_rfl, ?y18⟩) (by assumption) ?_
      case y18 =>
        intro w0 hSw
        (try dsimp only at hSw)
        go_simp
        try with_reducible rfl
      try simp only [Act.put, qa14, qb14, qc14, qd14, qe14, qf14]
      refine wpAnyH_take (i := 19) (v := ?_) rfl (by kernel_rfl) (by kernel_rfl) (by kernel_rfl) (fun _ _ _ h => h) (Or.inl ⟨by kernel_rfl, ?y19⟩) (by assumption) ?_
      case y19 =>
        intro w0 hSw
        (try dsimp only at hSw)
        go_simp
        try with_reducible rfl
      try simp only [Act.put, qa14, qb14, qc14, qd14, qe14, qf14]
      refine wpAnyH_take (i := 20) (v := ?_) rfl (by kernel_rfl) (by kernel_rfl) (by kernel_rfl) (fun _ _ _ h => h) (Or.inl ⟨by kernel_rfl, ?y20⟩) (by assumption) ?_
      case y20 =>
        intro w0 hSw
        (try dsimp only at hSw)
        go_simp
        try with_reducible rfl
      try simp only [Act.put, qa14, qb14, qc14, qd14, qe14, qf14]
      refine wpAnyH_take (i := 21) (v := ?_) rfl (by kernel_rfl) (by kernel_rfl) (by kernel_rfl) (fun _ _ _ h => h) (Or.inl ⟨by kernel_rfl, ?y21⟩) (by assumption) ?_
      case y21 =>
        intro w0 hSw
        (try dsimp only at hSw)
        go_simp
        try with_reducible rfl
      try simp only [Act.put, qa14, qb14, qc14, qd14, qe14, qf14]
      refine wpAnyH_ready (rs := [22]) (by kernel_rfl) (by simp) (AllReadyH.cons rfl (fun K hK => ?_) AllReadyH.nil)
      go_simp
      go_at_call 209; refine (hdd _).mono ?_; rintro e w8 ⟨rfl, hw8⟩; have hw8 := hw8.symm; subst hw8
      go_wp2_with fail
      refine hK.out _ _ ⟨g0, g1, g2, g3, g4⟩ (fun hHeld => ?_)
      clear hK K
      try simp only [Act.put, qa14, qb14, qc14, qd14, qe14, qf14]
      refine wpAnyH_take (i := 23) (v := ?_) rfl (by kernel_rfl) (by kernel_rfl) (by kernel_rfl) (fun _ _ _ h => h) (Or.inl ⟨by kernel_rfl, ?y23⟩) (by assumption) ?_
      case y23 =>
        intro w0 hSw
        (try dsimp only at hSw)
        go_simp
        try with_reducible rfl
      try simp only [Act.put, qa14, qb14, qc14, qd14, qe14, qf14]
      refine wpAnyH_take (i := 24) (v := ?_) rfl (by kernel_rfl) (by kernel_rfl) (by kernel_rfl) (fun _ _ _ h => h) (Or.inl ⟨by kernel_rfl, ?y24⟩) (by assumption) ?_
      case y24 =>
        intro w0 hSw
        (try dsimp only at hSw)
        go_simp
        try with_reducible rfl
      try simp only [Act.put, qa14, qb14, qc14, qd14, qe14, qf14]
      refine wpAnyH_take (i := 25) (v := ?_) rfl (by kernel_rfl) (by kernel_rfl) (by kernel_rfl) (fun _ _ _ h => h) (Or.inl ⟨by kernel_rfl, ?y25⟩) (by assumption) ?_
      case y25 =>
        intro w0 hSw
        (try dsimp only at hSw)
        go_simp
        try with_reducible rfl
      try simp only [Act.put, qa14, qb14, qc14, qd14, qe14, qf14]
      refine wpAnyH_take (i := 26) (v := ?_) rfl (by kernel_rfl) (by kernel_rfl) (by kernel_rfl) (fun _ _ _ h => h) (Or.inl ⟨by kernel_rfl, ?y26⟩) (by assumption) ?_
      case y26 =>
        intro w0 hSw
        (try dsimp only at hSw)
        go_simp
        try with_reducible rfl
      try simp only [Act.put, qa14, qb14, qc14, qd14, qe14, qf14]
      refine wpAnyH_take (i := 27) (v := ?_) rfl (by kernel_rfl) (by kernel_rfl) (by kernel_rfl) (fun _ _ _ h => h) (Or.inl ⟨by kernel_rfl, ?y27⟩) (by assumption) ?_
      case y27 =>
        intro w0 hSw
        (try dsimp only at hSw)
        go_simp
        try with_reducible rfl
      try simp only [Act.put, qa14, qb14, qc14, qd14, qe14, qf14]
      refine wpAnyH_take (i := 28) (v := ?_) rfl (by kernel_rfl) (by kernel_rfl) (by kernel_rfl) (fun _ _ _ h => h) (Or.inl ⟨by kernel_rfl, ?y28⟩) (by assumption) ?_
      case y28 =>
        intro w0 hSw
        (try dsimp only at hSw)
        go_simp
        try with_reducible rfl
      try simp only [Act.put, qa14, qb14, qc14, qd14, qe14, qf14]
      refine wpAnyH_take (i := 29) (v := ?_) rfl (by kernel_rfl) (by kernel_rfl) (by kernel_rfl) (fun _ _ _ h => h) (Or.inl ⟨by kernel_rfl, ?y29⟩) (by assumption) ?_
      case y29 =>
        intro w0 hSw
        (try dsimp only at hSw)
        go_simp
        try with_reducible rfl
      try simp only [Act.put, qa14, qb14, qc14, qd14, qe14, qf14]
      refine wpAnyH_take (i := 30) (v := ?_) rfl (by kernel_rfl) (by kernel_rfl) (by kernel_rfl) (fun _ _ _ h => h) (Or.inl ⟨by kernel_rfl, ?y30⟩) (by assumption) ?_
      case y30 =>
        intro w0 hSw
        (try dsimp only at hSw)
        go_simp
        try with_reducible rfl
      try simp only [Act.put, qa14, qb14, qc14, qd14, qe14, qf14]
      refine wpAnyH_take (i := 31) (v := ?_) rfl (by kernel_rfl) (by kernel_rfl) (by kernel_rfl) (fun _ _ _ h => h) (Or.inl ⟨by kernel_rfl, ?y31⟩) (by assumption) ?_
      case y31 =>
        intro w0 hSw
        (try dsimp only at hSw)
        go_simp
        try with_reducible rfl
      try simp only [Act.put, qa14, qb14, qc14, qd14, qe14, qf14]
      refine wpAnyH_take (i := 32) (v := ?_) rfl (by kernel_rfl) (by kernel_rfl) (by kernel_rfl) (fun _ _ _ h => h) (Or.inl ⟨by kernel_rfl, ?y32⟩) (by assumption) ?_
      case y32 =>
        intro w0 hSw
        (try dsimp only at hSw)
        go_simp
        try with_reducible rfl
      try simp only [Act.put, qa14, qb14, qc14, qd14, qe14, qf14]
      refine wpAnyH_take (i := 33) (v := ?_) rfl (by kernel_rfl) (by kernel_rfl) (by kernel_rfl) (fun _ _ _ h => h) (Or.inl ⟨by kernel_rfl, ?y33⟩) (by assumption) ?_
      case y33 =>
        intro w0 hSw
        (try dsimp only at hSw)
        go_simp
        try with_reducible rfl
      try simp only [Act.put, qa14, qb14, qc14, qd14, qe14, qf14]
      refine wpAnyH_take (i := 34) (v := ?_) rfl (by kernel_rfl) (by kernel_rfl) (by kernel_rfl) (fun _ _ _ h => h) (Or.inl ⟨by kernel_rfl, ?y34⟩) (by assumption) ?_
      case y34 =>
        intro w0 hSw
        (try dsimp only at hSw)
        go_simp
        try with_reducible rfl
      try simp only [Act.put, qa14, qb14, qc14, qd14, qe14, qf14]
      refine wpAnyH_done (by kernel_rfl) ?_ _
      clear g0 g1 g2 g3 hb7 hBd hg hdd z0 z1 z2 z3 t1 t2 s1 s2 s3 s4 s5 s7 s9 ho
      have HB7 := Lib.hid (hB6.trans (g4.mono (Nat.le_of_lt hs6)))
      have h7s := g4.size
      have HBOX : Hid (∀ W : World, Below w7.heap.size w7 W → W.heap[wr.heap.size]? = some (.cells #[.string a.name, .int .i64 a.typ, .int .i64 a.opened, .bool a.closed] 159 (0, 0))) := Lib.hid (fun W hb => (hb.block _ (by omega)).trans ((g4.block _ hs6).trans HN.out))
      have HG4 := Lib.hid g4
      clear g4
      have y0 : w7.cell? ⟨wr.heap.size, 0, none⟩ = some (.string a.name) := by rw [cell_of_blk (HBOX.out w7 (Below.refl _ _))]; rfl
      have HNX := Lib.hid (valid_next (k := k) hlt (by omega) HVK.out (by rw [← HA.out]; exact HGB.out) HORD.out (by rw [← HA.out]; exact HDY.out) (by rw [← HA.out]; exact HTY.out))
      rw [← HA.out] at HNX
      cases hpar : parentF a.name with
      | none =>
        have HX := Lib.hid (HNX.out (fun u hu => by rw [hpar] at hu; cases hu))
        rw [hpar] at hpr
        go_wp2_with (first
          | (go_at_call 10; refine (hpr _).mono ?_; rintro e w8 ⟨rfl, hb8⟩; have HB8 := Lib.hid hb8; clear hb8; have hn8 := HBOX.out w8 HB8.out; have x0 : w8.cell? ⟨wr.heap.size, 0, none⟩ = some (.string a.name) := (by rw [cell_of_blk hn8]; rfl); have x1 : w8.cell? ⟨wr.heap.size, 1, none⟩ = some (.int .i64 a.typ) := (by rw [cell_of_blk hn8]; rfl); have x2 : w8.cell? ⟨wr.heap.size, 2, none⟩ = some (.int .i64 a.opened) := (by rw [cell_of_blk hn8]; rfl); have x3 : w8.cell? ⟨wr.heap.size, 3, none⟩ = some (.bool a.closed) := (by rw [cell_of_blk hn8];  rfl); clear hn8; have hB8 := Lib.hid (HB7.out.trans (HB8.out.mono HB7.out.size)); have hadd := add_any (HCI.out.below hB8.out) HX.out.1; unfold accV at hadd)
          | (go_at_call 210; refine hadd.mono ?_; rintro e w9 ⟨rfl, F', hch9, hC9, hF9⟩; have HC9 := Lib.hid (And.intro hch9 (And.intro hC9 hF9)); clear hch9 hC9 hF9))
        go_roundw
        case rel =>
          obtain ⟨hch9, hC9, hF9⟩ := HC9.out
          rw [HX.out.2.1] at hch9
          exact ⟨k + 1, by omega, by go_num, HX.out.2.2, ⟨F', hch9, fun x hx => by rcases hF9 x hx with h | h; exact hF x h; have := hB8.out.size; have h1 : w8.heap.size ≤ x := h.1; omega⟩, HBEL.out.trans (((Ch.of_below hB8.out).trans' hC9).toBelow hbsz hF)⟩
        case measure => simp [intOf]; omega
      | some u =>
        rw [hpar] at hpr
        have HPAR := Lib.hid hpar
        clear hpar
        obtain ⟨mb, rv, nb, kv, ps, hcr⟩ := HCI.out
        have HCR := Lib.hid hcr
        clear hcr
        cases hfq : findA (L.take k) u with
        | none =>
          have hbad : Hid (¬ Valid L) := Lib.hid fun hv => by
            obtain ⟨p', _, h1, _⟩ := (take_fits hv k hlt).2.2 u (by rw [← HA.out]; exact HPAR.out)
            rw [hfq] at h1; cases h1
          go_wp2_with (go_at_call 10; refine (hpr _).mono ?_; rintro e w8 ⟨rfl, hb8⟩; have HB8 := Lib.hid hb8; clear hb8; have hn8 := HBOX.out w8 HB8.out; have x0 : w8.cell? ⟨wr.heap.size, 0, none⟩ = some (.string a.name) := (by rw [cell_of_blk hn8]; rfl); have x1 : w8.cell? ⟨wr.heap.size, 1, none⟩ = some (.int .i64 a.typ) := (by rw [cell_of_blk hn8]; rfl); have x2 : w8.cell? ⟨wr.heap.size, 2, none⟩ = some (.int .i64 a.opened) := (by rw [cell_of_blk hn8]; rfl); have x3 : w8.cell? ⟨wr.heap.size, 3, none⟩ = some (.bool a.closed) := (by rw [cell_of_blk hn8];  rfl); clear hn8; have hB8 := Lib.hid (HB7.out.trans (HB8.out.mono HB7.out.size)); have hcr8 := HCR.out.keep (fun k _ hk => hB8.out.block k hk); have e0 : w8.cell? ⟨cb, 0, none⟩ = some (.map (some mb)) := (by rw [cell_of_blk hcr8.hC]; rfl); have hlk := hcr8.lookup u; rw [hfq] at hlk)
          go_quiet (fail)
          go_wp2
          refine bodyPost_ret (v := .tuple #[.pointer none, .int .i64 67]) (by simp [results, Tryz.results147, go_sem]) rfl ⟨none, 67, rfl, below_drewN (HBEL.out.trans (hB8.out.mono hbsz)) _, .inr ⟨hbad.out, rfl, rfl⟩⟩
        | some q =>
        obtain ⟨hqL, hqn⟩ := findA_some hfq
        have HQL := Lib.hid hqL
        have HQN := Lib.hid hqn
        have HFQ : Hid (∀ (hv : Valid L), q.typ = a.typ ∧ q.opened ≤ a.opened ∧ (q.closed = true → a.closed = true)) := Lib.hid fun hv => by
          obtain ⟨p', _, h1, _, h2, h3, h4⟩ := (take_fits hv k hlt).2.2 u (by rw [← HA.out]; exact HPAR.out)
          rw [hfq] at h1
          obtain rfl : q = p' := Option.some.inj h1
          rw [← HA.out] at h2 h3 h4
          exact ⟨h2, h3, h4⟩
        clear hqL hqn
        by_cases hq1 : q.typ = a.typ
        case neg =>
          have hbad : Hid (¬ Valid L) := Lib.hid fun hv => by have := HFQ.out hv; exact hq1 this.1
          have hqt : (q.typ != a.typ) = true := by rw [bne_iff_ne]; exact hq1
          clear hq1
          go_wp2_with (go_at_call 10; refine (hpr _).mono ?_; rintro e w8 ⟨rfl, hb8⟩; have HB8 := Lib.hid hb8; clear hb8; have hn8 := HBOX.out w8 HB8.out; have x0 : w8.cell? ⟨wr.heap.size, 0, none⟩ = some (.string a.name) := (by rw [cell_of_blk hn8]; rfl); have x1 : w8.cell? ⟨wr.heap.size, 1, none⟩ = some (.int .i64 a.typ) := (by rw [cell_of_blk hn8]; rfl); have x2 : w8.cell? ⟨wr.heap.size, 2, none⟩ = some (.int .i64 a.opened) := (by rw [cell_of_blk hn8]; rfl); have x3 : w8.cell? ⟨wr.heap.size, 3, none⟩ = some (.bool a.closed) := (by rw [cell_of_blk hn8];  rfl); clear hn8; have hB8 := Lib.hid (HB7.out.trans (HB8.out.mono HB7.out.size)); have hcr8 := HCR.out.keep (fun k _ hk => hB8.out.block k hk); have e0 : w8.cell? ⟨cb, 0, none⟩ = some (.map (some mb)) := (by rw [cell_of_blk hcr8.hC]; rfl); have hlk := hcr8.lookup u; rw [hfq] at hlk; have hlk2 : Sem.run Tryz.prog (Instr.lookup 145 (.map (some mb)) (.string u) false) w8 = .ok (.pointer (some ⟨nb u, 0, none⟩)) w8 := (by rw [hlk, ← HQN.out]; rfl); clear hlk; have e1 : w8.cell? ⟨nb u, 1, none⟩ = some (.int .i64 q.typ) := (by rw [← HQN.out, cell_of_blk (hcr8.hN q HQL.out)]; rfl); have e2 : w8.cell? ⟨nb u, 2, none⟩ = some (.int .i64 q.opened) := (by rw [← HQN.out, cell_of_blk (hcr8.hN q HQL.out)]; rfl); have e3 : w8.cell? ⟨nb u, 3, none⟩ = some (.bool q.closed) := (by rw [← HQN.out, cell_of_blk (hcr8.hN q HQL.out)];  rfl))
          go_quiet (fail)
          go_wp2
          refine bodyPost_ret (v := .tuple #[.pointer none, .int .i64 67]) (by simp [results, Tryz.results147, go_sem]) rfl ⟨none, 67, rfl, below_drewN (HBEL.out.trans (hB8.out.mono hbsz)) _, .inr ⟨hbad.out, rfl, rfl⟩⟩
        have hqt : (q.typ != a.typ) = false := by rw [hq1]; simp
        by_cases hq2 : q.opened ≤ a.opened
        case neg =>
          have hbad : Hid (¬ Valid L) := Lib.hid fun hv => by have := HFQ.out hv; exact hq2 this.2.1
          have hqo : decide (a.opened < q.opened) = true := decide_eq_true (by omega)
          go_wp2_with (go_at_call 10; refine (hpr _).mono ?_; rintro e w8 ⟨rfl, hb8⟩; have HB8 := Lib.hid hb8; clear hb8; have hn8 := HBOX.out w8 HB8.out; have x0 : w8.cell? ⟨wr.heap.size, 0, none⟩ = some (.string a.name) := (by rw [cell_of_blk hn8]; rfl); have x1 : w8.cell? ⟨wr.heap.size, 1, none⟩ = some (.int .i64 a.typ) := (by rw [cell_of_blk hn8]; rfl); have x2 : w8.cell? ⟨wr.heap.size, 2, none⟩ = some (.int .i64 a.opened) := (by rw [cell_of_blk hn8]; rfl); have x3 : w8.cell? ⟨wr.heap.size, 3, none⟩ = some (.bool a.closed) := (by rw [cell_of_blk hn8];  rfl); clear hn8; have hB8 := Lib.hid (HB7.out.trans (HB8.out.mono HB7.out.size)); have hcr8 := HCR.out.keep (fun k _ hk => hB8.out.block k hk); have e0 : w8.cell? ⟨cb, 0, none⟩ = some (.map (some mb)) := (by rw [cell_of_blk hcr8.hC]; rfl); have hlk := hcr8.lookup u; rw [hfq] at hlk; have hlk2 : Sem.run Tryz.prog (Instr.lookup 145 (.map (some mb)) (.string u) false) w8 = .ok (.pointer (some ⟨nb u, 0, none⟩)) w8 := (by rw [hlk, ← HQN.out]; rfl); clear hlk; have e1 : w8.cell? ⟨nb u, 1, none⟩ = some (.int .i64 q.typ) := (by rw [← HQN.out, cell_of_blk (hcr8.hN q HQL.out)]; rfl); have e2 : w8.cell? ⟨nb u, 2, none⟩ = some (.int .i64 q.opened) := (by rw [← HQN.out, cell_of_blk (hcr8.hN q HQL.out)]; rfl); have e3 : w8.cell? ⟨nb u, 3, none⟩ = some (.bool q.closed) := (by rw [← HQN.out, cell_of_blk (hcr8.hN q HQL.out)];  rfl))
          go_quiet (fail)
          go_wp2
          refine bodyPost_ret (v := .tuple #[.pointer none, .int .i64 67]) (by simp [results, Tryz.results147, go_sem]) rfl ⟨none, 67, rfl, below_drewN (HBEL.out.trans (hB8.out.mono hbsz)) _, .inr ⟨hbad.out, rfl, rfl⟩⟩
        have hqo : decide (a.opened < q.opened) = false := decide_eq_false (by omega)
        have d2 : ¬ a.opened < q.opened := by omega
        by_cases hq3 : q.closed = true → a.closed = true
        case neg =>
          have hqc : q.closed = true := by cases h : q.closed <;> simp_all
          have hac : a.closed = false := by cases h : a.closed <;> simp_all
          have hbad : Hid (¬ Valid L) := Lib.hid fun hv => by have := HFQ.out hv; exact hq3 this.2.2
          clear hq3
          go_wp2_with (go_at_call 10; refine (hpr _).mono ?_; rintro e w8 ⟨rfl, hb8⟩; have HB8 := Lib.hid hb8; clear hb8; have hn8 := HBOX.out w8 HB8.out; have x0 : w8.cell? ⟨wr.heap.size, 0, none⟩ = some (.string a.name) := (by rw [cell_of_blk hn8]; rfl); have x1 : w8.cell? ⟨wr.heap.size, 1, none⟩ = some (.int .i64 a.typ) := (by rw [cell_of_blk hn8]; rfl); have x2 : w8.cell? ⟨wr.heap.size, 2, none⟩ = some (.int .i64 a.opened) := (by rw [cell_of_blk hn8]; rfl); have x3 : w8.cell? ⟨wr.heap.size, 3, none⟩ = some (.bool false) := (by rw [cell_of_blk hn8]; rw [hac]; rfl); clear hn8; have hB8 := Lib.hid (HB7.out.trans (HB8.out.mono HB7.out.size)); have hcr8 := HCR.out.keep (fun k _ hk => hB8.out.block k hk); have e0 : w8.cell? ⟨cb, 0, none⟩ = some (.map (some mb)) := (by rw [cell_of_blk hcr8.hC]; rfl); have hlk := hcr8.lookup u; rw [hfq] at hlk; have hlk2 : Sem.run Tryz.prog (Instr.lookup 145 (.map (some mb)) (.string u) false) w8 = .ok (.pointer (some ⟨nb u, 0, none⟩)) w8 := (by rw [hlk, ← HQN.out]; rfl); clear hlk; have e1 : w8.cell? ⟨nb u, 1, none⟩ = some (.int .i64 q.typ) := (by rw [← HQN.out, cell_of_blk (hcr8.hN q HQL.out)]; rfl); have e2 : w8.cell? ⟨nb u, 2, none⟩ = some (.int .i64 q.opened) := (by rw [← HQN.out, cell_of_blk (hcr8.hN q HQL.out)]; rfl); have e3 : w8.cell? ⟨nb u, 3, none⟩ = some (.bool true) := (by rw [← HQN.out, cell_of_blk (hcr8.hN q HQL.out)]; rw [hqc]; rfl))
          go_quiet (fail)
          go_wp2
          refine bodyPost_ret (v := .tuple #[.pointer none, .int .i64 67]) (by simp [results, Tryz.results147, go_sem]) rfl ⟨none, 67, rfl, below_drewN (HBEL.out.trans (hB8.out.mono hbsz)) _, .inr ⟨hbad.out, rfl, rfl⟩⟩
        have HX := Lib.hid (HNX.out (fun u' hu' => by
          rw [HPAR.out] at hu'
          obtain rfl : u = u' := Option.some.inj hu'
          exact ⟨q, hfq, hq1, hq2, hq3⟩))
        cases hqc : q.closed with
        | false =>
          clear hq3
          go_wp2_with (go_at_call 10; refine (hpr _).mono ?_; rintro e w8 ⟨rfl, hb8⟩; have HB8 := Lib.hid hb8; clear hb8; have hn8 := HBOX.out w8 HB8.out; have x0 : w8.cell? ⟨wr.heap.size, 0, none⟩ = some (.string a.name) := (by rw [cell_of_blk hn8]; rfl); have x1 : w8.cell? ⟨wr.heap.size, 1, none⟩ = some (.int .i64 a.typ) := (by rw [cell_of_blk hn8]; rfl); have x2 : w8.cell? ⟨wr.heap.size, 2, none⟩ = some (.int .i64 a.opened) := (by rw [cell_of_blk hn8]; rfl); have x3 : w8.cell? ⟨wr.heap.size, 3, none⟩ = some (.bool a.closed) := (by rw [cell_of_blk hn8];  rfl); clear hn8; have hB8 := Lib.hid (HB7.out.trans (HB8.out.mono HB7.out.size)); have hcr8 := HCR.out.keep (fun k _ hk => hB8.out.block k hk); have e0 : w8.cell? ⟨cb, 0, none⟩ = some (.map (some mb)) := (by rw [cell_of_blk hcr8.hC]; rfl); have hlk := hcr8.lookup u; rw [hfq] at hlk; have hlk2 : Sem.run Tryz.prog (Instr.lookup 145 (.map (some mb)) (.string u) false) w8 = .ok (.pointer (some ⟨nb u, 0, none⟩)) w8 := (by rw [hlk, ← HQN.out]; rfl); clear hlk; have e1 : w8.cell? ⟨nb u, 1, none⟩ = some (.int .i64 q.typ) := (by rw [← HQN.out, cell_of_blk (hcr8.hN q HQL.out)]; rfl); have e2 : w8.cell? ⟨nb u, 2, none⟩ = some (.int .i64 q.opened) := (by rw [← HQN.out, cell_of_blk (hcr8.hN q HQL.out)]; rfl); have e3 : w8.cell? ⟨nb u, 3, none⟩ = some (.bool false) := (by rw [← HQN.out, cell_of_blk (hcr8.hN q HQL.out)]; rw [hqc]; rfl); have hadd := fun W hb => add_any (ChartAt.below ⟨mb, rv, nb, kv, ps, hcr8⟩ hb : ChartAt W F cb (L.take k)) HX.out.1; unfold accV at hadd; have HADD := Lib.hid hadd; clear hadd hcr8)
          go_quiet (fail)
          go_wp2_with (go_at_call 210; refine (HADD.out _ (below_drewN (Below.refl _ _) _)).mono ?_; rintro e w9 ⟨rfl, F', hch9, hC9, hF9⟩; have HC9 := Lib.hid (And.intro hch9 (And.intro hC9 hF9)); clear hch9 hC9 hF9)
          go_roundw
          case rel =>
            obtain ⟨hch9, hC9, hF9⟩ := HC9.out
            rw [HX.out.2.1] at hch9
            exact ⟨k + 1, by omega, by go_num, HX.out.2.2, ⟨F', hch9, fun x hx => by rcases hF9 x hx with h | h; exact hF x h; have := hB8.out.size; have h1 : w8.heap.size ≤ x := h.1; omega⟩, HBEL.out.trans ((((Ch.of_below hB8.out).drewN _).trans' hC9).toBelow hbsz hF)⟩
          case measure => simp [intOf]; omega
        | true =>
          have hac : a.closed = true := hq3 hqc
          clear hq3
          go_wp2_with (go_at_call 10; refine (hpr _).mono ?_; rintro e w8 ⟨rfl, hb8⟩; have HB8 := Lib.hid hb8; clear hb8; have hn8 := HBOX.out w8 HB8.out; have x0 : w8.cell? ⟨wr.heap.size, 0, none⟩ = some (.string a.name) := (by rw [cell_of_blk hn8]; rfl); have x1 : w8.cell? ⟨wr.heap.size, 1, none⟩ = some (.int .i64 a.typ) := (by rw [cell_of_blk hn8]; rfl); have x2 : w8.cell? ⟨wr.heap.size, 2, none⟩ = some (.int .i64 a.opened) := (by rw [cell_of_blk hn8]; rfl); have x3 : w8.cell? ⟨wr.heap.size, 3, none⟩ = some (.bool true) := (by rw [cell_of_blk hn8]; rw [hac]; rfl); clear hn8; have hB8 := Lib.hid (HB7.out.trans (HB8.out.mono HB7.out.size)); have hcr8 := HCR.out.keep (fun k _ hk => hB8.out.block k hk); have e0 : w8.cell? ⟨cb, 0, none⟩ = some (.map (some mb)) := (by rw [cell_of_blk hcr8.hC]; rfl); have hlk := hcr8.lookup u; rw [hfq] at hlk; have hlk2 : Sem.run Tryz.prog (Instr.lookup 145 (.map (some mb)) (.string u) false) w8 = .ok (.pointer (some ⟨nb u, 0, none⟩)) w8 := (by rw [hlk, ← HQN.out]; rfl); clear hlk; have e1 : w8.cell? ⟨nb u, 1, none⟩ = some (.int .i64 q.typ) := (by rw [← HQN.out, cell_of_blk (hcr8.hN q HQL.out)]; rfl); have e2 : w8.cell? ⟨nb u, 2, none⟩ = some (.int .i64 q.opened) := (by rw [← HQN.out, cell_of_blk (hcr8.hN q HQL.out)]; rfl); have e3 : w8.cell? ⟨nb u, 3, none⟩ = some (.bool true) := (by rw [← HQN.out, cell_of_blk (hcr8.hN q HQL.out)]; rw [hqc]; rfl); have hadd := fun W hb => add_any (ChartAt.below ⟨mb, rv, nb, kv, ps, hcr8⟩ hb : ChartAt W F cb (L.take k)) HX.out.1; unfold accV at hadd; rw [hac] at hadd; have HADD := Lib.hid hadd; clear hadd hcr8)
          go_quiet (fail)
          go_wp2_with (go_at_call 210; refine (HADD.out _ (below_drewN (Below.refl _ _) _)).mono ?_; rintro e w9 ⟨rfl, F', hch9, hC9, hF9⟩; have HC9 := Lib.hid (And.intro hch9 (And.intro hC9 hF9)); clear hch9 hC9 hF9)
          go_roundw
          case rel =>
            obtain ⟨hch9, hC9, hF9⟩ := HC9.out
            rw [HX.out.2.1] at hch9
            exact ⟨k + 1, by omega, by go_num, HX.out.2.2, ⟨F', hch9, fun x hx => by rcases hF9 x hx with h | h; exact hF x h; have := hB8.out.size; have h1 : w8.heap.size ≤ x := h.1; omega⟩, HBEL.out.trans ((((Ch.of_below hB8.out).drewN _).trans' hC9).toBelow hbsz hF)⟩
          case measure => simp [intOf]; omega
    by_cases hdy : 1 ≤ a.opened ∧ a.opened ≤ 3652059
    case neg =>
      have hbad : Hid (¬ Valid L) := Lib.hid fun hv => hdy (hv.day a (HA.out ▸ List.getElem_mem hlt))
      simp only [decide_eq_false hdy] at hdd
      clear hdy
      subst hk0
      have hpa : a = p := by rw [HP.out, HA.out]
      subst hpa
      simp only [Nat.zero_mul, Nat.zero_add] at q0 q1 q2 q3
      go_wp2
      obtain ⟨W6, hW6⟩ : ∃ W6, wr.alloc (.cells #[.string a.name, .int .i64 a.typ, .int .i64 a.opened, .bool a.closed] 159) = W6 := ⟨_, rfl⟩
      have hn6 : W6.heap[wr.heap.size]? = some (.cells #[.string a.name, .int .i64 a.typ, .int .i64 a.opened, .bool a.closed] 159 (0, 0)) := by rw [← hW6]; exact heap_alloc_new _ _
      have hB6 : Below wr.heap.size wr W6 := by rw [← hW6]; exact (Below.refl _ _).alloc (Nat.le_refl _) _
      have z0 : W6.cell? ⟨wr.heap.size, 0, none⟩ = some (.string a.name) := by rw [cell_of_blk hn6]; rfl
      have z1 : W6.cell? ⟨wr.heap.size, 1, none⟩ = some (.int .i64 a.typ) := by rw [cell_of_blk hn6]; rfl
      have z2 : W6.cell? ⟨wr.heap.size, 2, none⟩ = some (.int .i64 a.opened) := by rw [cell_of_blk hn6]; rfl
      have z3 : W6.cell? ⟨b, (0 - 1) * 4, none⟩ = some (.string a.name) := (hB6.cell (p := ⟨b, (0 - 1) * 4, none⟩) hbl).trans r0
      have hs6 : wr.heap.size < W6.heap.size := heap_lt hn6
      have hb6 : b < W6.heap.size := by omega
      have HN := Lib.hid hn6
      have hBd : Below W6.heap.size W6 W6.drew := (Below.refl _ _).drew
      rw [hW6]
      clear hW6 hn6 r0 q0 q1 q2 q3
      refine wp_region_held_drew (S := fun w' => w'.cell? ⟨wr.heap.size, 0, none⟩ = some (.string a.name) ∧ w'.cell? ⟨wr.heap.size, 1, none⟩ = some (.int .i64 a.typ) ∧ w'.cell? ⟨wr.heap.size, 2, none⟩ = some (.int .i64 a.opened) ∧ w'.cell? ⟨b, (0 - 1) * 4, none⟩ = some (.string a.name) ∧ Below W6.heap.size W6 w') (by kernel_rfl) ⟨z0, z1, z2, z3, hBd⟩ (fun hHeld => ?_)
      refine wpAnyH_take (i := 0) (v := ?_) rfl (by kernel_rfl) (by kernel_rfl) (by kernel_rfl) (fun _ _ _ h => h) (Or.inl ⟨by kernel_rfl, ?y0⟩) (by assumption) ?_
      case y0 =>
        intro w0 hSw
        (try dsimp only at hSw)
        go_simp
        try with_reducible rfl
      try simp only [Act.put, qa14, qb14, qc14, qd14, qe14, qf14]
      refine wpAnyH_take (i := 1) (v := ?_) rfl (by kernel_rfl) (by kernel_rfl) (by kernel_rfl) (fun _ _ _ h => h) (Or.inl ⟨by kernel_rfl, ?y1⟩) (by assumption) ?_
      case y1 =>
        intro w0 hSw
        (try dsimp only at hSw)
        go_simp
        try with_reducible rfl
      try simp only [Act.put, qa14, qb14, qc14, qd14, qe14, qf14]
      refine wpAnyH_ready (rs := [2]) (by kernel_rfl) (by simp) (AllReadyH.cons rfl (fun K hK => ?_) AllReadyH.nil)
      go_simp
      go_at_call 6; refine (hg _).mono ?_; rintro e w7 ⟨rfl, hb7⟩; obtain ⟨g0, g1, g2, g3, g4⟩ := from_keep2 hb7 hs6 hb6 z0 z1 z2 z3 hBd
      go_wp2_with fail
      refine hK.out _ _ ⟨g0, g1, g2, g3, g4⟩ (fun hHeld => ?_)
      clear hK K
      try simp only [Act.put, qa14, qb14, qc14, qd14, qe14, qf14]
      refine wpAnyH_take (i := 3) (v := ?_) rfl (by kernel_rfl) (by kernel_rfl) (by kernel_rfl) (fun _ _ _ h => h) (Or.inl ⟨by kernel_rfl, ?y3⟩) (by assumption) ?_
      case y3 =>
        intro w0 hSw
        (try dsimp only at hSw)
        go_simp
        try with_reducible rfl
      try simp only [Act.put, qa14, qb14, qc14, qd14, qe14, qf14]
      refine wpAnyH_take (i := 4) (v := ?_) rfl (by kernel_rfl) (by kernel_rfl) (by kernel_rfl) (fun _ _ _ h => h) (Or.inl ⟨by kernel_rfl, ?y4⟩) (by assumption) ?_
      case y4 =>
        intro w0 hSw
        (try dsimp only at hSw)
        go_simp
        try with_reducible rfl
      try simp only [Act.put, qa14, qb14, qc14, qd14, qe14, qf14]
      refine wpAnyH_take (i := 5) (v := ?_) rfl (by kernel_rfl) (by kernel_rfl) (by kernel_rfl) (fun _ _ _ h => h) (Or.inl ⟨by kernel_rfl, ?y5⟩) (by assumption) ?_
      case y5 =>
        intro w0 hSw
        (try dsimp only at hSw)
        go_simp
        try with_reducible rfl
      try simp only [Act.put, qa14, qb14, qc14, qd14, qe14, qf14]
      refine wpAnyH_take (i := 6) (v := ?_) rfl (by kernel_rfl) (by kernel_rfl) (by kernel_rfl) (fun _ _ _ h => h) (Or.inl ⟨by kernel_rfl, ?y6⟩) (by assumption) ?_
      case y6 =>
        intro w0 hSw
        (try dsimp only at hSw)
        go_simp
        try with_reducible rfl
      try simp only [Act.put, qa14, qb14, qc14, qd14, qe14, qf14]
      refine wpAnyH_take (i := 7) (v := ?_) rfl (by kernel_rfl) (by kernel_rfl) (by kernel_rfl) (fun _ _ _ h => h) (Or.inl ⟨by kernel_rfl, ?y7⟩) (by assumption) ?_
      case y7 =>
        intro w0 hSw
        (try dsimp only at hSw)
        go_simp
        try with_reducible rfl
      try simp only [Act.put, qa14, qb14, qc14, qd14, qe14, qf14]
      refine wpAnyH_take (i := 8) (v := undef) rfl (by kernel_rfl) (by kernel_rfl) (by kernel_rfl) (fun _ _ _ h => h) (Or.inr ⟨by kernel_rfl, rfl⟩) (by assumption) ?_
      try simp only [Act.put, qa14, qb14, qc14, qd14, qe14, qf14]
      refine wpAnyH_take (i := 9) (v := undef) rfl (by kernel_rfl) (by kernel_rfl) (by kernel_rfl) (fun _ _ _ h => h) (Or.inr ⟨by kernel_rfl, rfl⟩) (by assumption) ?_
      try simp only [Act.put, qa14, qb14, qc14, qd14, qe14, qf14]
      refine wpAnyH_take (i := 10) (v := undef) rfl (by kernel_rfl) (by kernel_rfl) (by kernel_rfl) (fun _ _ _ h => h) (Or.inr ⟨by kernel_rfl, rfl⟩) (by assumption) ?_
      try simp only [Act.put, qa14, qb14, qc14, qd14, qe14, qf14]
      refine wpAnyH_take (i := 11) (v := undef) rfl (by kernel_rfl) (by kernel_rfl) (by kernel_rfl) (fun _ _ _ h => h) (Or.inr ⟨by kernel_rfl, rfl⟩) (by assumption) ?_
      try simp only [Act.put, qa14, qb14, qc14, qd14, qe14, qf14]
      refine wpAnyH_take (i := 12) (v := undef) rfl (by kernel_rfl) (by kernel_rfl) (by kernel_rfl) (fun _ _ _ h => h) (Or.inr ⟨by kernel_rfl, rfl⟩) (by assumption) ?_
      try simp only [Act.put, qa14, qb14, qc14, qd14, qe14, qf14]
      refine wpAnyH_take (i := 13) (v := undef) rfl (by kernel_rfl) (by kernel_rfl) (by kernel_rfl) (fun _ _ _ h => h) (Or.inr ⟨by kernel_rfl, rfl⟩) (by assumption) ?_
      try simp only [Act.put, qa14, qb14, qc14, qd14, qe14, qf14]
      refine wpAnyH_take (i := 14) (v := undef) rfl (by kernel_rfl) (by kernel_rfl) (by kernel_rfl) (fun _ _ _ h => h) (Or.inr ⟨by kernel_rfl, rfl⟩) (by assumption) ?_
      try simp only [Act.put, qa14, qb14, qc14, qd14, qe14, qf14]
      refine wpAnyH_take (i := 15) (v := undef) rfl (by kernel_rfl) (by kernel_rfl) (by kernel_rfl) (fun _ _ _ h => h) (Or.inr ⟨by kernel_rfl, rfl⟩) (by assumption) ?_
      try simp only [Act.put, qa14, qb14, qc14, qd14, qe14, qf14]
      refine wpAnyH_take (i := 16) (v := undef) rfl (by kernel_rfl) (by kernel_rfl) (by kernel_rfl) (fun _ _ _ h => h) (Or.inr ⟨by kernel_rfl, rfl⟩) (by assumption) ?_
      try simp only [Act.put, qa14, qb14, qc14, qd14, qe14, qf14]
      refine wpAnyH_take (i := 17) (v := ?_) rfl (by kernel_rfl) (by kernel_rfl) (by kernel_rfl) (fun _ _ _ h => h) (Or.inl ⟨by kernel_rfl, ?y17⟩) (by assumption) ?_
      case y17 =>
        intro w0 hSw
        (try dsimp only at hSw)
        go_simp
        try with_reducible rfl
      try simp only [Act.put, qa14, qb14, qc14, qd14, qe14, qf14]
      refine wpAnyH_take (i := 18) (v := ?_) rfl (by kernel_rfl) (by kernel_rfl) (by kernel_rfl) (fun _ _ _ h => h) (Or.inl ⟨by kernel_rfl, ?y18⟩) (by assumption) ?_
      case y18 =>
        intro w0 hSw
        (try dsimp only at hSw)
        go_simp
        try with_reducible rfl
      try simp only [Act.put, qa14, qb14, qc14, qd14, qe14, qf14]
      refine wpAnyH_take (i := 19) (v := ?_) rfl (by kernel_rfl) (by kernel_rfl) (by kernel_rfl) (fun _ _ _ h => h) (Or.inl ⟨by kernel_rfl, ?y19⟩) (by assumption) ?_
      case y19 =>
        intro w0 hSw
        (try dsimp only at hSw)
        go_simp
        try with_reducible rfl
      try simp only [Act.put, qa14, qb14, qc14, qd14, qe14, qf14]
      refine wpAnyH_take (i := 20) (v := ?_) rfl (by kernel_rfl) (by kernel_rfl) (by kernel_rfl) (fun _ _ _ h => h) (Or.inl ⟨by kernel_rfl, ?y20⟩) (by assumption) ?_
      case y20 =>
        intro w0 hSw
        (try dsimp only at hSw)
        go_simp
        try with_reducible rfl
      try simp only [Act.put, qa14, qb14, qc14, qd14, qe14, qf14]
      refine wpAnyH_take (i := 21) (v := ?_) rfl (by kernel_rfl) (by kernel_rfl) (by kernel_rfl) (fun _ _ _ h => h) (Or.inl ⟨by kernel_rfl, ?y21⟩) (by assumption) ?_
      case y21 =>
        intro w0 hSw
        (try dsimp only at hSw)
        go_simp
        try with_reducible rfl
      try simp only [Act.put, qa14, qb14, qc14, qd14, qe14, qf14]
      refine wpAnyH_ready (rs := [22]) (by kernel_rfl) (by simp) (AllReadyH.cons rfl (fun K hK => ?_) AllReadyH.nil)
      go_simp
      go_at_call 209; refine (hdd _).mono ?_; rintro e w8 ⟨rfl, hw8⟩; have hw8 := hw8.symm; subst hw8
      go_wp2_with fail
      refine hK.out _ _ ⟨g0, g1, g2, g3, g4⟩ (fun hHeld => ?_)
      clear hK K
      try simp only [Act.put, qa14, qb14, qc14, qd14, qe14, qf14]
      refine wpAnyH_take (i := 23) (v := ?_) rfl (by kernel_rfl) (by kernel_rfl) (by kernel_rfl) (fun _ _ _ h => h) (Or.inl ⟨by kernel_rfl, ?y23⟩) (by assumption) ?_
      case y23 =>
        intro w0 hSw
        (try dsimp only at hSw)
        go_simp
        try with_reducible rfl
      try simp only [Act.put, qa14, qb14, qc14, qd14, qe14, qf14]
      refine wpAnyH_take (i := 24) (v := ?_) rfl (by kernel_rfl) (by kernel_rfl) (by kernel_rfl) (fun _ _ _ h => h) (Or.inl ⟨by kernel_rfl, ?y24⟩) (by assumption) ?_
      case y24 =>
        intro w0 hSw
        (try dsimp only at hSw)
        go_simp
        try with_reducible rfl
      try simp only [Act.put, qa14, qb14, qc14, qd14, qe14, qf14]
      refine wpAnyH_take (i := 25) (v := ?_) rfl (by kernel_rfl) (by kernel_rfl) (by kernel_rfl) (fun _ _ _ h => h) (Or.inl ⟨by kernel_rfl, ?y25⟩) (by assumption) ?_
      case y25 =>
        intro w0 hSw
        (try dsimp only at hSw)
        go_simp
        try with_reducible rfl
      try simp only [Act.put, qa14, qb14, qc14, qd14, qe14, qf14]
      refine wpAnyH_take (i := 26) (v := undef) rfl (by kernel_rfl) (by kernel_rfl) (by kernel_rfl) (fun _ _ _ h => h) (Or.inr ⟨by kernel_rfl, rfl⟩) (by assumption) ?_
      try simp only [Act.put, qa14, qb14, qc14, qd14, qe14, qf14]
      refine wpAnyH_take (i := 27) (v := undef) rfl (by kernel_rfl) (by kernel_rfl) (by kernel_rfl) (fun _ _ _ h => h) (Or.inr ⟨by kernel_rfl, rfl⟩) (by assumption) ?_
      try simp only [Act.put, qa14, qb14, qc14, qd14, qe14, qf14]
      refine wpAnyH_take (i := 28) (v := undef) rfl (by kernel_rfl) (by kernel_rfl) (by kernel_rfl) (fun _ _ _ h => h) (Or.inr ⟨by kernel_rfl, rfl⟩) (by assumption) ?_
      try simp only [Act.put, qa14, qb14, qc14, qd14, qe14, qf14]
      refine wpAnyH_take (i := 29) (v := ?_) rfl (by kernel_rfl) (by kernel_rfl) (by kernel_rfl) (fun _ _ _ h => h) (Or.inl ⟨by kernel_rfl, ?y29⟩) (by assumption) ?_
      case y29 =>
        intro w0 hSw
        (try dsimp only at hSw)
        go_simp
        try with_reducible rfl
      try simp only [Act.put, qa14, qb14, qc14, qd14, qe14, qf14]
      refine wpAnyH_take (i := 30) (v := ?_) rfl (by kernel_rfl) (by kernel_rfl) (by kernel_rfl) (fun _ _ _ h => h) (Or.inl ⟨by kernel_rfl, ?y30⟩) (by assumption) ?_
      case y30 =>
        intro w0 hSw
        (try dsimp only at hSw)
        go_simp
        try with_reducible rfl
      try simp only [Act.put, qa14, qb14, qc14, qd14, qe14, qf14]
      refine wpAnyH_take (i := 31) (v := undef) rfl (by kernel_rfl) (by kernel_rfl) (by kernel_rfl) (fun _ _ _ h => h) (Or.inr ⟨by kernel_rfl, rfl⟩) (by assumption) ?_
      try simp only [Act.put, qa14, qb14, qc14, qd14, qe14, qf14]
      refine wpAnyH_take (i := 32) (v := undef) rfl (by kernel_rfl) (by kernel_rfl) (by kernel_rfl) (fun _ _ _ h => h) (Or.inr ⟨by kernel_rfl, rfl⟩) (by assumption) ?_
      try simp only [Act.put, qa14, qb14, qc14, qd14, qe14, qf14]
      refine wpAnyH_take (i := 33) (v := undef) rfl (by kernel_rfl) (by kernel_rfl) (by kernel_rfl) (fun _ _ _ h => h) (Or.inr ⟨by kernel_rfl, rfl⟩) (by assumption) ?_
      try simp only [Act.put, qa14, qb14, qc14, qd14, qe14, qf14]
      refine wpAnyH_take (i := 34) (v := ?_) rfl (by kernel_rfl) (by kernel_rfl) (by kernel_rfl) (fun _ _ _ h => h) (Or.inl ⟨by kernel_rfl, ?y34⟩) (by assumption) ?_
      case y34 =>
        intro w0 hSw
        (try dsimp only at hSw)
        go_simp
        try with_reducible rfl
      try simp only [Act.put, qa14, qb14, qc14, qd14, qe14, qf14]
      refine wpAnyH_done (by kernel_rfl) ?_ _
      go_wp2
      refine bodyPost_ret (v := .tuple #[.pointer none, .int .i64 67]) (by simp [results, Tryz.results147, go_sem]) rfl ⟨none, 67, rfl, HBEL.out.trans ((hB6.trans (g4.mono (Nat.le_of_lt hs6))).mono hbsz), .inr ⟨hbad.out, rfl, rfl⟩⟩
    simp only [decide_eq_true hdy] at hdd
    have HDY := Lib.hid hdy
    clear hdy
    by_cases ht1 : a.typ < 1
    case pos =>
      have hbad : Hid (¬ Valid L) := Lib.hid fun hv => by have := hv.typ a (HA.out ▸ List.getElem_mem hlt); omega
      have t1 : decide (a.typ < 1) = true := decide_eq_true ht1
      subst hk0
      have hpa : a = p := by rw [HP.out, HA.out]
      subst hpa
      simp only [Nat.zero_mul, Nat.zero_add] at q0 q1 q2 q3
      go_wp2
      obtain ⟨W6, hW6⟩ : ∃ W6, wr.alloc (.cells #[.string a.name, .int .i64 a.typ, .int .i64 a.opened, .bool a.closed] 159) = W6 := ⟨_, rfl⟩
      have hn6 : W6.heap[wr.heap.size]? = some (.cells #[.string a.name, .int .i64 a.typ, .int .i64 a.opened, .bool a.closed] 159 (0, 0)) := by rw [← hW6]; exact heap_alloc_new _ _
      have hB6 : Below wr.heap.size wr W6 := by rw [← hW6]; exact (Below.refl _ _).alloc (Nat.le_refl _) _
      have z0 : W6.cell? ⟨wr.heap.size, 0, none⟩ = some (.string a.name) := by rw [cell_of_blk hn6]; rfl
      have z1 : W6.cell? ⟨wr.heap.size, 1, none⟩ = some (.int .i64 a.typ) := by rw [cell_of_blk hn6]; rfl
      have z2 : W6.cell? ⟨wr.heap.size, 2, none⟩ = some (.int .i64 a.opened) := by rw [cell_of_blk hn6]; rfl
      have z3 : W6.cell? ⟨b, (0 - 1) * 4, none⟩ = some (.string a.name) := (hB6.cell (p := ⟨b, (0 - 1) * 4, none⟩) hbl).trans r0
      have hs6 : wr.heap.size < W6.heap.size := heap_lt hn6
      have hb6 : b < W6.heap.size := by omega
      have HN := Lib.hid hn6
      have hBd : Below W6.heap.size W6 W6.drew := (Below.refl _ _).drew
      rw [hW6]
      clear hW6 hn6 r0 q0 q1 q2 q3
      refine wp_region_held_drew (S := fun w' => w'.cell? ⟨wr.heap.size, 0, none⟩ = some (.string a.name) ∧ w'.cell? ⟨wr.heap.size, 1, none⟩ = some (.int .i64 a.typ) ∧ w'.cell? ⟨wr.heap.size, 2, none⟩ = some (.int .i64 a.opened) ∧ w'.cell? ⟨b, (0 - 1) * 4, none⟩ = some (.string a.name) ∧ Below W6.heap.size W6 w') (by kernel_rfl) ⟨z0, z1, z2, z3, hBd⟩ (fun hHeld => ?_)
      refine wpAnyH_take (i := 0) (v := ?_) rfl (by kernel_rfl) (by kernel_rfl) (by kernel_rfl) (fun _ _ _ h => h) (Or.inl ⟨by kernel_rfl, ?y0⟩) (by assumption) ?_
      case y0 =>
        intro w0 hSw
        (try dsimp only at hSw)
        go_simp
        try with_reducible rfl
      try simp only [Act.put, qa14, qb14, qc14, qd14, qe14, qf14]
      refine wpAnyH_take (i := 1) (v := ?_) rfl (by kernel_rfl) (by kernel_rfl) (by kernel_rfl) (fun _ _ _ h => h) (Or.inl ⟨by kernel_rfl, ?y1⟩) (by assumption) ?_
      case y1 =>
        intro w0 hSw
        (try dsimp only at hSw)
        go_simp
        try with_reducible rfl
      try simp only [Act.put, qa14, qb14, qc14, qd14, qe14, qf14]
      refine wpAnyH_ready (rs := [2]) (by kernel_rfl) (by simp) (AllReadyH.cons rfl (fun K hK => ?_) AllReadyH.nil)
      go_simp
      go_at_call 6; refine (hg _).mono ?_; rintro e w7 ⟨rfl, hb7⟩; obtain ⟨g0, g1, g2, g3, g4⟩ := from_keep2 hb7 hs6 hb6 z0 z1 z2 z3 hBd
      go_wp2_with fail
      refine hK.out _ _ ⟨g0, g1, g2, g3, g4⟩ (fun hHeld => ?_)
      clear hK K
      try simp only [Act.put, qa14, qb14, qc14, qd14, qe14, qf14]
      refine wpAnyH_take (i := 3) (v := ?_) rfl (by kernel_rfl) (by kernel_rfl) (by kernel_rfl) (fun _ _ _ h => h) (Or.inl ⟨by kernel_rfl, ?y3⟩) (by assumption) ?_
      case y3 =>
        intro w0 hSw
        (try dsimp only at hSw)
        go_simp
        try with_reducible rfl
      try simp only [Act.put, qa14, qb14, qc14, qd14, qe14, qf14]
      refine wpAnyH_take (i := 4) (v := ?_) rfl (by kernel_rfl) (by kernel_rfl) (by kernel_rfl) (fun _ _ _ h => h) (Or.inl ⟨by kernel_rfl, ?y4⟩) (by assumption) ?_
      case y4 =>
        intro w0 hSw
        (try dsimp only at hSw)
        go_simp
        try with_reducible rfl
      try simp only [Act.put, qa14, qb14, qc14, qd14, qe14, qf14]
      refine wpAnyH_take (i := 5) (v := ?_) rfl (by kernel_rfl) (by kernel_rfl) (by kernel_rfl) (fun _ _ _ h => h) (Or.inl ⟨by kernel_rfl, ?y5⟩) (by assumption) ?_
      case y5 =>
        intro w0 hSw
        (try dsimp only at hSw)
        go_simp
        try with_reducible rfl
      try simp only [Act.put, qa14, qb14, qc14, qd14, qe14, qf14]
      refine wpAnyH_take (i := 6) (v := ?_) rfl (by kernel_rfl) (by kernel_rfl) (by kernel_rfl) (fun _ _ _ h => h) (Or.inl ⟨by kernel_rfl, ?y6⟩) (by assumption) ?_
      case y6 =>
        intro w0 hSw
        (try dsimp only at hSw)
        go_simp
        try with_reducible rfl
      try simp only [Act.put, qa14, qb14, qc14, qd14, qe14, qf14]
      refine wpAnyH_take (i := 7) (v := ?_) rfl (by kernel_rfl) (by kernel_rfl) (by kernel_rfl) (fun _ _ _ h => h) (Or.inl ⟨by kernel_rfl, ?y7⟩) (by assumption) ?_
      case y7 =>
        intro w0 hSw
        (try dsimp only at hSw)
        go_simp
        try with_reducible rfl
      try simp only [Act.put, qa14, qb14, qc14, qd14, qe14, qf14]
      refine wpAnyH_take (i := 8) (v := undef) rfl (by kernel_rfl) (by kernel_rfl) (by kernel_rfl) (fun _ _ _ h => h) (Or.inr ⟨by kernel_rfl, rfl⟩) (by assumption) ?_
      try simp only [Act.put, qa14, qb14, qc14, qd14, qe14, qf14]
      refine wpAnyH_take (i := 9) (v := undef) rfl (by kernel_rfl) (by kernel_rfl) (by kernel_rfl) (fun _ _ _ h => h) (Or.inr ⟨by kernel_rfl, rfl⟩) (by assumption) ?_
      try simp only [Act.put, qa14, qb14, qc14, qd14, qe14, qf14]
      refine wpAnyH_take (i := 10) (v := undef) rfl (by kernel_rfl) (by kernel_rfl) (by kernel_rfl) (fun _ _ _ h => h) (Or.inr ⟨by kernel_rfl, rfl⟩) (by assumption) ?_
      try simp only [Act.put, qa14, qb14, qc14, qd14, qe14, qf14]
      refine wpAnyH_take (i := 11) (v := undef) rfl (by kernel_rfl) (by kernel_rfl) (by kernel_rfl) (fun _ _ _ h => h) (Or.inr ⟨by kernel_rfl, rfl⟩) (by assumption) ?_
      try simp only [Act.put, qa14, qb14, qc14, qd14, qe14, qf14]
      refine wpAnyH_take (i := 12) (v := undef) rfl (by kernel_rfl) (by kernel_rfl) (by kernel_rfl) (fun _ _ _ h => h) (Or.inr ⟨by kernel_rfl, rfl⟩) (by assumption) ?_
      try simp only [Act.put, qa14, qb14, qc14, qd14, qe14, qf14]
      refine wpAnyH_take (i := 13) (v := undef) rfl (by kernel_rfl) (by kernel_rfl) (by kernel_rfl) (fun _ _ _ h => h) (Or.inr ⟨by kernel_rfl, rfl⟩) (by assumption) ?_
      try simp only [Act.put, qa14, qb14, qc14, qd14, qe14, qf14]
      refine wpAnyH_take (i := 14) (v := undef) rfl (by kernel_rfl) (by kernel_rfl) (by kernel_rfl) (fun _ _ _ h => h) (Or.inr ⟨by kernel_rfl, rfl⟩) (by assumption) ?_
      try simp only [Act.put, qa14, qb14, qc14, qd14, qe14, qf14]
      refine wpAnyH_take (i := 15) (v := undef) rfl (by kernel_rfl) (by kernel_rfl) (by kernel_rfl) (fun _ _ _ h => h) (Or.inr ⟨by kernel_rfl, rfl⟩) (by assumption) ?_
      try simp only [Act.put, qa14, qb14, qc14, qd14, qe14, qf14]
      refine wpAnyH_take (i := 16) (v := undef) rfl (by kernel_rfl) (by kernel_rfl) (by kernel_rfl) (fun _ _ _ h => h) (Or.inr ⟨by kernel_rfl, rfl⟩) (by assumption) ?_
      try simp only [Act.put, qa14, qb14, qc14, qd14, qe14, qf14]
      refine wpAnyH_take (i := 17) (v := ?_) rfl (by kernel_rfl) (by kernel_rfl) (by kernel_rfl) (fun _ _ _ h => h) (Or.inl ⟨by kernel_rfl, ?y17⟩) (by assumption) ?_
      case y17 =>
        intro w0 hSw
        (try dsimp only at hSw)
        go_simp
        try with_reducible rfl
      try simp only [Act.put, qa14, qb14, qc14, qd14, qe14, qf14]
      refine wpAnyH_take (i := 18) (v := ?_) rfl (by kernel_rfl) (by kernel_rfl) (by kernel_rfl) (fun _ _ _ h => h) (Or.inl ⟨by kernel_rfl, ?y18⟩) (by assumption) ?_
      case y18 =>
        intro w0 hSw
        (try dsimp only at hSw)
        go_simp
        try with_reducible rfl
      try simp only [Act.put, qa14, qb14, qc14, qd14, qe14, qf14]
      refine wpAnyH_take (i := 19) (v := ?_) rfl (by kernel_rfl) (by kernel_rfl) (by kernel_rfl) (fun _ _ _ h => h) (Or.inl ⟨by kernel_rfl, ?y19⟩) (by assumption) ?_
      case y19 =>
        intro w0 hSw
        (try dsimp only at hSw)
        go_simp
        try with_reducible rfl
      try simp only [Act.put, qa14, qb14, qc14, qd14, qe14, qf14]
      refine wpAnyH_take (i := 20) (v := ?_) rfl (by kernel_rfl) (by kernel_rfl) (by kernel_rfl) (fun _ _ _ h => h) (Or.inl ⟨by kernel_rfl, ?y20⟩) (by assumption) ?_
      case y20 =>
        intro w0 hSw
        (try dsimp only at hSw)
        go_simp
        try with_reducible rfl
      try simp only [Act.put, qa14, qb14, qc14, qd14, qe14, qf14]
      refine wpAnyH_take (i := 21) (v := ?_) rfl (by kernel_rfl) (by kernel_rfl) (by kernel_rfl) (fun _ _ _ h => h) (Or.inl ⟨by kernel_rfl, ?y21⟩) (by assumption) ?_
      case y21 =>
        intro w0 hSw
        (try dsimp only at hSw)
        go_simp
        try with_reducible rfl
      try simp only [Act.put, qa14, qb14, qc14, qd14, qe14, qf14]
      refine wpAnyH_ready (rs := [22]) (by kernel_rfl) (by simp) (AllReadyH.cons rfl (fun K hK => ?_) AllReadyH.nil)
      go_simp
      go_at_call 209; refine (hdd _).mono ?_; rintro e w8 ⟨rfl, hw8⟩; have hw8 := hw8.symm; subst hw8
      go_wp2_with fail
      refine hK.out _ _ ⟨g0, g1, g2, g3, g4⟩ (fun hHeld => ?_)
      clear hK K
      try simp only [Act.put, qa14, qb14, qc14, qd14, qe14, qf14]
      refine wpAnyH_take (i := 23) (v := ?_) rfl (by kernel_rfl) (by kernel_rfl) (by kernel_rfl) (fun _ _ _ h => h) (Or.inl ⟨by kernel_rfl, ?y23⟩) (by assumption) ?_
      case y23 =>
        intro w0 hSw
        (try dsimp only at hSw)
        go_simp
        try with_reducible rfl
      try simp only [Act.put, qa14, qb14, qc14, qd14, qe14, qf14]
      refine wpAnyH_take (i := 24) (v := ?_) rfl (by kernel_rfl) (by kernel_rfl) (by kernel_rfl) (fun _ _ _ h => h) (Or.inl ⟨by kernel_rfl, ?y24⟩) (by assumption) ?_
      case y24 =>
        intro w0 hSw
        (try dsimp only at hSw)
        go_simp
        try with_reducible rfl
      try simp only [Act.put, qa14, qb14, qc14, qd14, qe14, qf14]
      refine wpAnyH_take (i := 25) (v := ?_) rfl (by kernel_rfl) (by kernel_rfl) (by kernel_rfl) (fun _ _ _ h => h) (Or.inl ⟨by kernel_rfl, ?y25⟩) (by assumption) ?_
      case y25 =>
        intro w0 hSw
        (try dsimp only at hSw)
        go_simp
        try with_reducible rfl
      try simp only [Act.put, qa14, qb14, qc14, qd14, qe14, qf14]
      refine wpAnyH_take (i := 26) (v := ?_) rfl (by kernel_rfl) (by kernel_rfl) (by kernel_rfl) (fun _ _ _ h => h) (Or.inl ⟨by kernel_rfl, ?y26⟩) (by assumption) ?_
      case y26 =>
        intro w0 hSw
        (try dsimp only at hSw)
        go_simp
        try with_reducible rfl
      try simp only [Act.put, qa14, qb14, qc14, qd14, qe14, qf14]
      refine wpAnyH_take (i := 27) (v := ?_) rfl (by kernel_rfl) (by kernel_rfl) (by kernel_rfl) (fun _ _ _ h => h) (Or.inl ⟨by kernel_rfl, ?y27⟩) (by assumption) ?_
      case y27 =>
        intro w0 hSw
        (try dsimp only at hSw)
        go_simp
        try with_reducible rfl
      try simp only [Act.put, qa14, qb14, qc14, qd14, qe14, qf14]
      refine wpAnyH_take (i := 28) (v := ?_) rfl (by kernel_rfl) (by kernel_rfl) (by kernel_rfl) (fun _ _ _ h => h) (Or.inl ⟨by kernel_rfl, ?y28⟩) (by assumption) ?_
      case y28 =>
        intro w0 hSw
        (try dsimp only at hSw)
        go_simp
        try with_reducible rfl
      try simp only [Act.put, qa14, qb14, qc14, qd14, qe14, qf14]
      refine wpAnyH_take (i := 29) (v := ?_) rfl (by kernel_rfl) (by kernel_rfl) (by kernel_rfl) (fun _ _ _ h => h) (Or.inl ⟨by kernel_rfl, ?y29⟩) (by assumption) ?_
      case y29 =>
        intro w0 hSw
        (try dsimp only at hSw)
        go_simp
        try with_reducible rfl
      try simp only [Act.put, qa14, qb14, qc14, qd14, qe14, qf14]
      refine wpAnyH_take (i := 30) (v := ?_) rfl (by kernel_rfl) (by kernel_rfl) (by kernel_rfl) (fun _ _ _ h => h) (Or.inl ⟨by kernel_rfl, ?y30⟩) (by assumption) ?_
      case y30 =>
        intro w0 hSw
        (try dsimp only at hSw)
        go_simp
        try with_reducible rfl
      try simp only [Act.put, qa14, qb14, qc14, qd14, qe14, qf14]
      refine wpAnyH_take (i := 31) (v := undef) rfl (by kernel_rfl) (by kernel_rfl) (by kernel_rfl) (fun _ _ _ h => h) (Or.inr ⟨by kernel_rfl, rfl⟩) (by assumption) ?_
      try simp only [Act.put, qa14, qb14, qc14, qd14, qe14, qf14]
      refine wpAnyH_take (i := 32) (v := undef) rfl (by kernel_rfl) (by kernel_rfl) (by kernel_rfl) (fun _ _ _ h => h) (Or.inr ⟨by kernel_rfl, rfl⟩) (by assumption) ?_
      try simp only [Act.put, qa14, qb14, qc14, qd14, qe14, qf14]
      refine wpAnyH_take (i := 33) (v := undef) rfl (by kernel_rfl) (by kernel_rfl) (by kernel_rfl) (fun _ _ _ h => h) (Or.inr ⟨by kernel_rfl, rfl⟩) (by assumption) ?_
      try simp only [Act.put, qa14, qb14, qc14, qd14, qe14, qf14]
      refine wpAnyH_take (i := 34) (v := ?_) rfl (by kernel_rfl) (by kernel_rfl) (by kernel_rfl) (fun _ _ _ h => h) (Or.inl ⟨by kernel_rfl, ?y34⟩) (by assumption) ?_
      case y34 =>
        intro w0 hSw
        (try dsimp only at hSw)
        go_simp
        try with_reducible rfl
      try simp only [Act.put, qa14, qb14, qc14, qd14, qe14, qf14]
      refine wpAnyH_done (by kernel_rfl) ?_ _
      go_wp2
      refine bodyPost_ret (v := .tuple #[.pointer none, .int .i64 67]) (by simp [results, Tryz.results147, go_sem]) rfl ⟨none, 67, rfl, HBEL.out.trans ((hB6.trans (g4.mono (Nat.le_of_lt hs6))).mono hbsz), .inr ⟨hbad.out, rfl, rfl⟩⟩
    have t1 : decide (a.typ < 1) = false := decide_eq_false ht1
    by_cases ht5 : 5 < a.typ
    case pos =>
      have hbad : Hid (¬ Valid L) := Lib.hid fun hv => by have := hv.typ a (HA.out ▸ List.getElem_mem hlt); omega
      have t2 : decide (5 < a.typ) = true := decide_eq_true ht5
      subst hk0
      have hpa : a = p := by rw [HP.out, HA.out]
      subst hpa
      simp only [Nat.zero_mul, Nat.zero_add] at q0 q1 q2 q3
      go_wp2
      obtain ⟨W6, hW6⟩ : ∃ W6, wr.alloc (.cells #[.string a.name, .int .i64 a.typ, .int .i64 a.opened, .bool a.closed] 159) = W6 := ⟨_, rfl⟩
      have hn6 : W6.heap[wr.heap.size]? = some (.cells #[.string a.name, .int .i64 a.typ, .int .i64 a.opened, .bool a.closed] 159 (0, 0)) := by rw [← hW6]; exact heap_alloc_new _ _
      have hB6 : Below wr.heap.size wr W6 := by rw [← hW6]; exact (Below.refl _ _).alloc (Nat.le_refl _) _
      have z0 : W6.cell? ⟨wr.heap.size, 0, none⟩ = some (.string a.name) := by rw [cell_of_blk hn6]; rfl
      have z1 : W6.cell? ⟨wr.heap.size, 1, none⟩ = some (.int .i64 a.typ) := by rw [cell_of_blk hn6]; rfl
      have z2 : W6.cell? ⟨wr.heap.size, 2, none⟩ = some (.int .i64 a.opened) := by rw [cell_of_blk hn6]; rfl
      have z3 : W6.cell? ⟨b, (0 - 1) * 4, none⟩ = some (.string a.name) := (hB6.cell (p := ⟨b, (0 - 1) * 4, none⟩) hbl).trans r0
      have hs6 : wr.heap.size < W6.heap.size := heap_lt hn6
      have hb6 : b < W6.heap.size := by omega
      have HN := Lib.hid hn6
      have hBd : Below W6.heap.size W6 W6.drew := (Below.refl _ _).drew
      rw [hW6]
      clear hW6 hn6 r0 q0 q1 q2 q3
      refine wp_region_held_drew (S := fun w' => w'.cell? ⟨wr.heap.size, 0, none⟩ = some (.string a.name) ∧ w'.cell? ⟨wr.heap.size, 1, none⟩ = some (.int .i64 a.typ) ∧ w'.cell? ⟨wr.heap.size, 2, none⟩ = some (.int .i64 a.opened) ∧ w'.cell? ⟨b, (0 - 1) * 4, none⟩ = some (.string a.name) ∧ Below W6.heap.size W6 w') (by kernel_rfl) ⟨z0, z1, z2, z3, hBd⟩ (fun hHeld => ?_)
      refine wpAnyH_take (i := 0) (v := ?_) rfl (by kernel_rfl) (by kernel_rfl) (by kernel_rfl) (fun _ _ _ h => h) (Or.inl ⟨by kernel_rfl, ?y0⟩) (by assumption) ?_
      case y0 =>
        intro w0 hSw
        (try dsimp only at hSw)
        go_simp
        try with_reducible rfl
      try simp only [Act.put, qa14, qb14, qc14, qd14, qe14, qf14]
      refine wpAnyH_take (i := 1) (v := ?_) rfl (by kernel_rfl) (by kernel_rfl) (by kernel_rfl) (fun _ _ _ h => h) (Or.inl ⟨by kernel_rfl, ?y1⟩) (by assumption) ?_
      case y1 =>
        intro w0 hSw
        (try dsimp only at hSw)
        go_simp
        try with_reducible rfl
      try simp only [Act.put, qa14, qb14, qc14, qd14, qe14, qf14]
      refine wpAnyH_ready (rs := [2]) (by kernel_rfl) (by simp) (AllReadyH.cons rfl (fun K hK => ?_) AllReadyH.nil)
      go_simp
      go_at_call 6; refine (hg _).mono ?_; rintro e w7 ⟨rfl, hb7⟩; obtain ⟨g0, g1, g2, g3, g4⟩ := from_keep2 hb7 hs6 hb6 z0 z1 z2 z3 hBd
      go_wp2_with fail
      refine hK.out _ _ ⟨g0, g1, g2, g3, g4⟩ (fun hHeld => ?_)
      clear hK K
      try simp only [Act.put, qa14, qb14, qc14, qd14, qe14, qf14]
      refine wpAnyH_take (i := 3) (v := ?_) rfl (by kernel_rfl) (by kernel_rfl) (by kernel_rfl) (fun _ _ _ h => h) (Or.inl ⟨by kernel_rfl, ?y3⟩) (by assumption) ?_
      case y3 =>
        intro w0 hSw
        (try dsimp only at hSw)
        go_simp
        try with_reducible rfl
      try simp only [Act.put, qa14, qb14, qc14, qd14, qe14, qf14]
      refine wpAnyH_take (i := 4) (v := ?_) rfl (by kernel_rfl) (by kernel_rfl) (by kernel_rfl) (fun _ _ _ h => h) (Or.inl ⟨by kernel_rfl, ?y4⟩) (by assumption) ?_
      case y4 =>
        intro w0 hSw
        (try dsimp only at hSw)
        go_simp
        try with_reducible rfl
      try simp only [Act.put, qa14, qb14, qc14, qd14, qe14, qf14]
      refine wpAnyH_take (i := 5) (v := ?_) rfl (by kernel_rfl) (by kernel_rfl) (by kernel_rfl) (fun _ _ _ h => h) (Or.inl ⟨by kernel_rfl, ?y5⟩) (by assumption) ?_
      case y5 =>
        intro w0 hSw
        (try dsimp only at hSw)
        go_simp
        try with_reducible rfl
      try simp only [Act.put, qa14, qb14, qc14, qd14, qe14, qf14]
      refine wpAnyH_take (i := 6) (v := ?_) rfl (by kernel_rfl) (by kernel_rfl) (by kernel_rfl) (fun _ _ _ h => h) (Or.inl ⟨by kernel_rfl, ?y6⟩) (by assumption) ?_
      case y6 =>
        intro w0 hSw
        (try dsimp only at hSw)
        go_simp
        try with_reducible rfl
      try simp only [Act.put, qa14, qb14, qc14, qd14, qe14, qf14]
      refine wpAnyH_take (i := 7) (v := ?_) rfl (by kernel_rfl) (by kernel_rfl) (by kernel_rfl) (fun _ _ _ h => h) (Or.inl ⟨by kernel_rfl, ?y7⟩) (by assumption) ?_
      case y7 =>
        intro w0 hSw
        (try dsimp only at hSw)
        go_simp
        try with_reducible rfl
      try simp only [Act.put, qa14, qb14, qc14, qd14, qe14, qf14]
      refine wpAnyH_take (i := 8) (v := undef) rfl (by kernel_rfl) (by kernel_rfl) (by kernel_rfl) (fun _ _ _ h => h) (Or.inr ⟨by kernel_rfl, rfl⟩) (by assumption) ?_
      try simp only [Act.put, qa14, qb14, qc14, qd14, qe14, qf14]
      refine wpAnyH_take (i := 9) (v := undef) rfl (by kernel_rfl) (by kernel_rfl) (by kernel_rfl) (fun _ _ _ h => h) (Or.inr ⟨by kernel_rfl, rfl⟩) (by assumption) ?_
      try simp only [Act.put, qa14, qb14, qc14, qd14, qe14, qf14]
      refine wpAnyH_take (i := 10) (v := undef) rfl (by kernel_rfl) (by kernel_rfl) (by kernel_rfl) (fun _ _ _ h => h) (Or.inr ⟨by kernel_rfl, rfl⟩) (by assumption) ?_
      try simp only [Act.put, qa14, qb14, qc14, qd14, qe14, qf14]
      refine wpAnyH_take (i := 11) (v := undef) rfl (by kernel_rfl) (by kernel_rfl) (by kernel_rfl) (fun _ _ _ h => h) (Or.inr ⟨by kernel_rfl, rfl⟩) (by assumption) ?_
      try simp only [Act.put, qa14, qb14, qc14, qd14, qe14, qf14]
      refine wpAnyH_take (i := 12) (v := undef) rfl (by kernel_rfl) (by kernel_rfl) (by kernel_rfl) (fun _ _ _ h => h) (Or.inr ⟨by kernel_rfl, rfl⟩) (by assumption) ?_
      try simp only [Act.put, qa14, qb14, qc14, qd14, qe14, qf14]
      refine wpAnyH_take (i := 13) (v := undef) rfl (by kernel_rfl) (by kernel_rfl) (by kernel_rfl) (fun _ _ _ h => h) (Or.inr ⟨by kernel_rfl, rfl⟩) (by assumption) ?_
      try simp only [Act.put, qa14, qb14, qc14, qd14, qe14, qf14]
      refine wpAnyH_take (i := 14) (v := undef) rfl (by kernel_rfl) (by kernel_rfl) (by kernel_rfl) (fun _ _ _ h => h) (Or.inr ⟨by kernel_rfl, rfl⟩) (by assumption) ?_
      try simp only [Act.put, qa14, qb14, qc14, qd14, qe14, qf14]
      refine wpAnyH_take (i := 15) (v := undef) rfl (by kernel_rfl) (by kernel_rfl) (by kernel_rfl) (fun _ _ _ h => h) (Or.inr ⟨by kernel_rfl, rfl⟩) (by assumption) ?_
      try simp only [Act.put, qa14, qb14, qc14, qd14, qe14, qf14]
      refine wpAnyH_take (i := 16) (v := undef) rfl (by kernel_rfl) (by kernel_rfl) (by kernel_rfl) (fun _ _ _ h => h) (Or.inr ⟨by kernel_rfl, rfl⟩) (by assumption) ?_
      try simp only [Act.put, qa14, qb14, qc14, qd14, qe14, qf14]
      refine wpAnyH_take (i := 17) (v := ?_) rfl (by kernel_rfl) (by kernel_rfl) (by kernel_rfl) (fun _ _ _ h => h) (Or.inl ⟨by kernel_rfl, ?y17⟩) (by assumption) ?_
      case y17 =>
        intro w0 hSw
        (try dsimp only at hSw)
        go_simp
        try with_reducible rfl
      try simp only [Act.put, qa14, qb14, qc14, qd14, qe14, qf14]
      refine wpAnyH_take (i := 18) (v := ?_) rfl (by kernel_rfl) (by kernel_rfl) (by kernel_rfl) (fun _ _ _ h => h) (Or.inl ⟨by kernel_rfl, ?y18⟩) (by assumption) ?_
      case y18 =>
        intro w0 hSw
        (try dsimp only at hSw)
        go_simp
        try with_reducible rfl
      try simp only [Act.put, qa14, qb14, qc14, qd14, qe14, qf14]
      refine wpAnyH_take (i := 19) (v := ?_) rfl (by kernel_rfl) (by kernel_rfl) (by kernel_rfl) (fun _ _ _ h => h) (Or.inl ⟨by kernel_rfl, ?y19⟩) (by assumption) ?_
      case y19 =>
        intro w0 hSw
        (try dsimp only at hSw)
        go_simp
        try with_reducible rfl
      try simp only [Act.put, qa14, qb14, qc14, qd14, qe14, qf14]
      refine wpAnyH_take (i := 20) (v := ?_) rfl (by kernel_rfl) (by kernel_rfl) (by kernel_rfl) (fun _ _ _ h => h) (Or.inl ⟨by kernel_rfl, ?y20⟩) (by assumption) ?_
      case y20 =>
        intro w0 hSw
        (try dsimp only at hSw)
        go_simp
        try with_reducible rfl
      try simp only [Act.put, qa14, qb14, qc14, qd14, qe14, qf14]
      refine wpAnyH_take (i := 21) (v := ?_) rfl (by kernel_rfl) (by kernel_rfl) (by kernel_rfl) (fun _ _ _ h => h) (Or.inl ⟨by kernel_rfl, ?y21⟩) (by assumption) ?_
      case y21 =>
        intro w0 hSw
        (try dsimp only at hSw)
        go_simp
        try with_reducible rfl
      try simp only [Act.put, qa14, qb14, qc14, qd14, qe14, qf14]
      refine wpAnyH_ready (rs := [22]) (by kernel_rfl) (by simp) (AllReadyH.cons rfl (fun K hK => ?_) AllReadyH.nil)
      go_simp
      go_at_call 209; refine (hdd _).mono ?_; rintro e w8 ⟨rfl, hw8⟩; have hw8 := hw8.symm; subst hw8
      go_wp2_with fail
      refine hK.out _ _ ⟨g0, g1, g2, g3, g4⟩ (fun hHeld => ?_)
      clear hK K
      try simp only [Act.put, qa14, qb14, qc14, qd14, qe14, qf14]
      refine wpAnyH_take (i := 23) (v := ?_) rfl (by kernel_rfl) (by kernel_rfl) (by kernel_rfl) (fun _ _ _ h => h) (Or.inl ⟨by kernel_rfl, ?y23⟩) (by assumption) ?_
      case y23 =>
        intro w0 hSw
        (try dsimp only at hSw)
        go_simp
        try with_reducible rfl
      try simp only [Act.put, qa14, qb14, qc14, qd14, qe14, qf14]
      refine wpAnyH_take (i := 24) (v := ?_) rfl (by kernel_rfl) (by kernel_rfl) (by kernel_rfl) (fun _ _ _ h => h) (Or.inl ⟨by kernel_rfl, ?y24⟩) (by assumption) ?_
      case y24 =>
        intro w0 hSw
        (try dsimp only at hSw)
        go_simp
        try with_reducible rfl
      try simp only [Act.put, qa14, qb14, qc14, qd14, qe14, qf14]
      refine wpAnyH_take (i := 25) (v := ?_) rfl (by kernel_rfl) (by kernel_rfl) (by kernel_rfl) (fun _ _ _ h => h) (Or.inl ⟨by kernel_rfl, ?y25⟩) (by assumption) ?_
      case y25 =>
        intro w0 hSw
        (try dsimp only at hSw)
        go_simp
        try with_reducible rfl
      try simp only [Act.put, qa14, qb14, qc14, qd14, qe14, qf14]
      refine wpAnyH_take (i := 26) (v := ?_) rfl (by kernel_rfl) (by kernel_rfl) (by kernel_rfl) (fun _ _ _ h => h) (Or.inl ⟨by kernel_rfl, ?y26⟩) (by assumption) ?_
      case y26 =>
        intro w0 hSw
        (try dsimp only at hSw)
        go_simp
        try with_reducible rfl
      try simp only [Act.put, qa14, qb14, qc14, qd14, qe14, qf14]
      refine wpAnyH_take (i := 27) (v := ?_) rfl (by kernel_rfl) (by kernel_rfl) (by kernel_rfl) (fun _ _ _ h => h) (Or.inl ⟨by kernel_rfl, ?y27⟩) (by assumption) ?_
      case y27 =>
        intro w0 hSw
        (try dsimp only at hSw)
        go_simp
        try with_reducible rfl
      try simp only [Act.put, qa14, qb14, qc14, qd14, qe14, qf14]
      refine wpAnyH_take (i := 28) (v := ?_) rfl (by kernel_rfl) (by kernel_rfl) (by kernel_rfl) (fun _ _ _ h => h) (Or.inl ⟨by kernel_rfl, ?y28⟩) (by assumption) ?_
      case y28 =>
        intro w0 hSw
        (try dsimp only at hSw)
        go_simp
        try with_reducible rfl
      try simp only [Act.put, qa14, qb14, qc14, qd14, qe14, qf14]
      refine wpAnyH_take (i := 29) (v := ?_) rfl (by kernel_rfl) (by kernel_rfl) (by kernel_rfl) (fun _ _ _ h => h) (Or.inl ⟨by kernel_rfl, ?y29⟩) (by assumption) ?_
      case y29 =>
        intro w0 hSw
        (try dsimp only at hSw)
        go_simp
        try with_reducible rfl
      try simp only [Act.put, qa14, qb14, qc14, qd14, qe14, qf14]
      refine wpAnyH_take (i := 30) (v := ?_) rfl (by kernel_rfl) (by kernel_rfl) (by kernel_rfl) (fun _ _ _ h => h) (Or.inl ⟨by kernel_rfl, ?y30⟩) (by assumption) ?_
      case y30 =>
        intro w0 hSw
        (try dsimp only at hSw)
        go_simp
        try with_reducible rfl
      try simp only [Act.put, qa14, qb14, qc14, qd14, qe14, qf14]
      refine wpAnyH_take (i := 31) (v := ?_) rfl (by kernel_rfl) (by kernel_rfl) (by kernel_rfl) (fun _ _ _ h => h) (Or.inl ⟨by kernel_rfl, ?y31⟩) (by assumption) ?_
      case y31 =>
        intro w0 hSw
        (try dsimp only at hSw)
        go_simp
        try with_reducible rfl
      try simp only [Act.put, qa14, qb14, qc14, qd14, qe14, qf14]
      refine wpAnyH_take (i := 32) (v := ?_) rfl (by kernel_rfl) (by kernel_rfl) (by kernel_rfl) (fun _ _ _ h => h) (Or.inl ⟨by kernel_rfl, ?y32⟩) (by assumption) ?_
      case y32 =>
        intro w0 hSw
        (try dsimp only at hSw)
        go_simp
        try with_reducible rfl
      try simp only [Act.put, qa14, qb14, qc14, qd14, qe14, qf14]
      refine wpAnyH_take (i := 33) (v := ?_) rfl (by kernel_rfl) (by kernel_rfl) (by kernel_rfl) (fun _ _ _ h => h) (Or.inl ⟨by kernel_rfl, ?y33⟩) (by assumption) ?_
      case y33 =>
        intro w0 hSw
        (try dsimp only at hSw)
        go_simp
        try with_reducible rfl
      try simp only [Act.put, qa14, qb14, qc14, qd14, qe14, qf14]
      refine wpAnyH_take (i := 34) (v := ?_) rfl (by kernel_rfl) (by kernel_rfl) (by kernel_rfl) (fun _ _ _ h => h) (Or.inl ⟨by kernel_rfl, ?y34⟩) (by assumption) ?_
      case y34 =>
        intro w0 hSw
        (try dsimp only at hSw)
        go_simp
        try with_reducible rfl
      try simp only [Act.put, qa14, qb14, qc14, qd14, qe14, qf14]
      refine wpAnyH_done (by kernel_rfl) ?_ _
      go_wp2
      refine bodyPost_ret (v := .tuple #[.pointer none, .int .i64 67]) (by simp [results, Tryz.results147, go_sem]) rfl ⟨none, 67, rfl, HBEL.out.trans ((hB6.trans (g4.mono (Nat.le_of_lt hs6))).mono hbsz), .inr ⟨hbad.out, rfl, rfl⟩⟩
    have t2 : decide (5 < a.typ) = false := decide_eq_false ht5
    have HTY : Hid (1 ≤ a.typ ∧ a.typ ≤ 5) := Lib.hid ⟨by omega, by omega⟩
    clear ht1 ht5
    subst hk0
    have hpa : a = p := by rw [HP.out, HA.out]
    subst hpa
    simp only [Nat.zero_mul, Nat.zero_add] at q0 q1 q2 q3
    go_wp2
    obtain ⟨W6, hW6⟩ : ∃ W6, wr.alloc (.cells #[.string a.name, .int .i64 a.typ, .int .i64 a.opened, .bool a.closed] 159) = W6 := ⟨_, rfl⟩
    have hn6 : W6.heap[wr.heap.size]? = some (.cells #[.string a.name, .int .i64 a.typ, .int .i64 a.opened, .bool a.closed] 159 (0, 0)) := by rw [← hW6]; exact heap_alloc_new _ _
    have hB6 : Below wr.heap.size wr W6 := by rw [← hW6]; exact (Below.refl _ _).alloc (Nat.le_refl _) _
    have z0 : W6.cell? ⟨wr.heap.size, 0, none⟩ = some (.string a.name) := by rw [cell_of_blk hn6]; rfl
    have z1 : W6.cell? ⟨wr.heap.size, 1, none⟩ = some (.int .i64 a.typ) := by rw [cell_of_blk hn6]; rfl
    have z2 : W6.cell? ⟨wr.heap.size, 2, none⟩ = some (.int .i64 a.opened) := by rw [cell_of_blk hn6]; rfl
    have z3 : W6.cell? ⟨b, (0 - 1) * 4, none⟩ = some (.string a.name) := (hB6.cell (p := ⟨b, (0 - 1) * 4, none⟩) hbl).trans r0
    have hs6 : wr.heap.size < W6.heap.size := heap_lt hn6
    have hb6 : b < W6.heap.size := by omega
    have HN := Lib.hid hn6
    have hBd : Below W6.heap.size W6 W6.drew := (Below.refl _ _).drew
    rw [hW6]
    clear hW6 hn6 r0 q0 q1 q2 q3
    refine wp_region_held_drew (S := fun w' => w'.cell? ⟨wr.heap.size, 0, none⟩ = some (.string a.name) ∧ w'.cell? ⟨wr.heap.size, 1, none⟩ = some (.int .i64 a.typ) ∧ w'.cell? ⟨wr.heap.size, 2, none⟩ = some (.int .i64 a.opened) ∧ w'.cell? ⟨b, (0 - 1) * 4, none⟩ = some (.string a.name) ∧ Below W6.heap.size W6 w') (by kernel_rfl) ⟨z0, z1, z2, z3, hBd⟩ (fun hHeld => ?_)
    refine wpAnyH_take (i := 0) (v := ?_) rfl (by kernel_rfl) (by kernel_rfl) (by kernel_rfl) (fun _ _ _ h => h) (Or.inl ⟨by kernel_rfl, ?y0⟩) (by assumption) ?_
    case y0 =>
      intro w0 hSw
      (try dsimp only at hSw)
      go_simp
      try with_reducible rfl
    try simp only [Act.put, qa14, qb14, qc14, qd14, qe14, qf14]
    refine wpAnyH_take (i := 1) (v := ?_) rfl (by kernel_rfl) (by kernel_rfl) (by kernel_rfl) (fun _ _ _ h => h) (Or.inl ⟨by kernel_rfl, ?y1⟩) (by assumption) ?_
    case y1 =>
      intro w0 hSw
      (try dsimp only at hSw)
      go_simp
      try with_reducible rfl
    try simp only [Act.put, qa14, qb14, qc14, qd14, qe14, qf14]
    refine wpAnyH_ready (rs := [2]) (by kernel_rfl) (by simp) (AllReadyH.cons rfl (fun K hK => ?_) AllReadyH.nil)
    go_simp
    go_at_call 6; refine (hg _).mono ?_; rintro e w7 ⟨rfl, hb7⟩; obtain ⟨g0, g1, g2, g3, g4⟩ := from_keep2 hb7 hs6 hb6 z0 z1 z2 z3 hBd
    go_wp2_with fail
    refine hK.out _ _ ⟨g0, g1, g2, g3, g4⟩ (fun hHeld => ?_)
    clear hK K
    try simp only [Act.put, qa14, qb14, qc14, qd14, qe14, qf14]
    refine wpAnyH_take (i := 3) (v := ?_) rfl (by kernel_rfl) (by kernel_rfl) (by kernel_rfl) (fun _ _ _ h => h) (Or.inl ⟨by kernel_rfl, ?y3⟩) (by assumption) ?_
    case y3 =>
      intro w0 hSw
      (try dsimp only at hSw)
      go_simp
      try with_reducible rfl
    try simp only [Act.put, qa14, qb14, qc14, qd14, qe14, qf14]
    refine wpAnyH_take (i := 4) (v := ?_) rfl (by kernel_rfl) (by kernel_rfl) (by kernel_rfl) (fun _ _ _ h => h) (Or.inl ⟨by kernel_rfl, ?y4⟩) (by assumption) ?_
    case y4 =>
      intro w0 hSw
      (try dsimp only at hSw)
      go_simp
      try with_reducible rfl
    try simp only [Act.put, qa14, qb14, qc14, qd14, qe14, qf14]
    refine wpAnyH_take (i := 5) (v := ?_) rfl (by kernel_rfl) (by kernel_rfl) (by kernel_rfl) (fun _ _ _ h => h) (Or.inl ⟨by kernel_rfl, ?y5⟩) (by assumption) ?_
    case y5 =>
      intro w0 hSw
      (try dsimp only at hSw)
      go_simp
      try with_reducible rfl
    try simp only [Act.put, qa14, qb14, qc14, qd14, qe14, qf14]
    refine wpAnyH_take (i := 6) (v := ?_) rfl (by kernel_rfl) (by kernel_rfl) (by kernel_rfl) (fun _ _ _ h => h) (Or.inl ⟨by kernel_rfl, ?y6⟩) (by assumption) ?_
    case y6 =>
      intro w0 hSw
      (try dsimp only at hSw)
      go_simp
      try with_reducible rfl
    try simp only [Act.put, qa14, qb14, qc14, qd14, qe14, qf14]
    refine wpAnyH_take (i := 7) (v := ?_) rfl (by kernel_rfl) (by kernel_rfl) (by kernel_rfl) (fun _ _ _ h => h) (Or.inl ⟨by kernel_rfl, ?y7⟩) (by assumption) ?_
    case y7 =>
      intro w0 hSw
      (try dsimp only at hSw)
      go_simp
      try with_reducible rfl
    try simp only [Act.put, qa14, qb14, qc14, qd14, qe14, qf14]
    refine wpAnyH_take (i := 8) (v := undef) rfl (by kernel_rfl) (by kernel_rfl) (by kernel_rfl) (fun _ _ _ h => h) (Or.inr ⟨by kernel_rfl, rfl⟩) (by assumption) ?_
    try simp only [Act.put, qa14, qb14, qc14, qd14, qe14, qf14]
    refine wpAnyH_take (i := 9) (v := undef) rfl (by kernel_rfl) (by kernel_rfl) (by kernel_rfl) (fun _ _ _ h => h) (Or.inr ⟨by kernel_rfl, rfl⟩) (by assumption) ?_
    try simp only [Act.put, qa14, qb14, qc14, qd14, qe14, qf14]
    refine wpAnyH_take (i := 10) (v := undef) rfl (by kernel_rfl) (by kernel_rfl) (by kernel_rfl) (fun _ _ _ h => h) (Or.inr ⟨by kernel_rfl, rfl⟩) (by assumption) ?_
    try simp only [Act.put, qa14, qb14, qc14, qd14, qe14, qf14]
    refine wpAnyH_take (i := 11) (v := undef) rfl (by kernel_rfl) (by kernel_rfl) (by kernel_rfl) (fun _ _ _ h => h) (Or.inr ⟨by kernel_rfl, rfl⟩) (by assumption) ?_
    try simp only [Act.put, qa14, qb14, qc14, qd14, qe14, qf14]
    refine wpAnyH_take (i := 12) (v := undef) rfl (by kernel_rfl) (by kernel_rfl) (by kernel_rfl) (fun _ _ _ h => h) (Or.inr ⟨by kernel_rfl, rfl⟩) (by assumption) ?_
    try simp only [Act.put, qa14, qb14, qc14, qd14, qe14, qf14]
    refine wpAnyH_take (i := 13) (v := undef) rfl (by kernel_rfl) (by kernel_rfl) (by kernel_rfl) (fun _ _ _ h => h) (Or.inr ⟨by kernel_rfl, rfl⟩) (by assumption) ?_
    try simp only [Act.put, qa14, qb14, qc14, qd14, qe14, qf14]
    refine wpAnyH_take (i := 14) (v := undef) rfl (by kernel_rfl) (by kernel_rfl) (by kernel_rfl) (fun _ _ _ h => h) (Or.inr ⟨by kernel_rfl, rfl⟩) (by assumption) ?_
    try simp only [Act.put, qa14, qb14, qc14, qd14, qe14, qf14]
    refine wpAnyH_take (i := 15) (v := undef) rfl (by kernel_rfl) (by kernel_rfl) (by kernel_rfl) (fun _ _ _ h => h) (Or.inr ⟨by kernel_rfl, rfl⟩) (by assumption) ?_
    try simp only [Act.put, qa14, qb14, qc14, qd14, qe14, qf14]
    refine wpAnyH_take (i := 16) (v := undef) rfl (by kernel_rfl) (by kernel_rfl) (by kernel_rfl) (fun _ _ _ h => h) (Or.inr ⟨by kernel_rfl, rfl⟩) (by assumption) ?_
    try simp only [Act.put, qa14, qb14, qc14, qd14, qe14, qf14]
    refine wpAnyH_take (i := 17) (v := ?_) rfl (by kernel_rfl) (by kernel_rfl) (by kernel_rfl) (fun _ _ _ h => h) (Or.inl ⟨by kernel_rfl, ?y17⟩) (by assumption) ?_
    case y17 =>
      intro w0 hSw
      (try dsimp only at hSw)
      go_simp
      try with_reducible rfl
    try simp only [Act.put, qa14, qb14, qc14, qd14, qe14, qf14]
    refine wpAnyH_take (i := 18) (v := ?_) rfl (by kernel_rfl) (by kernel_rfl) (by kernel_rfl) (fun _ _ _ h => h) (Or.inl ⟨by kernel_rfl, ?y18⟩) (by assumption) ?_
    case y18 =>
      intro w0 hSw
      (try dsimp only at hSw)
      go_simp
      try with_reducible rfl
    try simp only [Act.put, qa14, qb14, qc14, qd14, qe14, qf14]
    refine wpAnyH_take (i := 19) (v := ?_) rfl (by kernel_rfl) (by kernel_rfl) (by kernel_rfl) (fun _ _ _ h => h) (Or.inl ⟨by kernel_rfl, ?y19⟩) (by assumption) ?_
    case y19 =>
      intro w0 hSw
      (try dsimp only at hSw)
      go_simp
      try with_reducible rfl
    try simp only [Act.put, qa14, qb14, qc14, qd14, qe14, qf14]
    refine wpAnyH_take (i := 20) (v := ?_) rfl (by kernel_rfl) (by kernel_rfl) (by kernel_rfl) (fun _ _ _ h => h) (Or.inl ⟨by kernel_rfl, ?y20⟩) (by assumption) ?_
    case y20 =>
      intro w0 hSw
      (try dsimp only at hSw)
      go_simp
      try with_reducible rfl
    try simp only [Act.put, qa14, qb14, qc14, qd14, qe14, qf14]
    refine wpAnyH_take (i := 21) (v := ?_) rfl (by kernel_rfl) (by kernel_rfl) (by kernel_rfl) (fun _ _ _ h => h) (Or.inl ⟨by kernel_rfl, ?y21⟩) (by assumption) ?_
    case y21 =>
      intro w0 hSw
      (try dsimp only at hSw)
      go_simp
      try with_reducible rfl
    try simp only [Act.put, qa14, qb14, qc14, qd14, qe14, qf14]
    refine wpAnyH_ready (rs := [22]) (by kernel_rfl) (by simp) (AllReadyH.cons rfl (fun K hK => ?_) AllReadyH.nil)
    go_simp
    go_at_call 209; refine (hdd _).mono ?_; rintro e w8 ⟨rfl, hw8⟩; have hw8 := hw8.symm; subst hw8
    go_wp2_with fail
    refine hK.out _ _ ⟨g0, g1, g2, g3, g4⟩ (fun hHeld => ?_)
    clear hK K
    try simp only [Act.put, qa14, qb14, qc14, qd14, qe14, qf14]
    refine wpAnyH_take (i := 23) (v := ?_) rfl (by kernel_rfl) (by kernel_rfl) (by kernel_rfl) (fun _ _ _ h => h) (Or.inl ⟨by kernel_rfl, ?y23⟩) (by assumption) ?_
    case y23 =>
      intro w0 hSw
      (try dsimp only at hSw)
      go_simp
      try with_reducible rfl
    try simp only [Act.put, qa14, qb14, qc14, qd14, qe14, qf14]
    refine wpAnyH_take (i := 24) (v := ?_) rfl (by kernel_rfl) (by kernel_rfl) (by kernel_rfl) (fun _ _ _ h => h) (Or.inl ⟨by kernel_rfl, ?y24⟩) (by assumption) ?_
    case y24 =>
      intro w0 hSw
      (try dsimp only at hSw)
      go_simp
      try with_reducible rfl
    try simp only [Act.put, qa14, qb14, qc14, qd14, qe14, qf14]
    refine wpAnyH_take (i := 25) (v := ?_) rfl (by kernel_rfl) (by kernel_rfl) (by kernel_rfl) (fun _ _ _ h => h) (Or.inl ⟨by kernel_rfl, ?y25⟩) (by assumption) ?_
    case y25 =>
      intro w0 hSw
      (try dsimp only at hSw)
      go_simp
      try with_reducible rfl
    try simp only [Act.put, qa14, qb14, qc14, qd14, qe14, qf14]
    refine wpAnyH_take (i := 26) (v := ?_) rfl (by kernel_rfl) (by kernel_rfl) (by kernel_rfl) (fun _ _ _ h => h) (Or.inl ⟨by kernel_rfl, ?y26⟩) (by assumption) ?_
    case y26 =>
      intro w0 hSw
      (try dsimp only at hSw)
      go_simp
      try with_reducible rfl
    try simp only [Act.put, qa14, qb14, qc14, qd14, qe14, qf14]
    refine wpAnyH_take (i := 27) (v := ?_) rfl (by kernel_rfl) (by kernel_rfl) (by kernel_rfl) (fun _ _ _ h => h) (Or.inl ⟨by kernel_rfl, ?y27⟩) (by assumption) ?_
    case y27 =>
      intro w0 hSw
      (try dsimp only at hSw)
      go_simp
      try with_reducible rfl
    try simp only [Act.put, qa14, qb14, qc14, qd14, qe14, qf14]
    refine wpAnyH_take (i := 28) (v := ?_) rfl (by kernel_rfl) (by kernel_rfl) (by kernel_rfl) (fun _ _ _ h => h) (Or.inl ⟨by kernel_rfl, ?y28⟩) (by assumption) ?_
    case y28 =>
      intro w0 hSw
      (try dsimp only at hSw)
      go_simp
      try with_reducible rfl
    try simp only [Act.put, qa14, qb14, qc14, qd14, qe14, qf14]
    refine wpAnyH_take (i := 29) (v := ?_) rfl (by kernel_rfl) (by kernel_rfl) (by kernel_rfl) (fun _ _ _ h => h) (Or.inl ⟨by kernel_rfl, ?y29⟩) (by assumption) ?_
    case y29 =>
      intro w0 hSw
      (try dsimp only at hSw)
      go_simp
      try with_reducible rfl
    try simp only [Act.put, qa14, qb14, qc14, qd14, qe14, qf14]
    refine wpAnyH_take (i := 30) (v := ?_) rfl (by kernel_rfl) (by kernel_rfl) (by kernel_rfl) (fun _ _ _ h => h) (Or.inl ⟨by kernel_rfl, ?y30⟩) (by assumption) ?_
    case y30 =>
      intro w0 hSw
      (try dsimp only at hSw)
      go_simp
      try with_reducible rfl
    try simp only [Act.put, qa14, qb14, qc14, qd14, qe14, qf14]
    refine wpAnyH_take (i := 31) (v := ?_) rfl (by kernel_rfl) (by kernel_rfl) (by kernel_rfl) (fun _ _ _ h => h) (Or.inl ⟨by kernel_rfl, ?y31⟩) (by assumption) ?_
    case y31 =>
      intro w0 hSw
      (try dsimp only at hSw)
      go_simp
      try with_reducible rfl
    try simp only [Act.put, qa14, qb14, qc14, qd14, qe14, qf14]
    refine wpAnyH_take (i := 32) (v := ?_) rfl (by kernel_rfl) (by kernel_rfl) (by kernel_rfl) (fun _ _ _ h => h) (Or.inl ⟨by kernel_rfl, ?y32⟩) (by assumption) ?_
    case y32 =>
      intro w0 hSw
      (try dsimp only at hSw)
      go_simp
      try with_reducible rfl
    try simp only [Act.put, qa14, qb14, qc14, qd14, qe14, qf14]
    refine wpAnyH_take (i := 33) (v := ?_) rfl (by kernel_rfl) (by kernel_rfl) (by kernel_rfl) (fun _ _ _ h => h) (Or.inl ⟨by kernel_rfl, ?y33⟩) (by assumption) ?_
    case y33 =>
      intro w0 hSw
      (try dsimp only at hSw)
      go_simp
      try with_reducible rfl
    try simp only [Act.put, qa14, qb14, qc14, qd14, qe14, qf14]
    refine wpAnyH_take (i := 34) (v := ?_) rfl (by kernel_rfl) (by kernel_rfl) (by kernel_rfl) (fun _ _ _ h => h) (Or.inl ⟨by kernel_rfl, ?y34⟩) (by assumption) ?_
    case y34 =>
      intro w0 hSw
      (try dsimp only at hSw)
      go_simp
      try with_reducible rfl
    try simp only [Act.put, qa14, qb14, qc14, qd14, qe14, qf14]
    refine wpAnyH_done (by kernel_rfl) ?_ _
    clear g0 g1 g2 g3 hb7 hBd hg hdd z0 z1 z2 z3 t1 t2
    have HB7 := Lib.hid (hB6.trans (g4.mono (Nat.le_of_lt hs6)))
    have h7s := g4.size
    have HBOX : Hid (∀ W : World, Below w7.heap.size w7 W → W.heap[wr.heap.size]? = some (.cells #[.string a.name, .int .i64 a.typ, .int .i64 a.opened, .bool a.closed] 159 (0, 0))) := Lib.hid (fun W hb => (hb.block _ (by omega)).trans ((g4.block _ hs6).trans HN.out))
    have HG4 := Lib.hid g4
    clear g4
    have y0 : w7.cell? ⟨wr.heap.size, 0, none⟩ = some (.string a.name) := by rw [cell_of_blk (HBOX.out w7 (Below.refl _ _))]; rfl
    have HNX := Lib.hid (valid_next (k := 0) hlt (by omega) HVK.out (by rw [← HA.out]; exact HGB.out) (fun h => absurd h (by omega)) (by rw [← HA.out]; exact HDY.out) (by rw [← HA.out]; exact HTY.out))
    rw [← HA.out] at HNX
    cases hpar : parentF a.name with
    | none =>
      have HX := Lib.hid (HNX.out (fun u hu => by rw [hpar] at hu; cases hu))
      rw [hpar] at hpr
      go_wp2_with (first
        | (go_at_call 10; refine (hpr _).mono ?_; rintro e w8 ⟨rfl, hb8⟩; have HB8 := Lib.hid hb8; clear hb8; have hn8 := HBOX.out w8 HB8.out; have x0 : w8.cell? ⟨wr.heap.size, 0, none⟩ = some (.string a.name) := (by rw [cell_of_blk hn8]; rfl); have x1 : w8.cell? ⟨wr.heap.size, 1, none⟩ = some (.int .i64 a.typ) := (by rw [cell_of_blk hn8]; rfl); have x2 : w8.cell? ⟨wr.heap.size, 2, none⟩ = some (.int .i64 a.opened) := (by rw [cell_of_blk hn8]; rfl); have x3 : w8.cell? ⟨wr.heap.size, 3, none⟩ = some (.bool a.closed) := (by rw [cell_of_blk hn8];  rfl); clear hn8; have hB8 := Lib.hid (HB7.out.trans (HB8.out.mono HB7.out.size)); have hadd := add_any (HCI.out.below hB8.out) HX.out.1; unfold accV at hadd)
        | (go_at_call 210; refine hadd.mono ?_; rintro e w9 ⟨rfl, F', hch9, hC9, hF9⟩; have HC9 := Lib.hid (And.intro hch9 (And.intro hC9 hF9)); clear hch9 hC9 hF9))
      go_roundw
      case rel =>
        obtain ⟨hch9, hC9, hF9⟩ := HC9.out
        rw [HX.out.2.1] at hch9
        exact ⟨1, by omega, by go_num, HX.out.2.2, ⟨F', hch9, fun x hx => by rcases hF9 x hx with h | h; exact hF x h; have := hB8.out.size; have h1 : w8.heap.size ≤ x := h.1; omega⟩, HBEL.out.trans (((Ch.of_below hB8.out).trans' hC9).toBelow hbsz hF)⟩
      case measure => simp [intOf]; omega
    | some u =>
      rw [hpar] at hpr
      have HPAR := Lib.hid hpar
      clear hpar
      obtain ⟨mb, rv, nb, kv, ps, hcr⟩ := HCI.out
      have HCR := Lib.hid hcr
      clear hcr
      cases hfq : findA (L.take 0) u with
      | none =>
        have hbad : Hid (¬ Valid L) := Lib.hid fun hv => by
          obtain ⟨p', _, h1, _⟩ := (take_fits hv 0 hlt).2.2 u (by rw [← HA.out]; exact HPAR.out)
          rw [hfq] at h1; cases h1
        go_wp2_with (go_at_call 10; refine (hpr _).mono ?_; rintro e w8 ⟨rfl, hb8⟩; have HB8 := Lib.hid hb8; clear hb8; have hn8 := HBOX.out w8 HB8.out; have x0 : w8.cell? ⟨wr.heap.size, 0, none⟩ = some (.string a.name) := (by rw [cell_of_blk hn8]; rfl); have x1 : w8.cell? ⟨wr.heap.size, 1, none⟩ = some (.int .i64 a.typ) := (by rw [cell_of_blk hn8]; rfl); have x2 : w8.cell? ⟨wr.heap.size, 2, none⟩ = some (.int .i64 a.opened) := (by rw [cell_of_blk hn8]; rfl); have x3 : w8.cell? ⟨wr.heap.size, 3, none⟩ = some (.bool a.closed) := (by rw [cell_of_blk hn8];  rfl); clear hn8; have hB8 := Lib.hid (HB7.out.trans (HB8.out.mono HB7.out.size)); have hcr8 := HCR.out.keep (fun k _ hk => hB8.out.block k hk); have e0 : w8.cell? ⟨cb, 0, none⟩ = some (.map (some mb)) := (by rw [cell_of_blk hcr8.hC]; rfl); have hlk := hcr8.lookup u; rw [hfq] at hlk)
        go_quiet (fail)
        go_wp2
        refine bodyPost_ret (v := .tuple #[.pointer none, .int .i64 67]) (by simp [results, Tryz.results147, go_sem]) rfl ⟨none, 67, rfl, below_drewN (HBEL.out.trans (hB8.out.mono hbsz)) _, .inr ⟨hbad.out, rfl, rfl⟩⟩
      | some q =>
      obtain ⟨hqL, hqn⟩ := findA_some hfq
      have HQL := Lib.hid hqL
      have HQN := Lib.hid hqn
      have HFQ : Hid (∀ (hv : Valid L), q.typ = a.typ ∧ q.opened ≤ a.opened ∧ (q.closed = true → a.closed = true)) := Lib.hid fun hv => by
        obtain ⟨p', _, h1, _, h2, h3, h4⟩ := (take_fits hv 0 hlt).2.2 u (by rw [← HA.out]; exact HPAR.out)
        rw [hfq] at h1
        obtain rfl : q = p' := Option.some.inj h1
        rw [← HA.out] at h2 h3 h4
        exact ⟨h2, h3, h4⟩
      clear hqL hqn
      by_cases hq1 : q.typ = a.typ
      case neg =>
        have hbad : Hid (¬ Valid L) := Lib.hid fun hv => by have := HFQ.out hv; exact hq1 this.1
        have hqt : (q.typ != a.typ) = true := by rw [bne_iff_ne]; exact hq1
        clear hq1
        go_wp2_with (go_at_call 10; refine (hpr _).mono ?_; rintro e w8 ⟨rfl, hb8⟩; have HB8 := Lib.hid hb8; clear hb8; have hn8 := HBOX.out w8 HB8.out; have x0 : w8.cell? ⟨wr.heap.size, 0, none⟩ = some (.string a.name) := (by rw [cell_of_blk hn8]; rfl); have x1 : w8.cell? ⟨wr.heap.size, 1, none⟩ = some (.int .i64 a.typ) := (by rw [cell_of_blk hn8]; rfl); have x2 : w8.cell? ⟨wr.heap.size, 2, none⟩ = some (.int .i64 a.opened) := (by rw [cell_of_blk hn8]; rfl); have x3 : w8.cell? ⟨wr.heap.size, 3, none⟩ = some (.bool a.closed) := (by rw [cell_of_blk hn8];  rfl); clear hn8; have hB8 := Lib.hid (HB7.out.trans (HB8.out.mono HB7.out.size)); have hcr8 := HCR.out.keep (fun k _ hk => hB8.out.block k hk); have e0 : w8.cell? ⟨cb, 0, none⟩ = some (.map (some mb)) := (by rw [cell_of_blk hcr8.hC]; rfl); have hlk := hcr8.lookup u; rw [hfq] at hlk; have hlk2 : Sem.run Tryz.prog (Instr.lookup 145 (.map (some mb)) (.string u) false) w8 = .ok (.pointer (some ⟨nb u, 0, none⟩)) w8 := (by rw [hlk, ← HQN.out]; rfl); clear hlk; have e1 : w8.cell? ⟨nb u, 1, none⟩ = some (.int .i64 q.typ) := (by rw [← HQN.out, cell_of_blk (hcr8.hN q HQL.out)]; rfl); have e2 : w8.cell? ⟨nb u, 2, none⟩ = some (.int .i64 q.opened) := (by rw [← HQN.out, cell_of_blk (hcr8.hN q HQL.out)]; rfl); have e3 : w8.cell? ⟨nb u, 3, none⟩ = some (.bool q.closed) := (by rw [← HQN.out, cell_of_blk (hcr8.hN q HQL.out)];  rfl))
        go_quiet (fail)
        go_wp2
        refine bodyPost_ret (v := .tuple #[.pointer none, .int .i64 67]) (by simp [results, Tryz.results147, go_sem]) rfl ⟨none, 67, rfl, below_drewN (HBEL.out.trans (hB8.out.mono hbsz)) _, .inr ⟨hbad.out, rfl, rfl⟩⟩
      have hqt : (q.typ != a.typ) = false := by rw [hq1]; simp
      by_cases hq2 : q.opened ≤ a.opened
      case neg =>
        have hbad : Hid (¬ Valid L) := Lib.hid fun hv => by have := HFQ.out hv; exact hq2 this.2.1
        have hqo : decide (a.opened < q.opened) = true := decide_eq_true (by omega)
        go_wp2_with (go_at_call 10; refine (hpr _).mono ?_; rintro e w8 ⟨rfl, hb8⟩; have HB8 := Lib.hid hb8; clear hb8; have hn8 := HBOX.out w8 HB8.out; have x0 : w8.cell? ⟨wr.heap.size, 0, none⟩ = some (.string a.name) := (by rw [cell_of_blk hn8]; rfl); have x1 : w8.cell? ⟨wr.heap.size, 1, none⟩ = some (.int .i64 a.typ) := (by rw [cell_of_blk hn8]; rfl); have x2 : w8.cell? ⟨wr.heap.size, 2, none⟩ = some (.int .i64 a.opened) := (by rw [cell_of_blk hn8]; rfl); have x3 : w8.cell? ⟨wr.heap.size, 3, none⟩ = some (.bool a.closed) := (by rw [cell_of_blk hn8];  rfl); clear hn8; have hB8 := Lib.hid (HB7.out.trans (HB8.out.mono HB7.out.size)); have hcr8 := HCR.out.keep (fun k _ hk => hB8.out.block k hk); have e0 : w8.cell? ⟨cb, 0, none⟩ = some (.map (some mb)) := (by rw [cell_of_blk hcr8.hC]; rfl); have hlk := hcr8.lookup u; rw [hfq] at hlk; have hlk2 : Sem.run Tryz.prog (Instr.lookup 145 (.map (some mb)) (.string u) false) w8 = .ok (.pointer (some ⟨nb u, 0, none⟩)) w8 := (by rw [hlk, ← HQN.out]; rfl); clear hlk; have e1 : w8.cell? ⟨nb u, 1, none⟩ = some (.int .i64 q.typ) := (by rw [← HQN.out, cell_of_blk (hcr8.hN q HQL.out)]; rfl); have e2 : w8.cell? ⟨nb u, 2, none⟩ = some (.int .i64 q.opened) := (by rw [← HQN.out, cell_of_blk (hcr8.hN q HQL.out)]; rfl); have e3 : w8.cell? ⟨nb u, 3, none⟩ = some (.bool q.closed) := (by rw [← HQN.out, cell_of_blk (hcr8.hN q HQL.out)];  rfl))
        go_quiet (fail)
        go_wp2
        refine bodyPost_ret (v := .tuple #[.pointer none, .int .i64 67]) (by simp [results, Tryz.results147, go_sem]) rfl ⟨none, 67, rfl, below_drewN (HBEL.out.trans (hB8.out.mono hbsz)) _, .inr ⟨hbad.out, rfl, rfl⟩⟩
      have hqo : decide (a.opened < q.opened) = false := decide_eq_false (by omega)
      have d2 : ¬ a.opened < q.opened := by omega
      by_cases hq3 : q.closed = true → a.closed = true
      case neg =>
        have hqc : q.closed = true := by cases h : q.closed <;> simp_all
        have hac : a.closed = false := by cases h : a.closed <;> simp_all
        have hbad : Hid (¬ Valid L) := Lib.hid fun hv => by have := HFQ.out hv; exact hq3 this.2.2
        clear hq3
        go_wp2_with (go_at_call 10; refine (hpr _).mono ?_; rintro e w8 ⟨rfl, hb8⟩; have HB8 := Lib.hid hb8; clear hb8; have hn8 := HBOX.out w8 HB8.out; have x0 : w8.cell? ⟨wr.heap.size, 0, none⟩ = some (.string a.name) := (by rw [cell_of_blk hn8]; rfl); have x1 : w8.cell? ⟨wr.heap.size, 1, none⟩ = some (.int .i64 a.typ) := (by rw [cell_of_blk hn8]; rfl); have x2 : w8.cell? ⟨wr.heap.size, 2, none⟩ = some (.int .i64 a.opened) := (by rw [cell_of_blk hn8]; rfl); have x3 : w8.cell? ⟨wr.heap.size, 3, none⟩ = some (.bool false) := (by rw [cell_of_blk hn8]; rw [hac]; rfl); clear hn8; have hB8 := Lib.hid (HB7.out.trans (HB8.out.mono HB7.out.size)); have hcr8 := HCR.out.keep (fun k _ hk => hB8.out.block k hk); have e0 : w8.cell? ⟨cb, 0, none⟩ = some (.map (some mb)) := (by rw [cell_of_blk hcr8.hC]; rfl); have hlk := hcr8.lookup u; rw [hfq] at hlk; have hlk2 : Sem.run Tryz.prog (Instr.lookup 145 (.map (some mb)) (.string u) false) w8 = .ok (.pointer (some ⟨nb u, 0, none⟩)) w8 := (by rw [hlk, ← HQN.out]; rfl); clear hlk; have e1 : w8.cell? ⟨nb u, 1, none⟩ = some (.int .i64 q.typ) := (by rw [← HQN.out, cell_of_blk (hcr8.hN q HQL.out)]; rfl); have e2 : w8.cell? ⟨nb u, 2, none⟩ = some (.int .i64 q.opened) := (by rw [← HQN.out, cell_of_blk (hcr8.hN q HQL.out)]; rfl); have e3 : w8.cell? ⟨nb u, 3, none⟩ = some (.bool true) := (by rw [← HQN.out, cell_of_blk (hcr8.hN q HQL.out)]; rw [hqc]; rfl))
        go_quiet (fail)
        go_wp2
        refine bodyPost_ret (v := .tuple #[.pointer none, .int .i64 67]) (by simp [results, Tryz.results147, go_sem]) rfl ⟨none, 67, rfl, below_drewN (HBEL.out.trans (hB8.out.mono hbsz)) _, .inr ⟨hbad.out, rfl, rfl⟩⟩
      have HX := Lib.hid (HNX.out (fun u' hu' => by
        rw [HPAR.out] at hu'
        obtain rfl : u = u' := Option.some.inj hu'
        exact ⟨q, hfq, hq1, hq2, hq3⟩))
      cases hqc : q.closed with
      | false =>
        clear hq3
        go_wp2_with (go_at_call 10; refine (hpr _).mono ?_; rintro e w8 ⟨rfl, hb8⟩; have HB8 := Lib.hid hb8; clear hb8; have hn8 := HBOX.out w8 HB8.out; have x0 : w8.cell? ⟨wr.heap.size, 0, none⟩ = some (.string a.name) := (by rw [cell_of_blk hn8]; rfl); have x1 : w8.cell? ⟨wr.heap.size, 1, none⟩ = some (.int .i64 a.typ) := (by rw [cell_of_blk hn8]; rfl); have x2 : w8.cell? ⟨wr.heap.size, 2, none⟩ = some (.int .i64 a.opened) := (by rw [cell_of_blk hn8]; rfl); have x3 : w8.cell? ⟨wr.heap.size, 3, none⟩ = some (.bool a.closed) := (by rw [cell_of_blk hn8];  rfl); clear hn8; have hB8 := Lib.hid (HB7.out.trans (HB8.out.mono HB7.out.size)); have hcr8 := HCR.out.keep (fun k _ hk => hB8.out.block k hk); have e0 : w8.cell? ⟨cb, 0, none⟩ = some (.map (some mb)) := (by rw [cell_of_blk hcr8.hC]; rfl); have hlk := hcr8.lookup u; rw [hfq] at hlk; have hlk2 : Sem.run Tryz.prog (Instr.lookup 145 (.map (some mb)) (.string u) false) w8 = .ok (.pointer (some ⟨nb u, 0, none⟩)) w8 := (by rw [hlk, ← HQN.out]; rfl); clear hlk; have e1 : w8.cell? ⟨nb u, 1, none⟩ = some (.int .i64 q.typ) := (by rw [← HQN.out, cell_of_blk (hcr8.hN q HQL.out)]; rfl); have e2 : w8.cell? ⟨nb u, 2, none⟩ = some (.int .i64 q.opened) := (by rw [← HQN.out, cell_of_blk (hcr8.hN q HQL.out)]; rfl); have e3 : w8.cell? ⟨nb u, 3, none⟩ = some (.bool false) := (by rw [← HQN.out, cell_of_blk (hcr8.hN q HQL.out)]; rw [hqc]; rfl); have hadd := fun W hb => add_any (ChartAt.below ⟨mb, rv, nb, kv, ps, hcr8⟩ hb : ChartAt W F cb (L.take 0)) HX.out.1; unfold accV at hadd; have HADD := Lib.hid hadd; clear hadd hcr8)
        go_quiet (fail)
        go_wp2_with (go_at_call 210; refine (HADD.out _ (below_drewN (Below.refl _ _) _)).mono ?_; rintro e w9 ⟨rfl, F', hch9, hC9, hF9⟩; have HC9 := Lib.hid (And.intro hch9 (And.intro hC9 hF9)); clear hch9 hC9 hF9)
        go_roundw
        case rel =>
          obtain ⟨hch9, hC9, hF9⟩ := HC9.out
          rw [HX.out.2.1] at hch9
          exact ⟨1, by omega, by go_num, HX.out.2.2, ⟨F', hch9, fun x hx => by rcases hF9 x hx with h | h; exact hF x h; have := hB8.out.size; have h1 : w8.heap.size ≤ x := h.1; omega⟩, HBEL.out.trans ((((Ch.of_below hB8.out).drewN _).trans' hC9).toBelow hbsz hF)⟩
        case measure => simp [intOf]; omega
      | true =>
        have hac : a.closed = true := hq3 hqc
        clear hq3
        go_wp2_with (go_at_call 10; refine (hpr _).mono ?_; rintro e w8 ⟨rfl, hb8⟩; have HB8 := Lib.hid hb8; clear hb8; have hn8 := HBOX.out w8 HB8.out; have x0 : w8.cell? ⟨wr.heap.size, 0, none⟩ = some (.string a.name) := (by rw [cell_of_blk hn8]; rfl); have x1 : w8.cell? ⟨wr.heap.size, 1, none⟩ = some (.int .i64 a.typ) := (by rw [cell_of_blk hn8]; rfl); have x2 : w8.cell? ⟨wr.heap.size, 2, none⟩ = some (.int .i64 a.opened) := (by rw [cell_of_blk hn8]; rfl); have x3 : w8.cell? ⟨wr.heap.size, 3, none⟩ = some (.bool true) := (by rw [cell_of_blk hn8]; rw [hac]; rfl); clear hn8; have hB8 := Lib.hid (HB7.out.trans (HB8.out.mono HB7.out.size)); have hcr8 := HCR.out.keep (fun k _ hk => hB8.out.block k hk); have e0 : w8.cell? ⟨cb, 0, none⟩ = some (.map (some mb)) := (by rw [cell_of_blk hcr8.hC]; rfl); have hlk := hcr8.lookup u; rw [hfq] at hlk; have hlk2 : Sem.run Tryz.prog (Instr.lookup 145 (.map (some mb)) (.string u) false) w8 = .ok (.pointer (some ⟨nb u, 0, none⟩)) w8 := (by rw [hlk, ← HQN.out]; rfl); clear hlk; have e1 : w8.cell? ⟨nb u, 1, none⟩ = some (.int .i64 q.typ) := (by rw [← HQN.out, cell_of_blk (hcr8.hN q HQL.out)]; rfl); have e2 : w8.cell? ⟨nb u, 2, none⟩ = some (.int .i64 q.opened) := (by rw [← HQN.out, cell_of_blk (hcr8.hN q HQL.out)]; rfl); have e3 : w8.cell? ⟨nb u, 3, none⟩ = some (.bool true) := (by rw [← HQN.out, cell_of_blk (hcr8.hN q HQL.out)]; rw [hqc]; rfl); have hadd := fun W hb => add_any (ChartAt.below ⟨mb, rv, nb, kv, ps, hcr8⟩ hb : ChartAt W F cb (L.take 0)) HX.out.1; unfold accV at hadd; rw [hac] at hadd; have HADD := Lib.hid hadd; clear hadd hcr8)
        go_quiet (fail)
        go_wp2_with (go_at_call 210; refine (HADD.out _ (below_drewN (Below.refl _ _) _)).mono ?_; rintro e w9 ⟨rfl, F', hch9, hC9, hF9⟩; have HC9 := Lib.hid (And.intro hch9 (And.intro hC9 hF9)); clear hch9 hC9 hF9)
        go_roundw
        case rel =>
          obtain ⟨hch9, hC9, hF9⟩ := HC9.out
          rw [HX.out.2.1] at hch9
          exact ⟨1, by omega, by go_num, HX.out.2.2, ⟨F', hch9, fun x hx => by rcases hF9 x hx with h | h; exact hF x h; have := hB8.out.size; have h1 : w8.heap.size ≤ x := h.1; omega⟩, HBEL.out.trans ((((Ch.of_below hB8.out).drewN _).trans' hC9).toBelow hbsz hF)⟩
        case measure => simp [intOf]; omega
end Go.Proofs.YtplocldnklccfaaGreatDoor
