/- For what closings are refused; the rows of postings and voids. Printed by gen_close.py. -/
import Derived.Test.YtgocoofcelggcaaGreatDoorPack9
namespace Go.Proofs.YtgocoofcelggcaaGreatDoor
theorem qa10 {T : Type} (l : List T) (i : Nat) (a : T) : l.toArray.setIfInBounds i a = (l.set i a).toArray := List.setIfInBounds_toArray l i a
theorem qb10 {T : Type} {x : T} {xs : List T} {a : T} : (x :: xs).set 0 a = a :: xs := List.set_cons_zero
theorem qc10 {T : Type} {x : T} {xs : List T} {i : Nat} {a : T} : (x :: xs).set (i + 1) a = x :: xs.set i a := List.set_cons_succ
theorem qd10 {T : Type} {xs : List T} {i : Nat} (h : i < xs.toArray.size) : xs.toArray[i] = xs[i]'(by simpa using h) := List.getElem_toArray h
theorem qe10 {T : Type} (a : T) (ys : List T) (i : Nat) (h : i + 1 < (a :: ys).length) : (a :: ys)[i + 1] = ys[i]'(by simpa using h) := List.getElem_cons_succ a ys i h
theorem qf10 {T : Type} (a : T) (ys : List T) (h : 0 < (a :: ys).length) : (a :: ys)[0] = a := List.getElem_cons_zero a ys h
open Go.RowKit
set_option linter.unusedVariables false
set_option linter.unusedSimpArgs false

theorem own_none {rows : List PostV} {k : ByteArray} (h : hasRow rows k = false) : ownF rows k = 0 := by
  have : rows.filter (fun r => decide (r.account = k)) = [] := by
    rw [List.filter_eq_nil_iff]
    intro r hr
    unfold hasRow at h
    simp at h
    simpa using h r hr
  unfold ownF
  rw [this]
  rfl
theorem last_none {rows : List PostV} {k : ByteArray} (h : hasRow rows k = false) : lastF rows k = 0 := by
  have : rows.filter (fun r => decide (r.account = k)) = [] := by
    rw [List.filter_eq_nil_iff]
    intro r hr
    unfold hasRow at h
    simp at h
    simpa using h r hr
  unfold lastF
  rw [this]
  rfl
theorem kids_le (L : List Acct) (name : ByteArray) : (kidsL L name).length ≤ L.length := by
  unfold kidsL
  split
  · exact List.length_filter_le _ _
  · split
    · simp
    · exact List.length_filter_le _ _
theorem BookP.lookO {w : World} {ρ : Nat → Nat} {bb : Nat} {S : BookS} {p : Pl} (h : BookP w ρ bb S p) (k : ByteArray) (n : Nat) :
    Sem.run Tryz.prog (Instr.lookup 74 (.map (some p.mO)) (.string k) false) (w.drewN n) = .ok (.int .i64 (ownF S.rows k)) (w.drewN n) := by
  obtain ⟨ps, hs, hi⟩ := h.own.ex
  have hl := run_lookup_strmap (hs.drewN n) Tryz.underlying74 Tryz.underlying9 Tryz.zeroValue2 k
  rw [hi k] at hl
  cases hr : hasRow S.rows k with
  | true => rw [hr] at hl; exact hl
  | false => rw [hr] at hl; rw [own_none hr]; exact hl
theorem BookP.lookL {w : World} {ρ : Nat → Nat} {bb : Nat} {S : BookS} {p : Pl} (h : BookP w ρ bb S p) (k : ByteArray) (n : Nat) :
    Sem.run Tryz.prog (Instr.lookup 73 (.map (some p.mL)) (.string k) false) (w.drewN n) = .ok (.int .i64 (lastF S.rows k)) (w.drewN n) := by
  obtain ⟨ps, hs, hi⟩ := h.last.ex
  have hl := run_lookup_strmap (hs.drewN n) Tryz.underlying73 Tryz.underlying9 Tryz.zeroValue3 k
  rw [hi k] at hl
  cases hr : hasRow S.rows k with
  | true => rw [hr] at hl; exact hl
  | false => rw [hr] at hl; rw [last_none hr]; exact hl

section
variable {w : World} {F : Nat → Prop} {bb eb : Nat} {S : BookS} {e : EventV} {lv : Value}
set_option maxRecDepth 100000 in
set_option maxHeartbeats 16000000 in
theorem mayClose_any (h : BookAt w F bb S) (ho : OkS S) (hE : EvAt w eb e lv) :
    Calls Tryz.prog 59 #[ptrV bb, ptrV eb] w fun en w' => en = .returned (.int .i64 (mayCloseE S e)) ∧ Below w.heap.size w w' := by
  have hbk := h
  obtain ⟨ρ, p, h, _⟩ := h
  have hbl := heap_lt h.head
  have hel := heap_lt hE.blk
  obtain ⟨Fc, hch, _⟩ := h.chart
  obtain ⟨W0, hW0⟩ : ∃ W0, w.alloc (.cells #[.pointer (some ⟨eb, 0, none⟩)] 101) = W0 := ⟨_, rfl⟩
  obtain ⟨xb, hxb⟩ : ∃ xb, w.heap.size = xb := ⟨_, rfl⟩
  have hbw : Below w.heap.size w W0 := by rw [← hW0]; exact bel1 w _
  have hxblk : W0.heap[xb]? = some (.cells #[.pointer (some ⟨eb, 0, none⟩)] 101 (0, 0)) := by rw [← hW0, ← hxb]; exact World.alloc_heap_new w _
  have hxl := heap_lt hxblk
  have hBK : ∀ W, Below W0.heap.size W0 W → Below w.heap.size w W := fun W hb => hbw.trans (hb.mono hbw.size)
  have hord := fun W (hb : Below W0.heap.size W0 W) => (h.keep (hBK W hb).size fun k hl _ => (hBK W hb).block k hl)
  obtain ⟨oA, oC, hoV, _⟩ := own_slice' h.order.own
  obtain ⟨oN, hoN⟩ : ∃ oN, oN = S.claims.length := ⟨_, rfl⟩
  rw [← hoN] at hoV
  have hkeep : ∀ W, Below W0.heap.size W0 W → W.cell? ⟨bb, 1, none⟩ = some (.pointer (some ⟨p.cb, 0, none⟩)) ∧ W.cell? ⟨xb, 0, none⟩ = some (.pointer (some ⟨eb, 0, none⟩)) ∧ W.cell? ⟨eb, 3, none⟩ = some (.string e.account) ∧ W.cell? ⟨eb, 1, none⟩ = some (.int .i64 e.day) ∧ W.cell? ⟨bb, 5, none⟩ = some (.map (some p.mO)) ∧ W.cell? ⟨bb, 6, none⟩ = some (.map (some p.mL)) ∧ W.cell? ⟨bb, 10, none⟩ = some (.slice oA oN oC) ∧ (Sem.run Tryz.prog (Instr.lookup 74 (.map (some p.mO)) (.string e.account) false) W = .ok (.int .i64 (ownF S.rows e.account)) W) ∧ Below W0.heap.size W0 W := fun W hb => by
    have hw := hBK W hb
    have hE' := hE.below hw
    have hP := hord W hb
    refine ⟨hP.c1, ?_, hE'.e3, hE'.e1, hP.c5, hP.c6, by rw [hP.c10, hoV], hP.lookO e.account 0, hb⟩
    exact (hb.cell (p := ⟨xb, 0, none⟩) hxl).trans (by rw [cell_of_blk hxblk]; rfl)
  have hfind := fun W (hb : Below W0.heap.size W0 W) => Find_any (hch.below (hBK W hb)) e.account
  have hkids := fun W (hb : Below W0.heap.size W0 W) => Kids_any (hch.below (hBK W hb)) e.account
  have hle := ho.chart.le
  have hcont : ∀ W, Below W0.heap.size W0 W → ∀ v B, W.ownsRow B 9 1 v (kidsL S.chart e.account).length (namesV (kidsL S.chart e.account)) →
      Calls Tryz.prog 89 #[v, .func (.func 91) #[ptrV bb] #[]] W fun en w' => en = .returned (.bool ((kidsL S.chart e.account).any (openB S.chart))) ∧ Below W.heap.size W w' := fun W hb v B hown => by
    refine contains_open (hbk.below (hBK W hb)) (fun _ => True) v _ ?_ (RowAt.of_own (B := B) (e := 9) ?_ ?_ (fun _ _ => trivial))
    · have := kids_le S.chart e.account
      omega
    · rw [List.length_map]
      have : (List.map (fun a : Acct => [Value.string a.name]) (kidsL S.chart e.account)).flatten = namesV (kidsL S.chart e.account) := by
        unfold namesV
        induction kidsL S.chart e.account with
        | nil => rfl
        | cons x l ih => simp [ih]
      rw [this]
      exact hown
    · intro x hx
      obtain ⟨a, _, rfl⟩ := List.mem_map.1 hx
      rfl
  have hcle := ho.claLe
  have hev := ho.ev1
  have howes : ∀ W, Below W0.heap.size W0 W → Calls Tryz.prog 92 #[.slice oA oN oC, .func (.func 93) #[] #[.pointer (some ⟨xb, 0, none⟩)]] W fun en w' => en = .returned (.bool (owesB S.claims e.account)) ∧ Below W.heap.size W w' := fun W hb => by
    have hP := hord W hb
    have hw := hBK W hb
    rw [← hoV]
    have hs := hb.size
    have hs2 := hw.size
    refine contains_owes xb p.oV p.cl S.claims (by omega) (fun _ => True) (RowAt.of_own (B := 0) (e := 79) ?_ ?_ (fun _ _ => trivial)) (fun i hi => (hP.claim i hi).1) (fun c hc => by have := ho.claAmt c hc; unfold maxA at this; omega) (by omega) (by omega) (hkeep W hb).2.1 (hE.below hw).e3
    · have := hP.order.own
      have e1 : ((ptrsFrom p.cl S.claims.length).map fun p => [p]).flatten = ptrsFrom p.cl S.claims.length := by
        induction ptrsFrom p.cl S.claims.length with
        | nil => rfl
        | cons x l ih => simp [ih]
      rw [e1, List.length_map]
      have e2 : (ptrsFrom p.cl S.claims.length).length = S.claims.length := by simp [ptrsFrom]
      rw [e2]
      exact this
    · intro x hx
      obtain ⟨a, _, rfl⟩ := List.mem_map.1 hx
      rfl
  have hlast : ∀ W, Below W0.heap.size W0 W → ∀ n, Sem.run Tryz.prog (Instr.lookup 73 (.map (some p.mL)) (.string e.account) false) (W.drewN n) = .ok (.int .i64 (lastF S.rows e.account)) (W.drewN n) := fun W hb n => (hord W hb).lookL e.account n
  have HK0 := hkeep
  unfold mayCloseE inUseB
  obtain ⟨KL, hKL⟩ : ∃ KL, KL = kidsL S.chart e.account := ⟨_, rfl⟩
  rw [← hKL] at hcont hkids ⊢
  generalize owesB S.claims e.account = OB at *
  generalize ownF S.rows e.account = OW at *
  generalize lastF S.rows e.account = LA at *
  generalize p.mO = mO at *
  generalize p.mL = mL at *
  generalize S.chart = L at *
  generalize p.cb = cb at *
  generalize openB L = oq at *
  generalize (KL.any oq) = KO at *
  have HK := Lib.hid hkeep
  have HL := Lib.hid hlast
  have hV0 : Below W0.heap.size W0 W0 := Below.refl _ _
  obtain ⟨g0, g1, g2, g3, g4, g5, g6, g7, g8⟩ := hkeep W0.drew (Below.refl _ _).drew
  unfold accV at hfind
  unfold ptrV at hcont ⊢
  clear hkeep HK0 hlast hord h hE hbk hch ho hKL hoV hoN hcle hle
  cases hfa : findA L e.account with
  | none =>
    simp only [hfa, Option.isSome_none] at hfind
    obtain ⟨a, ha⟩ : ∃ a, a = (none : Option Acct).getD noA := ⟨_, rfl⟩
    rw [← ha] at hfind
    clear ha hfa
    go_enter Tryz.func59, Tryz.ntmps59
    go_wp2
    try rw [hW0]
    try simp only [hxb]
    go_region_held3 (fun w' => w'.cell? ⟨bb, 1, none⟩ = some (.pointer (some ⟨cb, 0, none⟩)) ∧ w'.cell? ⟨xb, 0, none⟩ = some (.pointer (some ⟨eb, 0, none⟩)) ∧ w'.cell? ⟨eb, 3, none⟩ = some (.string e.account) ∧ w'.cell? ⟨eb, 1, none⟩ = some (.int .i64 e.day) ∧ w'.cell? ⟨bb, 5, none⟩ = some (.map (some mO)) ∧ w'.cell? ⟨bb, 6, none⟩ = some (.map (some mL)) ∧ w'.cell? ⟨bb, 10, none⟩ = some (.slice oA oN oC) ∧ (Sem.run Tryz.prog (Instr.lookup 74 (.map (some mO)) (.string e.account) false) w' = .ok (.int .i64 OW) w') ∧ Below W0.heap.size W0 w')
      (first | with_reducible exact ⟨g0, g1, g2, g3, g4, g5, g6, g7, g8⟩ | with_reducible exact HK.out _ (below_ad hV0 hV0.size _) | with_reducible exact HK.out _ (by with_reducible assumption) | with_reducible exact HK.out _ (Below.alloc (by with_reducible assumption) (Below.size (by with_reducible assumption)) _) | with_reducible exact HK.out _ (set4' (by with_reducible assumption) hV0.size _ _ _ _))
      (first
        | (go_at_call 46; refine (hfind _ (by with_reducible exact g8)).mono ?_; rintro en w1 ⟨rfl, hb1⟩; have g3' : Below W0.heap.size W0 w1 := (by with_reducible exact grow_plain (V := W0) hV0 hV0.size hb1); obtain ⟨k0, k1, k2, k3, k4, k5, k6, k7, k8⟩ := HK.out w1 g3'; clear g3' hfind)
        | (go_at_call 46; refine (hfind _ (by with_reducible exact below_ad hV0 hV0.size _)).mono ?_; rintro en w1 ⟨rfl, hb1⟩; have gp : Below W0.heap.size W0 w1 ∧ w1.heap[W0.heap.size]? = some (.cells noBox 65 (0, 0)) := (by with_reducible exact grow_past (V := W0) hV0 hV0.size hb1); obtain ⟨g3', hbx⟩ := gp; obtain ⟨k0, k1, k2, k3, k4, k5, k6, k7, k8⟩ := HK.out w1 g3'; obtain ⟨hbk, hbk1, hbk2, hbk3, hbf, hbf1, hbf2, hbf3⟩ := box_facts hbx; clear g3' hfind))
    all_goals first
      | (have hX := box_set hbx a
         have hB2 := set4 k8 (p := ⟨W0.heap.size, 0, none⟩) (q := ⟨W0.heap.size, 1, none⟩) (r := ⟨W0.heap.size, 2, none⟩) (s := ⟨W0.heap.size, 3, none⟩) hV0.size hV0.size hV0.size hV0.size (.string a.name) (.int .i64 a.typ) (.int .i64 a.opened) (.bool a.closed)
         obtain ⟨W2, hW2_⟩ : ∃ W2, (((w1.setCell ⟨W0.heap.size, 0, none⟩ (.string a.name)).setCell ⟨W0.heap.size, 1, none⟩ (.int .i64 a.typ)).setCell ⟨W0.heap.size, 2, none⟩ (.int .i64 a.opened)).setCell ⟨W0.heap.size, 3, none⟩ (.bool a.closed) = W2 := ⟨_, rfl⟩
         rw [hW2_] at hX hB2 ⊢
         clear hW2_
         obtain ⟨yb, hxb_⟩ : ∃ yb, W0.heap.size = yb := ⟨_, rfl⟩
         rw [hxb_] at hX
         simp only [hxb_]
         clear hxb_)
      | (have hX := World.alloc_heap_new w1 (.cells #[.string a.name, .int .i64 a.typ, .int .i64 a.opened, .bool a.closed] 65)
         have hB2 := k8.alloc k8.size (.cells #[.string a.name, .int .i64 a.typ, .int .i64 a.opened, .bool a.closed] 65)
         obtain ⟨W2, hW2_⟩ : ∃ W2, w1.alloc (.cells #[.string a.name, .int .i64 a.typ, .int .i64 a.opened, .bool a.closed] 65) = W2 := ⟨_, rfl⟩
         rw [hW2_] at hX hB2 ⊢
         clear hW2_
         obtain ⟨yb, hxb_⟩ : ∃ yb, w1.heap.size = yb := ⟨_, rfl⟩
         rw [hxb_] at hX
         simp only [hxb_]
         clear hxb_)
    all_goals
      go_wp2
      go_ret
      exact ⟨rfl, hBK _ hB2⟩
  | some a =>
    simp only [hfa, Option.isSome_some, Option.getD_some] at hfind
    clear hfa
    simp only
    cases hcl : a.closed with
    | true =>
      rw [if_pos rfl]
      have HCL := Lib.hid hcl
      clear hcl
      go_enter Tryz.func59, Tryz.ntmps59
      go_wp2
      try rw [hW0]
      try simp only [hxb]
      go_region_held3 (fun w' => w'.cell? ⟨bb, 1, none⟩ = some (.pointer (some ⟨cb, 0, none⟩)) ∧ w'.cell? ⟨xb, 0, none⟩ = some (.pointer (some ⟨eb, 0, none⟩)) ∧ w'.cell? ⟨eb, 3, none⟩ = some (.string e.account) ∧ w'.cell? ⟨eb, 1, none⟩ = some (.int .i64 e.day) ∧ w'.cell? ⟨bb, 5, none⟩ = some (.map (some mO)) ∧ w'.cell? ⟨bb, 6, none⟩ = some (.map (some mL)) ∧ w'.cell? ⟨bb, 10, none⟩ = some (.slice oA oN oC) ∧ (Sem.run Tryz.prog (Instr.lookup 74 (.map (some mO)) (.string e.account) false) w' = .ok (.int .i64 OW) w') ∧ Below W0.heap.size W0 w')
        (first | with_reducible exact ⟨g0, g1, g2, g3, g4, g5, g6, g7, g8⟩ | with_reducible exact HK.out _ (below_ad hV0 hV0.size _) | with_reducible exact HK.out _ (by with_reducible assumption) | with_reducible exact HK.out _ (Below.alloc (by with_reducible assumption) (Below.size (by with_reducible assumption)) _) | with_reducible exact HK.out _ (set4' (by with_reducible assumption) hV0.size _ _ _ _))
        (first
          | (go_at_call 46; refine (hfind _ (by with_reducible exact g8)).mono ?_; rintro en w1 ⟨rfl, hb1⟩; have g3' : Below W0.heap.size W0 w1 := (by with_reducible exact grow_plain (V := W0) hV0 hV0.size hb1); obtain ⟨k0, k1, k2, k3, k4, k5, k6, k7, k8⟩ := HK.out w1 g3'; clear g3' hfind)
          | (go_at_call 46; refine (hfind _ (by with_reducible exact below_ad hV0 hV0.size _)).mono ?_; rintro en w1 ⟨rfl, hb1⟩; have gp : Below W0.heap.size W0 w1 ∧ w1.heap[W0.heap.size]? = some (.cells noBox 65 (0, 0)) := (by with_reducible exact grow_past (V := W0) hV0 hV0.size hb1); obtain ⟨g3', hbx⟩ := gp; obtain ⟨k0, k1, k2, k3, k4, k5, k6, k7, k8⟩ := HK.out w1 g3'; obtain ⟨hbk, hbk1, hbk2, hbk3, hbf, hbf1, hbf2, hbf3⟩ := box_facts hbx; clear g3' hfind))
      all_goals first
        | (have hX := box_set hbx a
           have hB2 := set4 k8 (p := ⟨W0.heap.size, 0, none⟩) (q := ⟨W0.heap.size, 1, none⟩) (r := ⟨W0.heap.size, 2, none⟩) (s := ⟨W0.heap.size, 3, none⟩) hV0.size hV0.size hV0.size hV0.size (.string a.name) (.int .i64 a.typ) (.int .i64 a.opened) (.bool a.closed)
           obtain ⟨W2, hW2_⟩ : ∃ W2, (((w1.setCell ⟨W0.heap.size, 0, none⟩ (.string a.name)).setCell ⟨W0.heap.size, 1, none⟩ (.int .i64 a.typ)).setCell ⟨W0.heap.size, 2, none⟩ (.int .i64 a.opened)).setCell ⟨W0.heap.size, 3, none⟩ (.bool a.closed) = W2 := ⟨_, rfl⟩
           rw [hW2_] at hX hB2 ⊢
           clear hW2_
           obtain ⟨yb, hxb_⟩ : ∃ yb, W0.heap.size = yb := ⟨_, rfl⟩
           rw [hxb_] at hX
           simp only [hxb_]
           clear hxb_)
        | (have hX := World.alloc_heap_new w1 (.cells #[.string a.name, .int .i64 a.typ, .int .i64 a.opened, .bool a.closed] 65)
           have hB2 := k8.alloc k8.size (.cells #[.string a.name, .int .i64 a.typ, .int .i64 a.opened, .bool a.closed] 65)
           obtain ⟨W2, hW2_⟩ : ∃ W2, w1.alloc (.cells #[.string a.name, .int .i64 a.typ, .int .i64 a.opened, .bool a.closed] 65) = W2 := ⟨_, rfl⟩
           rw [hW2_] at hX hB2 ⊢
           clear hW2_
           obtain ⟨yb, hxb_⟩ : ∃ yb, w1.heap.size = yb := ⟨_, rfl⟩
           rw [hxb_] at hX
           simp only [hxb_]
           clear hxb_)
      all_goals
        have hx3 : W2.cell? ⟨yb, 3, none⟩ = some (.bool true) := by rw [(box_cells hX).2.2.2, HCL.out]
        clear hX
        go_wp2
        go_ret
        exact ⟨rfl, hBK _ hB2⟩
    | false =>
      rw [if_neg (by simp)]
      have HCL := Lib.hid hcl
      clear hcl
      cases KO with
      | true =>
        simp only [Bool.true_or, if_true]
        go_enter Tryz.func59, Tryz.ntmps59
        go_wp2
        try rw [hW0]
        try simp only [hxb]
        go_region_held3 (fun w' => w'.cell? ⟨bb, 1, none⟩ = some (.pointer (some ⟨cb, 0, none⟩)) ∧ w'.cell? ⟨xb, 0, none⟩ = some (.pointer (some ⟨eb, 0, none⟩)) ∧ w'.cell? ⟨eb, 3, none⟩ = some (.string e.account) ∧ w'.cell? ⟨eb, 1, none⟩ = some (.int .i64 e.day) ∧ w'.cell? ⟨bb, 5, none⟩ = some (.map (some mO)) ∧ w'.cell? ⟨bb, 6, none⟩ = some (.map (some mL)) ∧ w'.cell? ⟨bb, 10, none⟩ = some (.slice oA oN oC) ∧ (Sem.run Tryz.prog (Instr.lookup 74 (.map (some mO)) (.string e.account) false) w' = .ok (.int .i64 OW) w') ∧ Below W0.heap.size W0 w')
          (first | with_reducible exact ⟨g0, g1, g2, g3, g4, g5, g6, g7, g8⟩ | with_reducible exact HK.out _ (below_ad hV0 hV0.size _) | with_reducible exact HK.out _ (by with_reducible assumption) | with_reducible exact HK.out _ (Below.alloc (by with_reducible assumption) (Below.size (by with_reducible assumption)) _) | with_reducible exact HK.out _ (set4' (by with_reducible assumption) hV0.size _ _ _ _))
          (first
            | (go_at_call 46; refine (hfind _ (by with_reducible exact g8)).mono ?_; rintro en w1 ⟨rfl, hb1⟩; have g3' : Below W0.heap.size W0 w1 := (by with_reducible exact grow_plain (V := W0) hV0 hV0.size hb1); obtain ⟨k0, k1, k2, k3, k4, k5, k6, k7, k8⟩ := HK.out w1 g3'; clear g3' hfind)
            | (go_at_call 46; refine (hfind _ (by with_reducible exact below_ad hV0 hV0.size _)).mono ?_; rintro en w1 ⟨rfl, hb1⟩; have gp : Below W0.heap.size W0 w1 ∧ w1.heap[W0.heap.size]? = some (.cells noBox 65 (0, 0)) := (by with_reducible exact grow_past (V := W0) hV0 hV0.size hb1); obtain ⟨g3', hbx⟩ := gp; obtain ⟨k0, k1, k2, k3, k4, k5, k6, k7, k8⟩ := HK.out w1 g3'; obtain ⟨hbk, hbk1, hbk2, hbk3, hbf, hbf1, hbf2, hbf3⟩ := box_facts hbx; clear g3' hfind))
        all_goals first
          | (have hX := box_set hbx a
             have hB2 := set4 k8 (p := ⟨W0.heap.size, 0, none⟩) (q := ⟨W0.heap.size, 1, none⟩) (r := ⟨W0.heap.size, 2, none⟩) (s := ⟨W0.heap.size, 3, none⟩) hV0.size hV0.size hV0.size hV0.size (.string a.name) (.int .i64 a.typ) (.int .i64 a.opened) (.bool a.closed)
             obtain ⟨W2, hW2_⟩ : ∃ W2, (((w1.setCell ⟨W0.heap.size, 0, none⟩ (.string a.name)).setCell ⟨W0.heap.size, 1, none⟩ (.int .i64 a.typ)).setCell ⟨W0.heap.size, 2, none⟩ (.int .i64 a.opened)).setCell ⟨W0.heap.size, 3, none⟩ (.bool a.closed) = W2 := ⟨_, rfl⟩
             rw [hW2_] at hX hB2 ⊢
             clear hW2_
             obtain ⟨yb, hxb_⟩ : ∃ yb, W0.heap.size = yb := ⟨_, rfl⟩
             rw [hxb_] at hX
             simp only [hxb_]
             clear hxb_)
          | (have hX := World.alloc_heap_new w1 (.cells #[.string a.name, .int .i64 a.typ, .int .i64 a.opened, .bool a.closed] 65)
             have hB2 := k8.alloc k8.size (.cells #[.string a.name, .int .i64 a.typ, .int .i64 a.opened, .bool a.closed] 65)
             obtain ⟨W2, hW2_⟩ : ∃ W2, w1.alloc (.cells #[.string a.name, .int .i64 a.typ, .int .i64 a.opened, .bool a.closed] 65) = W2 := ⟨_, rfl⟩
             rw [hW2_] at hX hB2 ⊢
             clear hW2_
             obtain ⟨yb, hxb_⟩ : ∃ yb, w1.heap.size = yb := ⟨_, rfl⟩
             rw [hxb_] at hX
             simp only [hxb_]
             clear hxb_)
        all_goals
          have hx3 : W2.cell? ⟨yb, 3, none⟩ = some (.bool false) := by rw [(box_cells hX).2.2.2, HCL.out]
          have hxy : W2.cell? ⟨yb, 2, none⟩ = some (.int .i64 a.opened) := (box_cells hX).2.2.1
          have hyl := heap_lt hX
          have HXY := Lib.hid hxy
          clear hX hxy
          go_wp2
          obtain ⟨q0, q1, q2, q3, q4, q5, q6, q7, q8⟩ := HK.out W2.drew hB2.drew
          refine wp_region_held_drew (S := fun w' => w'.cell? ⟨bb, 1, none⟩ = some (.pointer (some ⟨cb, 0, none⟩)) ∧ w'.cell? ⟨xb, 0, none⟩ = some (.pointer (some ⟨eb, 0, none⟩)) ∧ w'.cell? ⟨eb, 3, none⟩ = some (.string e.account) ∧ w'.cell? ⟨eb, 1, none⟩ = some (.int .i64 e.day) ∧ w'.cell? ⟨bb, 5, none⟩ = some (.map (some mO)) ∧ w'.cell? ⟨bb, 6, none⟩ = some (.map (some mL)) ∧ w'.cell? ⟨bb, 10, none⟩ = some (.slice oA oN oC) ∧ (Sem.run Tryz.prog (Instr.lookup 74 (.map (some mO)) (.string e.account) false) w' = .ok (.int .i64 OW) w') ∧ Below W0.heap.size W0 w') (by kernel_rfl) ⟨q0, q1, q2, q3, q4, q5, q6, q7, q8⟩ (fun hHeld => ?_)
          refine wpAnyH_take (i := 0) (v := ?_) rfl (by kernel_rfl) (by kernel_rfl) (by kernel_rfl) (fun _ _ _ h => h) (Or.inl ⟨by kernel_rfl, ?y0⟩) (by assumption) ?_
          case y0 =>
            intro w0 hSw
            (try dsimp only at hSw)
            go_simp
            try with_reducible rfl
          try simp only [Act.put, qa10, qb10, qc10, qd10, qe10, qf10]
          refine wpAnyH_take (i := 1) (v := ?_) rfl (by kernel_rfl) (by kernel_rfl) (by kernel_rfl) (fun _ _ _ h => h) (Or.inl ⟨by kernel_rfl, ?y1⟩) (by assumption) ?_
          case y1 =>
            intro w0 hSw
            (try dsimp only at hSw)
            go_simp
            try with_reducible rfl
          try simp only [Act.put, qa10, qb10, qc10, qd10, qe10, qf10]
          refine wpAnyH_take (i := 2) (v := ?_) rfl (by kernel_rfl) (by kernel_rfl) (by kernel_rfl) (fun _ _ _ h => h) (Or.inl ⟨by kernel_rfl, ?y2⟩) (by assumption) ?_
          case y2 =>
            intro w0 hSw
            (try dsimp only at hSw)
            go_simp
            try with_reducible rfl
          try simp only [Act.put, qa10, qb10, qc10, qd10, qe10, qf10]
          refine wpAnyH_take (i := 3) (v := ?_) rfl (by kernel_rfl) (by kernel_rfl) (by kernel_rfl) (fun _ _ _ h => h) (Or.inl ⟨by kernel_rfl, ?y3⟩) (by assumption) ?_
          case y3 =>
            intro w0 hSw
            (try dsimp only at hSw)
            go_simp
            try with_reducible rfl
          try simp only [Act.put, qa10, qb10, qc10, qd10, qe10, qf10]
          refine wpAnyH_take (i := 4) (v := ?_) rfl (by kernel_rfl) (by kernel_rfl) (by kernel_rfl) (fun _ _ _ h => h) (Or.inl ⟨by kernel_rfl, ?y4⟩) (by assumption) ?_
          case y4 =>
            intro w0 hSw
            (try dsimp only at hSw)
            go_simp
            try with_reducible rfl
          try simp only [Act.put, qa10, qb10, qc10, qd10, qe10, qf10]
          refine wpAnyH_take (i := 5) (v := ?_) rfl (by kernel_rfl) (by kernel_rfl) (by kernel_rfl) (fun _ _ _ h => h) (Or.inl ⟨by kernel_rfl, ?y5⟩) (by assumption) ?_
          case y5 =>
            intro w0 hSw
            (try dsimp only at hSw)
            go_simp
            try with_reducible rfl
          try simp only [Act.put, qa10, qb10, qc10, qd10, qe10, qf10]
          refine wpAnyH_take (i := 6) (v := ?_) rfl (by kernel_rfl) (by kernel_rfl) (by kernel_rfl) (fun _ _ _ h => h) (Or.inl ⟨by kernel_rfl, ?y6⟩) (by assumption) ?_
          case y6 =>
            intro w0 hSw
            (try dsimp only at hSw)
            go_simp
            try with_reducible rfl
          try simp only [Act.put, qa10, qb10, qc10, qd10, qe10, qf10]
          refine wpAnyH_take (i := 7) (v := ?_) rfl (by kernel_rfl) (by kernel_rfl) (by kernel_rfl) (fun _ _ _ h => h) (Or.inl ⟨by kernel_rfl, ?y7⟩) (by assumption) ?_
          case y7 =>
            intro w0 hSw
            (try dsimp only at hSw)
            go_simp
            try with_reducible rfl
          try simp only [Act.put, qa10, qb10, qc10, qd10, qe10, qf10]
          refine wpAnyH_take (i := 9) (v := ?_) rfl (by kernel_rfl) (by kernel_rfl) (by kernel_rfl) (fun _ _ _ h => h) (Or.inl ⟨by kernel_rfl, ?y9⟩) (by assumption) ?_
          case y9 =>
            intro w0 hSw
            (try dsimp only at hSw)
            go_simp
            try with_reducible rfl
          try simp only [Act.put, qa10, qb10, qc10, qd10, qe10, qf10]
          refine wpAnyH_take (i := 10) (v := ?_) rfl (by kernel_rfl) (by kernel_rfl) (by kernel_rfl) (fun _ _ _ h => h) (Or.inl ⟨by kernel_rfl, ?y10⟩) (by assumption) ?_
          case y10 =>
            intro w0 hSw
            (try dsimp only at hSw)
            go_simp
            try with_reducible rfl
          try simp only [Act.put, qa10, qb10, qc10, qd10, qe10, qf10]
          refine wpAnyH_ready (rs := [8]) (by kernel_rfl) (by simp) (AllReadyH.cons rfl (fun K hK => ?_) AllReadyH.nil)
          go_simp
          go_at_call 90; refine (hkids _ q8).mono ?_; rintro en w3 ⟨kv, rfl, hown, hb3⟩; have hcon := hcont w3 (q8.trans (hb3.mono q8.size)) kv _ hown; obtain ⟨kA, kC, hkv⟩ : ∃ kA kC, kv = .slice kA KL.length kC := (by rcases hown.2 with ⟨h1, h2⟩ | ⟨g, cap, cur, h1, _⟩; exact ⟨none, 0, by rw [h1, h2]⟩; exact ⟨_, _, h1⟩); subst hkv; clear hkids; have qb := q8.trans (hb3.mono q8.size); have QK := HK.out _ qb; clear q0 q1 q2 q3 q4 q5 q6 q7 q8 qb; obtain ⟨q0, q1, q2, q3, q4, q5, q6, q7, q8⟩ := QK
          go_wp2_with fail
          refine hK.out _ _ ⟨q0, q1, q2, q3, q4, q5, q6, q7, q8⟩ (fun hHeld => ?_)
          clear hK K
          try simp only [Act.put, qa10, qb10, qc10, qd10, qe10, qf10]
          refine wpAnyH_ready (rs := [11]) (by kernel_rfl) (by simp) (AllReadyH.cons rfl (fun K hK => ?_) AllReadyH.nil)
          go_simp
          go_at_call 89; refine hcon.mono ?_; rintro en w4 ⟨rfl, hb4⟩; clear hcon hown; have qb := q8.trans (hb4.mono q8.size); have QK := HK.out _ qb; clear q0 q1 q2 q3 q4 q5 q6 q7 q8 qb; obtain ⟨q0, q1, q2, q3, q4, q5, q6, q7, q8⟩ := QK
          go_wp2_with fail
          refine hK.out _ _ ⟨q0, q1, q2, q3, q4, q5, q6, q7, q8⟩ (fun hHeld => ?_)
          clear hK K
          try simp only [Act.put, qa10, qb10, qc10, qd10, qe10, qf10]
          refine wpAnyH_take (i := 12) (v := ?_) rfl (by kernel_rfl) (by kernel_rfl) (by kernel_rfl) (fun _ _ _ h => h) (Or.inl ⟨by kernel_rfl, ?y12⟩) (by assumption) ?_
          case y12 =>
            intro w0 hSw
            (try dsimp only at hSw)
            go_simp
            try with_reducible rfl
          try simp only [Act.put, qa10, qb10, qc10, qd10, qe10, qf10]
          refine wpAnyH_take (i := 13) (v := undef) rfl (by kernel_rfl) (by kernel_rfl) (by kernel_rfl) (fun _ _ _ h => h) (Or.inr ⟨by kernel_rfl, rfl⟩) (by assumption) ?_
          try simp only [Act.put, qa10, qb10, qc10, qd10, qe10, qf10]
          refine wpAnyH_take (i := 14) (v := undef) rfl (by kernel_rfl) (by kernel_rfl) (by kernel_rfl) (fun _ _ _ h => h) (Or.inr ⟨by kernel_rfl, rfl⟩) (by assumption) ?_
          try simp only [Act.put, qa10, qb10, qc10, qd10, qe10, qf10]
          refine wpAnyH_take (i := 15) (v := undef) rfl (by kernel_rfl) (by kernel_rfl) (by kernel_rfl) (fun _ _ _ h => h) (Or.inr ⟨by kernel_rfl, rfl⟩) (by assumption) ?_
          try simp only [Act.put, qa10, qb10, qc10, qd10, qe10, qf10]
          refine wpAnyH_take (i := 16) (v := undef) rfl (by kernel_rfl) (by kernel_rfl) (by kernel_rfl) (fun _ _ _ h => h) (Or.inr ⟨by kernel_rfl, rfl⟩) (by assumption) ?_
          try simp only [Act.put, qa10, qb10, qc10, qd10, qe10, qf10]
          refine wpAnyH_take (i := 17) (v := undef) rfl (by kernel_rfl) (by kernel_rfl) (by kernel_rfl) (fun _ _ _ h => h) (Or.inr ⟨by kernel_rfl, rfl⟩) (by assumption) ?_
          try simp only [Act.put, qa10, qb10, qc10, qd10, qe10, qf10]
          refine wpAnyH_take (i := 18) (v := undef) rfl (by kernel_rfl) (by kernel_rfl) (by kernel_rfl) (fun _ _ _ h => h) (Or.inr ⟨by kernel_rfl, rfl⟩) (by assumption) ?_
          try simp only [Act.put, qa10, qb10, qc10, qd10, qe10, qf10]
          refine wpAnyH_take (i := 19) (v := undef) rfl (by kernel_rfl) (by kernel_rfl) (by kernel_rfl) (fun _ _ _ h => h) (Or.inr ⟨by kernel_rfl, rfl⟩) (by assumption) ?_
          try simp only [Act.put, qa10, qb10, qc10, qd10, qe10, qf10]
          refine wpAnyH_take (i := 20) (v := undef) rfl (by kernel_rfl) (by kernel_rfl) (by kernel_rfl) (fun _ _ _ h => h) (Or.inr ⟨by kernel_rfl, rfl⟩) (by assumption) ?_
          try simp only [Act.put, qa10, qb10, qc10, qd10, qe10, qf10]
          refine wpAnyH_take (i := 21) (v := undef) rfl (by kernel_rfl) (by kernel_rfl) (by kernel_rfl) (fun _ _ _ h => h) (Or.inr ⟨by kernel_rfl, rfl⟩) (by assumption) ?_
          try simp only [Act.put, qa10, qb10, qc10, qd10, qe10, qf10]
          refine wpAnyH_take (i := 22) (v := undef) rfl (by kernel_rfl) (by kernel_rfl) (by kernel_rfl) (fun _ _ _ h => h) (Or.inr ⟨by kernel_rfl, rfl⟩) (by assumption) ?_
          try simp only [Act.put, qa10, qb10, qc10, qd10, qe10, qf10]
          refine wpAnyH_take (i := 23) (v := ?_) rfl (by kernel_rfl) (by kernel_rfl) (by kernel_rfl) (fun _ _ _ h => h) (Or.inl ⟨by kernel_rfl, ?y23⟩) (by assumption) ?_
          case y23 =>
            intro w0 hSw
            (try dsimp only at hSw)
            go_simp
            try with_reducible rfl
          try simp only [Act.put, qa10, qb10, qc10, qd10, qe10, qf10]
          refine wpAnyH_take (i := 24) (v := ?_) rfl (by kernel_rfl) (by kernel_rfl) (by kernel_rfl) (fun _ _ _ h => h) (Or.inl ⟨by kernel_rfl, ?y24⟩) (by assumption) ?_
          case y24 =>
            intro w0 hSw
            (try dsimp only at hSw)
            go_simp
            try with_reducible rfl
          try simp only [Act.put, qa10, qb10, qc10, qd10, qe10, qf10]
          refine wpAnyH_take (i := 25) (v := undef) rfl (by kernel_rfl) (by kernel_rfl) (by kernel_rfl) (fun _ _ _ h => h) (Or.inr ⟨by kernel_rfl, rfl⟩) (by assumption) ?_
          try simp only [Act.put, qa10, qb10, qc10, qd10, qe10, qf10]
          refine wpAnyH_take (i := 26) (v := undef) rfl (by kernel_rfl) (by kernel_rfl) (by kernel_rfl) (fun _ _ _ h => h) (Or.inr ⟨by kernel_rfl, rfl⟩) (by assumption) ?_
          try simp only [Act.put, qa10, qb10, qc10, qd10, qe10, qf10]
          refine wpAnyH_take (i := 27) (v := undef) rfl (by kernel_rfl) (by kernel_rfl) (by kernel_rfl) (fun _ _ _ h => h) (Or.inr ⟨by kernel_rfl, rfl⟩) (by assumption) ?_
          try simp only [Act.put, qa10, qb10, qc10, qd10, qe10, qf10]
          refine wpAnyH_take (i := 28) (v := undef) rfl (by kernel_rfl) (by kernel_rfl) (by kernel_rfl) (fun _ _ _ h => h) (Or.inr ⟨by kernel_rfl, rfl⟩) (by assumption) ?_
          try simp only [Act.put, qa10, qb10, qc10, qd10, qe10, qf10]
          refine wpAnyH_take (i := 29) (v := undef) rfl (by kernel_rfl) (by kernel_rfl) (by kernel_rfl) (fun _ _ _ h => h) (Or.inr ⟨by kernel_rfl, rfl⟩) (by assumption) ?_
          try simp only [Act.put, qa10, qb10, qc10, qd10, qe10, qf10]
          refine wpAnyH_take (i := 30) (v := undef) rfl (by kernel_rfl) (by kernel_rfl) (by kernel_rfl) (fun _ _ _ h => h) (Or.inr ⟨by kernel_rfl, rfl⟩) (by assumption) ?_
          try simp only [Act.put, qa10, qb10, qc10, qd10, qe10, qf10]
          refine wpAnyH_take (i := 31) (v := ?_) rfl (by kernel_rfl) (by kernel_rfl) (by kernel_rfl) (fun _ _ _ h => h) (Or.inl ⟨by kernel_rfl, ?y31⟩) (by assumption) ?_
          case y31 =>
            intro w0 hSw
            (try dsimp only at hSw)
            go_simp
            try with_reducible rfl
          try simp only [Act.put, qa10, qb10, qc10, qd10, qe10, qf10]
          refine wpAnyH_take (i := 32) (v := ?_) rfl (by kernel_rfl) (by kernel_rfl) (by kernel_rfl) (fun _ _ _ h => h) (Or.inl ⟨by kernel_rfl, ?y32⟩) (by assumption) ?_
          case y32 =>
            intro w0 hSw
            (try dsimp only at hSw)
            go_simp
            try with_reducible rfl
          try simp only [Act.put, qa10, qb10, qc10, qd10, qe10, qf10]
          refine wpAnyH_done (by kernel_rfl) ?_ _
          go_wp2
          go_ret
          exact ⟨rfl, hBK _ q8⟩
      | false =>
        by_cases hOW : OW = 0
        · have o1 : (OW != 0) = false := by simp [hOW]
          rw [show decide (OW ≠ 0) = false from decide_eq_false (fun h => h hOW)]
          clear hOW
          cases OB with
          | true =>
            simp only [Bool.false_or, if_true]
            go_enter Tryz.func59, Tryz.ntmps59
            go_wp2
            try rw [hW0]
            try simp only [hxb]
            go_region_held3 (fun w' => w'.cell? ⟨bb, 1, none⟩ = some (.pointer (some ⟨cb, 0, none⟩)) ∧ w'.cell? ⟨xb, 0, none⟩ = some (.pointer (some ⟨eb, 0, none⟩)) ∧ w'.cell? ⟨eb, 3, none⟩ = some (.string e.account) ∧ w'.cell? ⟨eb, 1, none⟩ = some (.int .i64 e.day) ∧ w'.cell? ⟨bb, 5, none⟩ = some (.map (some mO)) ∧ w'.cell? ⟨bb, 6, none⟩ = some (.map (some mL)) ∧ w'.cell? ⟨bb, 10, none⟩ = some (.slice oA oN oC) ∧ (Sem.run Tryz.prog (Instr.lookup 74 (.map (some mO)) (.string e.account) false) w' = .ok (.int .i64 OW) w') ∧ Below W0.heap.size W0 w')
              (first | with_reducible exact ⟨g0, g1, g2, g3, g4, g5, g6, g7, g8⟩ | with_reducible exact HK.out _ (below_ad hV0 hV0.size _) | with_reducible exact HK.out _ (by with_reducible assumption) | with_reducible exact HK.out _ (Below.alloc (by with_reducible assumption) (Below.size (by with_reducible assumption)) _) | with_reducible exact HK.out _ (set4' (by with_reducible assumption) hV0.size _ _ _ _))
              (first
                | (go_at_call 46; refine (hfind _ (by with_reducible exact g8)).mono ?_; rintro en w1 ⟨rfl, hb1⟩; have g3' : Below W0.heap.size W0 w1 := (by with_reducible exact grow_plain (V := W0) hV0 hV0.size hb1); obtain ⟨k0, k1, k2, k3, k4, k5, k6, k7, k8⟩ := HK.out w1 g3'; clear g3' hfind)
                | (go_at_call 46; refine (hfind _ (by with_reducible exact below_ad hV0 hV0.size _)).mono ?_; rintro en w1 ⟨rfl, hb1⟩; have gp : Below W0.heap.size W0 w1 ∧ w1.heap[W0.heap.size]? = some (.cells noBox 65 (0, 0)) := (by with_reducible exact grow_past (V := W0) hV0 hV0.size hb1); obtain ⟨g3', hbx⟩ := gp; obtain ⟨k0, k1, k2, k3, k4, k5, k6, k7, k8⟩ := HK.out w1 g3'; obtain ⟨hbk, hbk1, hbk2, hbk3, hbf, hbf1, hbf2, hbf3⟩ := box_facts hbx; clear g3' hfind))
            all_goals first
              | (have hX := box_set hbx a
                 have hB2 := set4 k8 (p := ⟨W0.heap.size, 0, none⟩) (q := ⟨W0.heap.size, 1, none⟩) (r := ⟨W0.heap.size, 2, none⟩) (s := ⟨W0.heap.size, 3, none⟩) hV0.size hV0.size hV0.size hV0.size (.string a.name) (.int .i64 a.typ) (.int .i64 a.opened) (.bool a.closed)
                 obtain ⟨W2, hW2_⟩ : ∃ W2, (((w1.setCell ⟨W0.heap.size, 0, none⟩ (.string a.name)).setCell ⟨W0.heap.size, 1, none⟩ (.int .i64 a.typ)).setCell ⟨W0.heap.size, 2, none⟩ (.int .i64 a.opened)).setCell ⟨W0.heap.size, 3, none⟩ (.bool a.closed) = W2 := ⟨_, rfl⟩
                 rw [hW2_] at hX hB2 ⊢
                 clear hW2_
                 obtain ⟨yb, hxb_⟩ : ∃ yb, W0.heap.size = yb := ⟨_, rfl⟩
                 rw [hxb_] at hX
                 simp only [hxb_]
                 clear hxb_)
              | (have hX := World.alloc_heap_new w1 (.cells #[.string a.name, .int .i64 a.typ, .int .i64 a.opened, .bool a.closed] 65)
                 have hB2 := k8.alloc k8.size (.cells #[.string a.name, .int .i64 a.typ, .int .i64 a.opened, .bool a.closed] 65)
                 obtain ⟨W2, hW2_⟩ : ∃ W2, w1.alloc (.cells #[.string a.name, .int .i64 a.typ, .int .i64 a.opened, .bool a.closed] 65) = W2 := ⟨_, rfl⟩
                 rw [hW2_] at hX hB2 ⊢
                 clear hW2_
                 obtain ⟨yb, hxb_⟩ : ∃ yb, w1.heap.size = yb := ⟨_, rfl⟩
                 rw [hxb_] at hX
                 simp only [hxb_]
                 clear hxb_)
            all_goals
              have hx3 : W2.cell? ⟨yb, 3, none⟩ = some (.bool false) := by rw [(box_cells hX).2.2.2, HCL.out]
              have hxy : W2.cell? ⟨yb, 2, none⟩ = some (.int .i64 a.opened) := (box_cells hX).2.2.1
              have hyl := heap_lt hX
              have HXY := Lib.hid hxy
              clear hX hxy
              go_wp2
              obtain ⟨q0, q1, q2, q3, q4, q5, q6, q7, q8⟩ := HK.out W2.drew hB2.drew
              refine wp_region_held_drew (S := fun w' => w'.cell? ⟨bb, 1, none⟩ = some (.pointer (some ⟨cb, 0, none⟩)) ∧ w'.cell? ⟨xb, 0, none⟩ = some (.pointer (some ⟨eb, 0, none⟩)) ∧ w'.cell? ⟨eb, 3, none⟩ = some (.string e.account) ∧ w'.cell? ⟨eb, 1, none⟩ = some (.int .i64 e.day) ∧ w'.cell? ⟨bb, 5, none⟩ = some (.map (some mO)) ∧ w'.cell? ⟨bb, 6, none⟩ = some (.map (some mL)) ∧ w'.cell? ⟨bb, 10, none⟩ = some (.slice oA oN oC) ∧ (Sem.run Tryz.prog (Instr.lookup 74 (.map (some mO)) (.string e.account) false) w' = .ok (.int .i64 OW) w') ∧ Below W0.heap.size W0 w') (by kernel_rfl) ⟨q0, q1, q2, q3, q4, q5, q6, q7, q8⟩ (fun hHeld => ?_)
              refine wpAnyH_take (i := 0) (v := ?_) rfl (by kernel_rfl) (by kernel_rfl) (by kernel_rfl) (fun _ _ _ h => h) (Or.inl ⟨by kernel_rfl, ?y0⟩) (by assumption) ?_
              case y0 =>
                intro w0 hSw
                (try dsimp only at hSw)
                go_simp
                try with_reducible rfl
              try simp only [Act.put, qa10, qb10, qc10, qd10, qe10, qf10]
              refine wpAnyH_take (i := 1) (v := ?_) rfl (by kernel_rfl) (by kernel_rfl) (by kernel_rfl) (fun _ _ _ h => h) (Or.inl ⟨by kernel_rfl, ?y1⟩) (by assumption) ?_
              case y1 =>
                intro w0 hSw
                (try dsimp only at hSw)
                go_simp
                try with_reducible rfl
              try simp only [Act.put, qa10, qb10, qc10, qd10, qe10, qf10]
              refine wpAnyH_take (i := 2) (v := ?_) rfl (by kernel_rfl) (by kernel_rfl) (by kernel_rfl) (fun _ _ _ h => h) (Or.inl ⟨by kernel_rfl, ?y2⟩) (by assumption) ?_
              case y2 =>
                intro w0 hSw
                (try dsimp only at hSw)
                go_simp
                try with_reducible rfl
              try simp only [Act.put, qa10, qb10, qc10, qd10, qe10, qf10]
              refine wpAnyH_take (i := 3) (v := ?_) rfl (by kernel_rfl) (by kernel_rfl) (by kernel_rfl) (fun _ _ _ h => h) (Or.inl ⟨by kernel_rfl, ?y3⟩) (by assumption) ?_
              case y3 =>
                intro w0 hSw
                (try dsimp only at hSw)
                go_simp
                try with_reducible rfl
              try simp only [Act.put, qa10, qb10, qc10, qd10, qe10, qf10]
              refine wpAnyH_take (i := 4) (v := ?_) rfl (by kernel_rfl) (by kernel_rfl) (by kernel_rfl) (fun _ _ _ h => h) (Or.inl ⟨by kernel_rfl, ?y4⟩) (by assumption) ?_
              case y4 =>
                intro w0 hSw
                (try dsimp only at hSw)
                go_simp
                try with_reducible rfl
              try simp only [Act.put, qa10, qb10, qc10, qd10, qe10, qf10]
              refine wpAnyH_take (i := 5) (v := ?_) rfl (by kernel_rfl) (by kernel_rfl) (by kernel_rfl) (fun _ _ _ h => h) (Or.inl ⟨by kernel_rfl, ?y5⟩) (by assumption) ?_
              case y5 =>
                intro w0 hSw
                (try dsimp only at hSw)
                go_simp
                try with_reducible rfl
              try simp only [Act.put, qa10, qb10, qc10, qd10, qe10, qf10]
              refine wpAnyH_take (i := 6) (v := ?_) rfl (by kernel_rfl) (by kernel_rfl) (by kernel_rfl) (fun _ _ _ h => h) (Or.inl ⟨by kernel_rfl, ?y6⟩) (by assumption) ?_
              case y6 =>
                intro w0 hSw
                (try dsimp only at hSw)
                go_simp
                try with_reducible rfl
              try simp only [Act.put, qa10, qb10, qc10, qd10, qe10, qf10]
              refine wpAnyH_take (i := 7) (v := ?_) rfl (by kernel_rfl) (by kernel_rfl) (by kernel_rfl) (fun _ _ _ h => h) (Or.inl ⟨by kernel_rfl, ?y7⟩) (by assumption) ?_
              case y7 =>
                intro w0 hSw
                (try dsimp only at hSw)
                go_simp
                try with_reducible rfl
              try simp only [Act.put, qa10, qb10, qc10, qd10, qe10, qf10]
              refine wpAnyH_take (i := 9) (v := ?_) rfl (by kernel_rfl) (by kernel_rfl) (by kernel_rfl) (fun _ _ _ h => h) (Or.inl ⟨by kernel_rfl, ?y9⟩) (by assumption) ?_
              case y9 =>
                intro w0 hSw
                (try dsimp only at hSw)
                go_simp
                try with_reducible rfl
              try simp only [Act.put, qa10, qb10, qc10, qd10, qe10, qf10]
              refine wpAnyH_take (i := 10) (v := ?_) rfl (by kernel_rfl) (by kernel_rfl) (by kernel_rfl) (fun _ _ _ h => h) (Or.inl ⟨by kernel_rfl, ?y10⟩) (by assumption) ?_
              case y10 =>
                intro w0 hSw
                (try dsimp only at hSw)
                go_simp
                try with_reducible rfl
              try simp only [Act.put, qa10, qb10, qc10, qd10, qe10, qf10]
              refine wpAnyH_ready (rs := [8]) (by kernel_rfl) (by simp) (AllReadyH.cons rfl (fun K hK => ?_) AllReadyH.nil)
              go_simp
              go_at_call 90; refine (hkids _ q8).mono ?_; rintro en w3 ⟨kv, rfl, hown, hb3⟩; have hcon := hcont w3 (q8.trans (hb3.mono q8.size)) kv _ hown; obtain ⟨kA, kC, hkv⟩ : ∃ kA kC, kv = .slice kA KL.length kC := (by rcases hown.2 with ⟨h1, h2⟩ | ⟨g, cap, cur, h1, _⟩; exact ⟨none, 0, by rw [h1, h2]⟩; exact ⟨_, _, h1⟩); subst hkv; clear hkids; have qb := q8.trans (hb3.mono q8.size); have QK := HK.out _ qb; clear q0 q1 q2 q3 q4 q5 q6 q7 q8 qb; obtain ⟨q0, q1, q2, q3, q4, q5, q6, q7, q8⟩ := QK
              go_wp2_with fail
              refine hK.out _ _ ⟨q0, q1, q2, q3, q4, q5, q6, q7, q8⟩ (fun hHeld => ?_)
              clear hK K
              try simp only [Act.put, qa10, qb10, qc10, qd10, qe10, qf10]
              refine wpAnyH_ready (rs := [11]) (by kernel_rfl) (by simp) (AllReadyH.cons rfl (fun K hK => ?_) AllReadyH.nil)
              go_simp
              go_at_call 89; refine hcon.mono ?_; rintro en w4 ⟨rfl, hb4⟩; clear hcon hown; have qb := q8.trans (hb4.mono q8.size); have QK := HK.out _ qb; clear q0 q1 q2 q3 q4 q5 q6 q7 q8 qb; obtain ⟨q0, q1, q2, q3, q4, q5, q6, q7, q8⟩ := QK
              go_wp2_with fail
              refine hK.out _ _ ⟨q0, q1, q2, q3, q4, q5, q6, q7, q8⟩ (fun hHeld => ?_)
              clear hK K
              try simp only [Act.put, qa10, qb10, qc10, qd10, qe10, qf10]
              refine wpAnyH_take (i := 12) (v := ?_) rfl (by kernel_rfl) (by kernel_rfl) (by kernel_rfl) (fun _ _ _ h => h) (Or.inl ⟨by kernel_rfl, ?y12⟩) (by assumption) ?_
              case y12 =>
                intro w0 hSw
                (try dsimp only at hSw)
                go_simp
                try with_reducible rfl
              try simp only [Act.put, qa10, qb10, qc10, qd10, qe10, qf10]
              refine wpAnyH_take (i := 13) (v := ?_) rfl (by kernel_rfl) (by kernel_rfl) (by kernel_rfl) (fun _ _ _ h => h) (Or.inl ⟨by kernel_rfl, ?y13⟩) (by assumption) ?_
              case y13 =>
                intro w0 hSw
                (try dsimp only at hSw)
                go_simp
                try with_reducible rfl
              try simp only [Act.put, qa10, qb10, qc10, qd10, qe10, qf10]
              refine wpAnyH_take (i := 14) (v := ?_) rfl (by kernel_rfl) (by kernel_rfl) (by kernel_rfl) (fun _ _ _ h => h) (Or.inl ⟨by kernel_rfl, ?y14⟩) (by assumption) ?_
              case y14 =>
                intro w0 hSw
                (try dsimp only at hSw)
                go_simp
                try with_reducible rfl
              try simp only [Act.put, qa10, qb10, qc10, qd10, qe10, qf10]
              refine wpAnyH_take (i := 15) (v := ?_) rfl (by kernel_rfl) (by kernel_rfl) (by kernel_rfl) (fun _ _ _ h => h) (Or.inl ⟨by kernel_rfl, ?y15⟩) (by assumption) ?_
              case y15 =>
                intro w0 hSw
                (try dsimp only at hSw)
                go_simp
                try with_reducible rfl
              try simp only [Act.put, qa10, qb10, qc10, qd10, qe10, qf10]
              refine wpAnyH_take (i := 16) (v := ?_) rfl (by kernel_rfl) (by kernel_rfl) (by kernel_rfl) (fun _ _ _ h => h) (Or.inl ⟨by kernel_rfl, ?y16⟩) (by assumption) ?_
              case y16 =>
                intro w0 hSw
                (try dsimp only at hSw)
                go_simp
                try with_reducible rfl
              try simp only [Act.put, qa10, qb10, qc10, qd10, qe10, qf10]
              refine wpAnyH_take (i := 17) (v := ?_) rfl (by kernel_rfl) (by kernel_rfl) (by kernel_rfl) (fun _ _ _ h => h) (Or.inl ⟨by kernel_rfl, ?y17⟩) (by assumption) ?_
              case y17 =>
                intro w0 hSw
                (try dsimp only at hSw)
                go_simp
                try with_reducible rfl
              try simp only [Act.put, qa10, qb10, qc10, qd10, qe10, qf10]
              refine wpAnyH_take (i := 18) (v := ?_) rfl (by kernel_rfl) (by kernel_rfl) (by kernel_rfl) (fun _ _ _ h => h) (Or.inl ⟨by kernel_rfl, ?y18⟩) (by assumption) ?_
              case y18 =>
                intro w0 hSw
                (try dsimp only at hSw)
                go_simp
                try with_reducible rfl
              try simp only [Act.put, qa10, qb10, qc10, qd10, qe10, qf10]
              refine wpAnyH_take (i := 19) (v := ?_) rfl (by kernel_rfl) (by kernel_rfl) (by kernel_rfl) (fun _ _ _ h => h) (Or.inl ⟨by kernel_rfl, ?y19⟩) (by assumption) ?_
              case y19 =>
                intro w0 hSw
                (try dsimp only at hSw)
                go_simp
                try with_reducible rfl
              try simp only [Act.put, qa10, qb10, qc10, qd10, qe10, qf10]
              refine wpAnyH_take (i := 20) (v := ?_) rfl (by kernel_rfl) (by kernel_rfl) (by kernel_rfl) (fun _ _ _ h => h) (Or.inl ⟨by kernel_rfl, ?y20⟩) (by assumption) ?_
              case y20 =>
                intro w0 hSw
                (try dsimp only at hSw)
                go_simp
                try with_reducible rfl
              try simp only [Act.put, qa10, qb10, qc10, qd10, qe10, qf10]
              refine wpAnyH_take (i := 21) (v := ?_) rfl (by kernel_rfl) (by kernel_rfl) (by kernel_rfl) (fun _ _ _ h => h) (Or.inl ⟨by kernel_rfl, ?y21⟩) (by assumption) ?_
              case y21 =>
                intro w0 hSw
                (try dsimp only at hSw)
                go_simp
                try with_reducible rfl
              try simp only [Act.put, qa10, qb10, qc10, qd10, qe10, qf10]
              refine wpAnyH_take (i := 22) (v := ?_) rfl (by kernel_rfl) (by kernel_rfl) (by kernel_rfl) (fun _ _ _ h => h) (Or.inl ⟨by kernel_rfl, ?y22⟩) (by assumption) ?_
              case y22 =>
                intro w0 hSw
                (try dsimp only at hSw)
                go_simp
                try with_reducible rfl
              try simp only [Act.put, qa10, qb10, qc10, qd10, qe10, qf10]
              refine wpAnyH_take (i := 23) (v := ?_) rfl (by kernel_rfl) (by kernel_rfl) (by kernel_rfl) (fun _ _ _ h => h) (Or.inl ⟨by kernel_rfl, ?y23⟩) (by assumption) ?_
              case y23 =>
                intro w0 hSw
                (try dsimp only at hSw)
                go_simp
                try with_reducible rfl
              try simp only [Act.put, qa10, qb10, qc10, qd10, qe10, qf10]
              refine wpAnyH_take (i := 24) (v := ?_) rfl (by kernel_rfl) (by kernel_rfl) (by kernel_rfl) (fun _ _ _ h => h) (Or.inl ⟨by kernel_rfl, ?y24⟩) (by assumption) ?_
              case y24 =>
                intro w0 hSw
                (try dsimp only at hSw)
                go_simp
                try with_reducible rfl
              try simp only [Act.put, qa10, qb10, qc10, qd10, qe10, qf10]
              refine wpAnyH_take (i := 25) (v := ?_) rfl (by kernel_rfl) (by kernel_rfl) (by kernel_rfl) (fun _ _ _ h => h) (Or.inl ⟨by kernel_rfl, ?y25⟩) (by assumption) ?_
              case y25 =>
                intro w0 hSw
                (try dsimp only at hSw)
                go_simp
                try with_reducible rfl
              try simp only [Act.put, qa10, qb10, qc10, qd10, qe10, qf10]
              refine wpAnyH_take (i := 26) (v := ?_) rfl (by kernel_rfl) (by kernel_rfl) (by kernel_rfl) (fun _ _ _ h => h) (Or.inl ⟨by kernel_rfl, ?y26⟩) (by assumption) ?_
              case y26 =>
                intro w0 hSw
                (try dsimp only at hSw)
                go_simp
                try with_reducible rfl
              try simp only [Act.put, qa10, qb10, qc10, qd10, qe10, qf10]
              refine wpAnyH_take (i := 27) (v := ?_) rfl (by kernel_rfl) (by kernel_rfl) (by kernel_rfl) (fun _ _ _ h => h) (Or.inl ⟨by kernel_rfl, ?y27⟩) (by assumption) ?_
              case y27 =>
                intro w0 hSw
                (try dsimp only at hSw)
                go_simp
                try with_reducible rfl
              try simp only [Act.put, qa10, qb10, qc10, qd10, qe10, qf10]
              refine wpAnyH_take (i := 28) (v := ?_) rfl (by kernel_rfl) (by kernel_rfl) (by kernel_rfl) (fun _ _ _ h => h) (Or.inl ⟨by kernel_rfl, ?y28⟩) (by assumption) ?_
              case y28 =>
                intro w0 hSw
                (try dsimp only at hSw)
                go_simp
                try with_reducible rfl
              try simp only [Act.put, qa10, qb10, qc10, qd10, qe10, qf10]
              refine wpAnyH_take (i := 29) (v := ?_) rfl (by kernel_rfl) (by kernel_rfl) (by kernel_rfl) (fun _ _ _ h => h) (Or.inl ⟨by kernel_rfl, ?y29⟩) (by assumption) ?_
              case y29 =>
                intro w0 hSw
                (try dsimp only at hSw)
                go_simp
                try with_reducible rfl
              try simp only [Act.put, qa10, qb10, qc10, qd10, qe10, qf10]
              refine wpAnyH_ready (rs := [30]) (by kernel_rfl) (by simp) (AllReadyH.cons rfl (fun K hK => ?_) AllReadyH.nil)
              go_simp
              go_at_call 92; refine (howes _ q8).mono ?_; rintro en w5 ⟨rfl, hb5⟩; have belW2 : Below W2.heap.size W2 w5 := (((Below.refl _ _).drew.trans hb3).trans (hb4.mono hb3.size)).trans (hb5.mono (Nat.le_trans hb3.size hb4.size)); have qb := q8.trans (hb5.mono q8.size); have QK := HK.out _ qb; clear q0 q1 q2 q3 q4 q5 q6 q7 q8 qb; obtain ⟨q0, q1, q2, q3, q4, q5, q6, q7, q8⟩ := QK
              go_wp2_with fail
              refine hK.out _ _ ⟨q0, q1, q2, q3, q4, q5, q6, q7, q8⟩ (fun hHeld => ?_)
              clear hK K
              try simp only [Act.put, qa10, qb10, qc10, qd10, qe10, qf10]
              refine wpAnyH_take (i := 31) (v := ?_) rfl (by kernel_rfl) (by kernel_rfl) (by kernel_rfl) (fun _ _ _ h => h) (Or.inl ⟨by kernel_rfl, ?y31⟩) (by assumption) ?_
              case y31 =>
                intro w0 hSw
                (try dsimp only at hSw)
                go_simp
                try with_reducible rfl
              try simp only [Act.put, qa10, qb10, qc10, qd10, qe10, qf10]
              refine wpAnyH_take (i := 32) (v := ?_) rfl (by kernel_rfl) (by kernel_rfl) (by kernel_rfl) (fun _ _ _ h => h) (Or.inl ⟨by kernel_rfl, ?y32⟩) (by assumption) ?_
              case y32 =>
                intro w0 hSw
                (try dsimp only at hSw)
                go_simp
                try with_reducible rfl
              try simp only [Act.put, qa10, qb10, qc10, qd10, qe10, qf10]
              refine wpAnyH_done (by kernel_rfl) ?_ _
              go_wp2
              go_ret
              exact ⟨rfl, hBK _ q8⟩
          | false =>
            simp only [Bool.or_self, Bool.false_eq_true, if_false]
            by_cases d1 : e.day < a.opened
            · rw [if_pos (Or.inl d1)]
              go_enter Tryz.func59, Tryz.ntmps59
              go_wp2
              try rw [hW0]
              try simp only [hxb]
              go_region_held3 (fun w' => w'.cell? ⟨bb, 1, none⟩ = some (.pointer (some ⟨cb, 0, none⟩)) ∧ w'.cell? ⟨xb, 0, none⟩ = some (.pointer (some ⟨eb, 0, none⟩)) ∧ w'.cell? ⟨eb, 3, none⟩ = some (.string e.account) ∧ w'.cell? ⟨eb, 1, none⟩ = some (.int .i64 e.day) ∧ w'.cell? ⟨bb, 5, none⟩ = some (.map (some mO)) ∧ w'.cell? ⟨bb, 6, none⟩ = some (.map (some mL)) ∧ w'.cell? ⟨bb, 10, none⟩ = some (.slice oA oN oC) ∧ (Sem.run Tryz.prog (Instr.lookup 74 (.map (some mO)) (.string e.account) false) w' = .ok (.int .i64 OW) w') ∧ Below W0.heap.size W0 w')
                (first | with_reducible exact ⟨g0, g1, g2, g3, g4, g5, g6, g7, g8⟩ | with_reducible exact HK.out _ (below_ad hV0 hV0.size _) | with_reducible exact HK.out _ (by with_reducible assumption) | with_reducible exact HK.out _ (Below.alloc (by with_reducible assumption) (Below.size (by with_reducible assumption)) _) | with_reducible exact HK.out _ (set4' (by with_reducible assumption) hV0.size _ _ _ _))
                (first
                  | (go_at_call 46; refine (hfind _ (by with_reducible exact g8)).mono ?_; rintro en w1 ⟨rfl, hb1⟩; have g3' : Below W0.heap.size W0 w1 := (by with_reducible exact grow_plain (V := W0) hV0 hV0.size hb1); obtain ⟨k0, k1, k2, k3, k4, k5, k6, k7, k8⟩ := HK.out w1 g3'; clear g3' hfind)
                  | (go_at_call 46; refine (hfind _ (by with_reducible exact below_ad hV0 hV0.size _)).mono ?_; rintro en w1 ⟨rfl, hb1⟩; have gp : Below W0.heap.size W0 w1 ∧ w1.heap[W0.heap.size]? = some (.cells noBox 65 (0, 0)) := (by with_reducible exact grow_past (V := W0) hV0 hV0.size hb1); obtain ⟨g3', hbx⟩ := gp; obtain ⟨k0, k1, k2, k3, k4, k5, k6, k7, k8⟩ := HK.out w1 g3'; obtain ⟨hbk, hbk1, hbk2, hbk3, hbf, hbf1, hbf2, hbf3⟩ := box_facts hbx; clear g3' hfind))
              all_goals first
                | (have hX := box_set hbx a
                   have hB2 := set4 k8 (p := ⟨W0.heap.size, 0, none⟩) (q := ⟨W0.heap.size, 1, none⟩) (r := ⟨W0.heap.size, 2, none⟩) (s := ⟨W0.heap.size, 3, none⟩) hV0.size hV0.size hV0.size hV0.size (.string a.name) (.int .i64 a.typ) (.int .i64 a.opened) (.bool a.closed)
                   obtain ⟨W2, hW2_⟩ : ∃ W2, (((w1.setCell ⟨W0.heap.size, 0, none⟩ (.string a.name)).setCell ⟨W0.heap.size, 1, none⟩ (.int .i64 a.typ)).setCell ⟨W0.heap.size, 2, none⟩ (.int .i64 a.opened)).setCell ⟨W0.heap.size, 3, none⟩ (.bool a.closed) = W2 := ⟨_, rfl⟩
                   rw [hW2_] at hX hB2 ⊢
                   clear hW2_
                   obtain ⟨yb, hxb_⟩ : ∃ yb, W0.heap.size = yb := ⟨_, rfl⟩
                   rw [hxb_] at hX
                   simp only [hxb_]
                   clear hxb_)
                | (have hX := World.alloc_heap_new w1 (.cells #[.string a.name, .int .i64 a.typ, .int .i64 a.opened, .bool a.closed] 65)
                   have hB2 := k8.alloc k8.size (.cells #[.string a.name, .int .i64 a.typ, .int .i64 a.opened, .bool a.closed] 65)
                   obtain ⟨W2, hW2_⟩ : ∃ W2, w1.alloc (.cells #[.string a.name, .int .i64 a.typ, .int .i64 a.opened, .bool a.closed] 65) = W2 := ⟨_, rfl⟩
                   rw [hW2_] at hX hB2 ⊢
                   clear hW2_
                   obtain ⟨yb, hxb_⟩ : ∃ yb, w1.heap.size = yb := ⟨_, rfl⟩
                   rw [hxb_] at hX
                   simp only [hxb_]
                   clear hxb_)
              all_goals
                have hx3 : W2.cell? ⟨yb, 3, none⟩ = some (.bool false) := by rw [(box_cells hX).2.2.2, HCL.out]
                have hxy : W2.cell? ⟨yb, 2, none⟩ = some (.int .i64 a.opened) := (box_cells hX).2.2.1
                have hyl := heap_lt hX
                have HXY := Lib.hid hxy
                clear hX hxy
                go_wp2
                obtain ⟨q0, q1, q2, q3, q4, q5, q6, q7, q8⟩ := HK.out W2.drew hB2.drew
                refine wp_region_held_drew (S := fun w' => w'.cell? ⟨bb, 1, none⟩ = some (.pointer (some ⟨cb, 0, none⟩)) ∧ w'.cell? ⟨xb, 0, none⟩ = some (.pointer (some ⟨eb, 0, none⟩)) ∧ w'.cell? ⟨eb, 3, none⟩ = some (.string e.account) ∧ w'.cell? ⟨eb, 1, none⟩ = some (.int .i64 e.day) ∧ w'.cell? ⟨bb, 5, none⟩ = some (.map (some mO)) ∧ w'.cell? ⟨bb, 6, none⟩ = some (.map (some mL)) ∧ w'.cell? ⟨bb, 10, none⟩ = some (.slice oA oN oC) ∧ (Sem.run Tryz.prog (Instr.lookup 74 (.map (some mO)) (.string e.account) false) w' = .ok (.int .i64 OW) w') ∧ Below W0.heap.size W0 w') (by kernel_rfl) ⟨q0, q1, q2, q3, q4, q5, q6, q7, q8⟩ (fun hHeld => ?_)
                refine wpAnyH_take (i := 0) (v := ?_) rfl (by kernel_rfl) (by kernel_rfl) (by kernel_rfl) (fun _ _ _ h => h) (Or.inl ⟨by kernel_rfl, ?y0⟩) (by assumption) ?_
                case y0 =>
                  intro w0 hSw
                  (try dsimp only at hSw)
                  go_simp
                  try with_reducible rfl
                try simp only [Act.put, qa10, qb10, qc10, qd10, qe10, qf10]
                refine wpAnyH_take (i := 1) (v := ?_) rfl (by kernel_rfl) (by kernel_rfl) (by kernel_rfl) (fun _ _ _ h => h) (Or.inl ⟨by kernel_rfl, ?y1⟩) (by assumption) ?_
                case y1 =>
                  intro w0 hSw
                  (try dsimp only at hSw)
                  go_simp
                  try with_reducible rfl
                try simp only [Act.put, qa10, qb10, qc10, qd10, qe10, qf10]
                refine wpAnyH_take (i := 2) (v := ?_) rfl (by kernel_rfl) (by kernel_rfl) (by kernel_rfl) (fun _ _ _ h => h) (Or.inl ⟨by kernel_rfl, ?y2⟩) (by assumption) ?_
                case y2 =>
                  intro w0 hSw
                  (try dsimp only at hSw)
                  go_simp
                  try with_reducible rfl
                try simp only [Act.put, qa10, qb10, qc10, qd10, qe10, qf10]
                refine wpAnyH_take (i := 3) (v := ?_) rfl (by kernel_rfl) (by kernel_rfl) (by kernel_rfl) (fun _ _ _ h => h) (Or.inl ⟨by kernel_rfl, ?y3⟩) (by assumption) ?_
                case y3 =>
                  intro w0 hSw
                  (try dsimp only at hSw)
                  go_simp
                  try with_reducible rfl
                try simp only [Act.put, qa10, qb10, qc10, qd10, qe10, qf10]
                refine wpAnyH_take (i := 4) (v := ?_) rfl (by kernel_rfl) (by kernel_rfl) (by kernel_rfl) (fun _ _ _ h => h) (Or.inl ⟨by kernel_rfl, ?y4⟩) (by assumption) ?_
                case y4 =>
                  intro w0 hSw
                  (try dsimp only at hSw)
                  go_simp
                  try with_reducible rfl
                try simp only [Act.put, qa10, qb10, qc10, qd10, qe10, qf10]
                refine wpAnyH_take (i := 5) (v := ?_) rfl (by kernel_rfl) (by kernel_rfl) (by kernel_rfl) (fun _ _ _ h => h) (Or.inl ⟨by kernel_rfl, ?y5⟩) (by assumption) ?_
                case y5 =>
                  intro w0 hSw
                  (try dsimp only at hSw)
                  go_simp
                  try with_reducible rfl
                try simp only [Act.put, qa10, qb10, qc10, qd10, qe10, qf10]
                refine wpAnyH_take (i := 6) (v := ?_) rfl (by kernel_rfl) (by kernel_rfl) (by kernel_rfl) (fun _ _ _ h => h) (Or.inl ⟨by kernel_rfl, ?y6⟩) (by assumption) ?_
                case y6 =>
                  intro w0 hSw
                  (try dsimp only at hSw)
                  go_simp
                  try with_reducible rfl
                try simp only [Act.put, qa10, qb10, qc10, qd10, qe10, qf10]
                refine wpAnyH_take (i := 7) (v := ?_) rfl (by kernel_rfl) (by kernel_rfl) (by kernel_rfl) (fun _ _ _ h => h) (Or.inl ⟨by kernel_rfl, ?y7⟩) (by assumption) ?_
                case y7 =>
                  intro w0 hSw
                  (try dsimp only at hSw)
                  go_simp
                  try with_reducible rfl
                try simp only [Act.put, qa10, qb10, qc10, qd10, qe10, qf10]
                refine wpAnyH_take (i := 9) (v := ?_) rfl (by kernel_rfl) (by kernel_rfl) (by kernel_rfl) (fun _ _ _ h => h) (Or.inl ⟨by kernel_rfl, ?y9⟩) (by assumption) ?_
                case y9 =>
                  intro w0 hSw
                  (try dsimp only at hSw)
                  go_simp
                  try with_reducible rfl
                try simp only [Act.put, qa10, qb10, qc10, qd10, qe10, qf10]
                refine wpAnyH_take (i := 10) (v := ?_) rfl (by kernel_rfl) (by kernel_rfl) (by kernel_rfl) (fun _ _ _ h => h) (Or.inl ⟨by kernel_rfl, ?y10⟩) (by assumption) ?_
                case y10 =>
                  intro w0 hSw
                  (try dsimp only at hSw)
                  go_simp
                  try with_reducible rfl
                try simp only [Act.put, qa10, qb10, qc10, qd10, qe10, qf10]
                refine wpAnyH_ready (rs := [8]) (by kernel_rfl) (by simp) (AllReadyH.cons rfl (fun K hK => ?_) AllReadyH.nil)
                go_simp
                go_at_call 90; refine (hkids _ q8).mono ?_; rintro en w3 ⟨kv, rfl, hown, hb3⟩; have hcon := hcont w3 (q8.trans (hb3.mono q8.size)) kv _ hown; obtain ⟨kA, kC, hkv⟩ : ∃ kA kC, kv = .slice kA KL.length kC := (by rcases hown.2 with ⟨h1, h2⟩ | ⟨g, cap, cur, h1, _⟩; exact ⟨none, 0, by rw [h1, h2]⟩; exact ⟨_, _, h1⟩); subst hkv; clear hkids; have qb := q8.trans (hb3.mono q8.size); have QK := HK.out _ qb; clear q0 q1 q2 q3 q4 q5 q6 q7 q8 qb; obtain ⟨q0, q1, q2, q3, q4, q5, q6, q7, q8⟩ := QK
                go_wp2_with fail
                refine hK.out _ _ ⟨q0, q1, q2, q3, q4, q5, q6, q7, q8⟩ (fun hHeld => ?_)
                clear hK K
                try simp only [Act.put, qa10, qb10, qc10, qd10, qe10, qf10]
                refine wpAnyH_ready (rs := [11]) (by kernel_rfl) (by simp) (AllReadyH.cons rfl (fun K hK => ?_) AllReadyH.nil)
                go_simp
                go_at_call 89; refine hcon.mono ?_; rintro en w4 ⟨rfl, hb4⟩; clear hcon hown; have qb := q8.trans (hb4.mono q8.size); have QK := HK.out _ qb; clear q0 q1 q2 q3 q4 q5 q6 q7 q8 qb; obtain ⟨q0, q1, q2, q3, q4, q5, q6, q7, q8⟩ := QK
                go_wp2_with fail
                refine hK.out _ _ ⟨q0, q1, q2, q3, q4, q5, q6, q7, q8⟩ (fun hHeld => ?_)
                clear hK K
                try simp only [Act.put, qa10, qb10, qc10, qd10, qe10, qf10]
                refine wpAnyH_take (i := 12) (v := ?_) rfl (by kernel_rfl) (by kernel_rfl) (by kernel_rfl) (fun _ _ _ h => h) (Or.inl ⟨by kernel_rfl, ?y12⟩) (by assumption) ?_
                case y12 =>
                  intro w0 hSw
                  (try dsimp only at hSw)
                  go_simp
                  try with_reducible rfl
                try simp only [Act.put, qa10, qb10, qc10, qd10, qe10, qf10]
                refine wpAnyH_take (i := 13) (v := ?_) rfl (by kernel_rfl) (by kernel_rfl) (by kernel_rfl) (fun _ _ _ h => h) (Or.inl ⟨by kernel_rfl, ?y13⟩) (by assumption) ?_
                case y13 =>
                  intro w0 hSw
                  (try dsimp only at hSw)
                  go_simp
                  try with_reducible rfl
                try simp only [Act.put, qa10, qb10, qc10, qd10, qe10, qf10]
                refine wpAnyH_take (i := 14) (v := ?_) rfl (by kernel_rfl) (by kernel_rfl) (by kernel_rfl) (fun _ _ _ h => h) (Or.inl ⟨by kernel_rfl, ?y14⟩) (by assumption) ?_
                case y14 =>
                  intro w0 hSw
                  (try dsimp only at hSw)
                  go_simp
                  try with_reducible rfl
                try simp only [Act.put, qa10, qb10, qc10, qd10, qe10, qf10]
                refine wpAnyH_take (i := 15) (v := ?_) rfl (by kernel_rfl) (by kernel_rfl) (by kernel_rfl) (fun _ _ _ h => h) (Or.inl ⟨by kernel_rfl, ?y15⟩) (by assumption) ?_
                case y15 =>
                  intro w0 hSw
                  (try dsimp only at hSw)
                  go_simp
                  try with_reducible rfl
                try simp only [Act.put, qa10, qb10, qc10, qd10, qe10, qf10]
                refine wpAnyH_take (i := 16) (v := ?_) rfl (by kernel_rfl) (by kernel_rfl) (by kernel_rfl) (fun _ _ _ h => h) (Or.inl ⟨by kernel_rfl, ?y16⟩) (by assumption) ?_
                case y16 =>
                  intro w0 hSw
                  (try dsimp only at hSw)
                  go_simp
                  try with_reducible rfl
                try simp only [Act.put, qa10, qb10, qc10, qd10, qe10, qf10]
                refine wpAnyH_take (i := 17) (v := ?_) rfl (by kernel_rfl) (by kernel_rfl) (by kernel_rfl) (fun _ _ _ h => h) (Or.inl ⟨by kernel_rfl, ?y17⟩) (by assumption) ?_
                case y17 =>
                  intro w0 hSw
                  (try dsimp only at hSw)
                  go_simp
                  try with_reducible rfl
                try simp only [Act.put, qa10, qb10, qc10, qd10, qe10, qf10]
                refine wpAnyH_take (i := 18) (v := ?_) rfl (by kernel_rfl) (by kernel_rfl) (by kernel_rfl) (fun _ _ _ h => h) (Or.inl ⟨by kernel_rfl, ?y18⟩) (by assumption) ?_
                case y18 =>
                  intro w0 hSw
                  (try dsimp only at hSw)
                  go_simp
                  try with_reducible rfl
                try simp only [Act.put, qa10, qb10, qc10, qd10, qe10, qf10]
                refine wpAnyH_take (i := 19) (v := ?_) rfl (by kernel_rfl) (by kernel_rfl) (by kernel_rfl) (fun _ _ _ h => h) (Or.inl ⟨by kernel_rfl, ?y19⟩) (by assumption) ?_
                case y19 =>
                  intro w0 hSw
                  (try dsimp only at hSw)
                  go_simp
                  try with_reducible rfl
                try simp only [Act.put, qa10, qb10, qc10, qd10, qe10, qf10]
                refine wpAnyH_take (i := 20) (v := ?_) rfl (by kernel_rfl) (by kernel_rfl) (by kernel_rfl) (fun _ _ _ h => h) (Or.inl ⟨by kernel_rfl, ?y20⟩) (by assumption) ?_
                case y20 =>
                  intro w0 hSw
                  (try dsimp only at hSw)
                  go_simp
                  try with_reducible rfl
                try simp only [Act.put, qa10, qb10, qc10, qd10, qe10, qf10]
                refine wpAnyH_take (i := 21) (v := ?_) rfl (by kernel_rfl) (by kernel_rfl) (by kernel_rfl) (fun _ _ _ h => h) (Or.inl ⟨by kernel_rfl, ?y21⟩) (by assumption) ?_
                case y21 =>
                  intro w0 hSw
                  (try dsimp only at hSw)
                  go_simp
                  try with_reducible rfl
                try simp only [Act.put, qa10, qb10, qc10, qd10, qe10, qf10]
                refine wpAnyH_take (i := 22) (v := ?_) rfl (by kernel_rfl) (by kernel_rfl) (by kernel_rfl) (fun _ _ _ h => h) (Or.inl ⟨by kernel_rfl, ?y22⟩) (by assumption) ?_
                case y22 =>
                  intro w0 hSw
                  (try dsimp only at hSw)
                  go_simp
                  try with_reducible rfl
                try simp only [Act.put, qa10, qb10, qc10, qd10, qe10, qf10]
                refine wpAnyH_take (i := 23) (v := ?_) rfl (by kernel_rfl) (by kernel_rfl) (by kernel_rfl) (fun _ _ _ h => h) (Or.inl ⟨by kernel_rfl, ?y23⟩) (by assumption) ?_
                case y23 =>
                  intro w0 hSw
                  (try dsimp only at hSw)
                  go_simp
                  try with_reducible rfl
                try simp only [Act.put, qa10, qb10, qc10, qd10, qe10, qf10]
                refine wpAnyH_take (i := 24) (v := ?_) rfl (by kernel_rfl) (by kernel_rfl) (by kernel_rfl) (fun _ _ _ h => h) (Or.inl ⟨by kernel_rfl, ?y24⟩) (by assumption) ?_
                case y24 =>
                  intro w0 hSw
                  (try dsimp only at hSw)
                  go_simp
                  try with_reducible rfl
                try simp only [Act.put, qa10, qb10, qc10, qd10, qe10, qf10]
                refine wpAnyH_take (i := 25) (v := ?_) rfl (by kernel_rfl) (by kernel_rfl) (by kernel_rfl) (fun _ _ _ h => h) (Or.inl ⟨by kernel_rfl, ?y25⟩) (by assumption) ?_
                case y25 =>
                  intro w0 hSw
                  (try dsimp only at hSw)
                  go_simp
                  try with_reducible rfl
                try simp only [Act.put, qa10, qb10, qc10, qd10, qe10, qf10]
                refine wpAnyH_take (i := 26) (v := ?_) rfl (by kernel_rfl) (by kernel_rfl) (by kernel_rfl) (fun _ _ _ h => h) (Or.inl ⟨by kernel_rfl, ?y26⟩) (by assumption) ?_
                case y26 =>
                  intro w0 hSw
                  (try dsimp only at hSw)
                  go_simp
                  try with_reducible rfl
                try simp only [Act.put, qa10, qb10, qc10, qd10, qe10, qf10]
                refine wpAnyH_take (i := 27) (v := ?_) rfl (by kernel_rfl) (by kernel_rfl) (by kernel_rfl) (fun _ _ _ h => h) (Or.inl ⟨by kernel_rfl, ?y27⟩) (by assumption) ?_
                case y27 =>
                  intro w0 hSw
                  (try dsimp only at hSw)
                  go_simp
                  try with_reducible rfl
                try simp only [Act.put, qa10, qb10, qc10, qd10, qe10, qf10]
                refine wpAnyH_take (i := 28) (v := ?_) rfl (by kernel_rfl) (by kernel_rfl) (by kernel_rfl) (fun _ _ _ h => h) (Or.inl ⟨by kernel_rfl, ?y28⟩) (by assumption) ?_
                case y28 =>
                  intro w0 hSw
                  (try dsimp only at hSw)
                  go_simp
                  try with_reducible rfl
                try simp only [Act.put, qa10, qb10, qc10, qd10, qe10, qf10]
                refine wpAnyH_take (i := 29) (v := ?_) rfl (by kernel_rfl) (by kernel_rfl) (by kernel_rfl) (fun _ _ _ h => h) (Or.inl ⟨by kernel_rfl, ?y29⟩) (by assumption) ?_
                case y29 =>
                  intro w0 hSw
                  (try dsimp only at hSw)
                  go_simp
                  try with_reducible rfl
                try simp only [Act.put, qa10, qb10, qc10, qd10, qe10, qf10]
                refine wpAnyH_ready (rs := [30]) (by kernel_rfl) (by simp) (AllReadyH.cons rfl (fun K hK => ?_) AllReadyH.nil)
                go_simp
                go_at_call 92; refine (howes _ q8).mono ?_; rintro en w5 ⟨rfl, hb5⟩; have belW2 : Below W2.heap.size W2 w5 := (((Below.refl _ _).drew.trans hb3).trans (hb4.mono hb3.size)).trans (hb5.mono (Nat.le_trans hb3.size hb4.size)); have qb := q8.trans (hb5.mono q8.size); have QK := HK.out _ qb; clear q0 q1 q2 q3 q4 q5 q6 q7 q8 qb; obtain ⟨q0, q1, q2, q3, q4, q5, q6, q7, q8⟩ := QK
                go_wp2_with fail
                refine hK.out _ _ ⟨q0, q1, q2, q3, q4, q5, q6, q7, q8⟩ (fun hHeld => ?_)
                clear hK K
                try simp only [Act.put, qa10, qb10, qc10, qd10, qe10, qf10]
                refine wpAnyH_take (i := 31) (v := ?_) rfl (by kernel_rfl) (by kernel_rfl) (by kernel_rfl) (fun _ _ _ h => h) (Or.inl ⟨by kernel_rfl, ?y31⟩) (by assumption) ?_
                case y31 =>
                  intro w0 hSw
                  (try dsimp only at hSw)
                  go_simp
                  try with_reducible rfl
                try simp only [Act.put, qa10, qb10, qc10, qd10, qe10, qf10]
                refine wpAnyH_take (i := 32) (v := ?_) rfl (by kernel_rfl) (by kernel_rfl) (by kernel_rfl) (fun _ _ _ h => h) (Or.inl ⟨by kernel_rfl, ?y32⟩) (by assumption) ?_
                case y32 =>
                  intro w0 hSw
                  (try dsimp only at hSw)
                  go_simp
                  try with_reducible rfl
                try simp only [Act.put, qa10, qb10, qc10, qd10, qe10, qf10]
                refine wpAnyH_done (by kernel_rfl) ?_ _
                have hz : w5.cell? ⟨yb, 2, none⟩ = some (.int .i64 a.opened) := (belW2.cell (p := ⟨yb, 2, none⟩) hyl).trans HXY.out
                go_wp2
                go_quiet (fail)
                go_wp2
                go_ret
                exact ⟨rfl, hBK _ (below_drewN q8 _)⟩
            · have d1' : a.opened ≤ e.day := by omega
              have d1b : decide (e.day < a.opened) = false := decide_eq_false d1
              by_cases d2 : e.day < LA
              · rw [if_pos (Or.inr d2)]
                have d2b : decide (e.day < LA) = true := decide_eq_true d2
                clear d1 d2
                go_enter Tryz.func59, Tryz.ntmps59
                go_wp2
                try rw [hW0]
                try simp only [hxb]
                go_region_held3 (fun w' => w'.cell? ⟨bb, 1, none⟩ = some (.pointer (some ⟨cb, 0, none⟩)) ∧ w'.cell? ⟨xb, 0, none⟩ = some (.pointer (some ⟨eb, 0, none⟩)) ∧ w'.cell? ⟨eb, 3, none⟩ = some (.string e.account) ∧ w'.cell? ⟨eb, 1, none⟩ = some (.int .i64 e.day) ∧ w'.cell? ⟨bb, 5, none⟩ = some (.map (some mO)) ∧ w'.cell? ⟨bb, 6, none⟩ = some (.map (some mL)) ∧ w'.cell? ⟨bb, 10, none⟩ = some (.slice oA oN oC) ∧ (Sem.run Tryz.prog (Instr.lookup 74 (.map (some mO)) (.string e.account) false) w' = .ok (.int .i64 OW) w') ∧ Below W0.heap.size W0 w')
                  (first | with_reducible exact ⟨g0, g1, g2, g3, g4, g5, g6, g7, g8⟩ | with_reducible exact HK.out _ (below_ad hV0 hV0.size _) | with_reducible exact HK.out _ (by with_reducible assumption) | with_reducible exact HK.out _ (Below.alloc (by with_reducible assumption) (Below.size (by with_reducible assumption)) _) | with_reducible exact HK.out _ (set4' (by with_reducible assumption) hV0.size _ _ _ _))
                  (first
                    | (go_at_call 46; refine (hfind _ (by with_reducible exact g8)).mono ?_; rintro en w1 ⟨rfl, hb1⟩; have g3' : Below W0.heap.size W0 w1 := (by with_reducible exact grow_plain (V := W0) hV0 hV0.size hb1); obtain ⟨k0, k1, k2, k3, k4, k5, k6, k7, k8⟩ := HK.out w1 g3'; clear g3' hfind)
                    | (go_at_call 46; refine (hfind _ (by with_reducible exact below_ad hV0 hV0.size _)).mono ?_; rintro en w1 ⟨rfl, hb1⟩; have gp : Below W0.heap.size W0 w1 ∧ w1.heap[W0.heap.size]? = some (.cells noBox 65 (0, 0)) := (by with_reducible exact grow_past (V := W0) hV0 hV0.size hb1); obtain ⟨g3', hbx⟩ := gp; obtain ⟨k0, k1, k2, k3, k4, k5, k6, k7, k8⟩ := HK.out w1 g3'; obtain ⟨hbk, hbk1, hbk2, hbk3, hbf, hbf1, hbf2, hbf3⟩ := box_facts hbx; clear g3' hfind))
                all_goals first
                  | (have hX := box_set hbx a
                     have hB2 := set4 k8 (p := ⟨W0.heap.size, 0, none⟩) (q := ⟨W0.heap.size, 1, none⟩) (r := ⟨W0.heap.size, 2, none⟩) (s := ⟨W0.heap.size, 3, none⟩) hV0.size hV0.size hV0.size hV0.size (.string a.name) (.int .i64 a.typ) (.int .i64 a.opened) (.bool a.closed)
                     obtain ⟨W2, hW2_⟩ : ∃ W2, (((w1.setCell ⟨W0.heap.size, 0, none⟩ (.string a.name)).setCell ⟨W0.heap.size, 1, none⟩ (.int .i64 a.typ)).setCell ⟨W0.heap.size, 2, none⟩ (.int .i64 a.opened)).setCell ⟨W0.heap.size, 3, none⟩ (.bool a.closed) = W2 := ⟨_, rfl⟩
                     rw [hW2_] at hX hB2 ⊢
                     clear hW2_
                     obtain ⟨yb, hxb_⟩ : ∃ yb, W0.heap.size = yb := ⟨_, rfl⟩
                     rw [hxb_] at hX
                     simp only [hxb_]
                     clear hxb_)
                  | (have hX := World.alloc_heap_new w1 (.cells #[.string a.name, .int .i64 a.typ, .int .i64 a.opened, .bool a.closed] 65)
                     have hB2 := k8.alloc k8.size (.cells #[.string a.name, .int .i64 a.typ, .int .i64 a.opened, .bool a.closed] 65)
                     obtain ⟨W2, hW2_⟩ : ∃ W2, w1.alloc (.cells #[.string a.name, .int .i64 a.typ, .int .i64 a.opened, .bool a.closed] 65) = W2 := ⟨_, rfl⟩
                     rw [hW2_] at hX hB2 ⊢
                     clear hW2_
                     obtain ⟨yb, hxb_⟩ : ∃ yb, w1.heap.size = yb := ⟨_, rfl⟩
                     rw [hxb_] at hX
                     simp only [hxb_]
                     clear hxb_)
                all_goals
                  have hx3 : W2.cell? ⟨yb, 3, none⟩ = some (.bool false) := by rw [(box_cells hX).2.2.2, HCL.out]
                  have hxy : W2.cell? ⟨yb, 2, none⟩ = some (.int .i64 a.opened) := (box_cells hX).2.2.1
                  have hyl := heap_lt hX
                  have HXY := Lib.hid hxy
                  clear hX hxy
                  go_wp2
                  obtain ⟨q0, q1, q2, q3, q4, q5, q6, q7, q8⟩ := HK.out W2.drew hB2.drew
                  refine wp_region_held_drew (S := fun w' => w'.cell? ⟨bb, 1, none⟩ = some (.pointer (some ⟨cb, 0, none⟩)) ∧ w'.cell? ⟨xb, 0, none⟩ = some (.pointer (some ⟨eb, 0, none⟩)) ∧ w'.cell? ⟨eb, 3, none⟩ = some (.string e.account) ∧ w'.cell? ⟨eb, 1, none⟩ = some (.int .i64 e.day) ∧ w'.cell? ⟨bb, 5, none⟩ = some (.map (some mO)) ∧ w'.cell? ⟨bb, 6, none⟩ = some (.map (some mL)) ∧ w'.cell? ⟨bb, 10, none⟩ = some (.slice oA oN oC) ∧ (Sem.run Tryz.prog (Instr.lookup 74 (.map (some mO)) (.string e.account) false) w' = .ok (.int .i64 OW) w') ∧ Below W0.heap.size W0 w') (by kernel_rfl) ⟨q0, q1, q2, q3, q4, q5, q6, q7, q8⟩ (fun hHeld => ?_)
                  refine wpAnyH_take (i := 0) (v := ?_) rfl (by kernel_rfl) (by kernel_rfl) (by kernel_rfl) (fun _ _ _ h => h) (Or.inl ⟨by kernel_rfl, ?y0⟩) (by assumption) ?_
                  case y0 =>
                    intro w0 hSw
                    (try dsimp only at hSw)
                    go_simp
                    try with_reducible rfl
                  try simp only [Act.put, qa10, qb10, qc10, qd10, qe10, qf10]
                  refine wpAnyH_take (i := 1) (v := ?_) rfl (by kernel_rfl) (by kernel_rfl) (by kernel_rfl) (fun _ _ _ h => h) (Or.inl ⟨by kernel_rfl, ?y1⟩) (by assumption) ?_
                  case y1 =>
                    intro w0 hSw
                    (try dsimp only at hSw)
                    go_simp
                    try with_reducible rfl
                  try simp only [Act.put, qa10, qb10, qc10, qd10, qe10, qf10]
                  refine wpAnyH_take (i := 2) (v := ?_) rfl (by kernel_rfl) (by kernel_rfl) (by kernel_rfl) (fun _ _ _ h => h) (Or.inl ⟨by kernel_rfl, ?y2⟩) (by assumption) ?_
                  case y2 =>
                    intro w0 hSw
                    (try dsimp only at hSw)
                    go_simp
                    try with_reducible rfl
                  try simp only [Act.put, qa10, qb10, qc10, qd10, qe10, qf10]
                  refine wpAnyH_take (i := 3) (v := ?_) rfl (by kernel_rfl) (by kernel_rfl) (by kernel_rfl) (fun _ _ _ h => h) (Or.inl ⟨by kernel_rfl, ?y3⟩) (by assumption) ?_
                  case y3 =>
                    intro w0 hSw
                    (try dsimp only at hSw)
                    go_simp
                    try with_reducible rfl
                  try simp only [Act.put, qa10, qb10, qc10, qd10, qe10, qf10]
                  refine wpAnyH_take (i := 4) (v := ?_) rfl (by kernel_rfl) (by kernel_rfl) (by kernel_rfl) (fun _ _ _ h => h) (Or.inl ⟨by kernel_rfl, ?y4⟩) (by assumption) ?_
                  case y4 =>
                    intro w0 hSw
                    (try dsimp only at hSw)
                    go_simp
                    try with_reducible rfl
                  try simp only [Act.put, qa10, qb10, qc10, qd10, qe10, qf10]
                  refine wpAnyH_take (i := 5) (v := ?_) rfl (by kernel_rfl) (by kernel_rfl) (by kernel_rfl) (fun _ _ _ h => h) (Or.inl ⟨by kernel_rfl, ?y5⟩) (by assumption) ?_
                  case y5 =>
                    intro w0 hSw
                    (try dsimp only at hSw)
                    go_simp
                    try with_reducible rfl
                  try simp only [Act.put, qa10, qb10, qc10, qd10, qe10, qf10]
                  refine wpAnyH_take (i := 6) (v := ?_) rfl (by kernel_rfl) (by kernel_rfl) (by kernel_rfl) (fun _ _ _ h => h) (Or.inl ⟨by kernel_rfl, ?y6⟩) (by assumption) ?_
                  case y6 =>
                    intro w0 hSw
                    (try dsimp only at hSw)
                    go_simp
                    try with_reducible rfl
                  try simp only [Act.put, qa10, qb10, qc10, qd10, qe10, qf10]
                  refine wpAnyH_take (i := 7) (v := ?_) rfl (by kernel_rfl) (by kernel_rfl) (by kernel_rfl) (fun _ _ _ h => h) (Or.inl ⟨by kernel_rfl, ?y7⟩) (by assumption) ?_
                  case y7 =>
                    intro w0 hSw
                    (try dsimp only at hSw)
                    go_simp
                    try with_reducible rfl
                  try simp only [Act.put, qa10, qb10, qc10, qd10, qe10, qf10]
                  refine wpAnyH_take (i := 9) (v := ?_) rfl (by kernel_rfl) (by kernel_rfl) (by kernel_rfl) (fun _ _ _ h => h) (Or.inl ⟨by kernel_rfl, ?y9⟩) (by assumption) ?_
                  case y9 =>
                    intro w0 hSw
                    (try dsimp only at hSw)
                    go_simp
                    try with_reducible rfl
                  try simp only [Act.put, qa10, qb10, qc10, qd10, qe10, qf10]
                  refine wpAnyH_take (i := 10) (v := ?_) rfl (by kernel_rfl) (by kernel_rfl) (by kernel_rfl) (fun _ _ _ h => h) (Or.inl ⟨by kernel_rfl, ?y10⟩) (by assumption) ?_
                  case y10 =>
                    intro w0 hSw
                    (try dsimp only at hSw)
                    go_simp
                    try with_reducible rfl
                  try simp only [Act.put, qa10, qb10, qc10, qd10, qe10, qf10]
                  refine wpAnyH_ready (rs := [8]) (by kernel_rfl) (by simp) (AllReadyH.cons rfl (fun K hK => ?_) AllReadyH.nil)
                  go_simp
                  go_at_call 90; refine (hkids _ q8).mono ?_; rintro en w3 ⟨kv, rfl, hown, hb3⟩; have hcon := hcont w3 (q8.trans (hb3.mono q8.size)) kv _ hown; obtain ⟨kA, kC, hkv⟩ : ∃ kA kC, kv = .slice kA KL.length kC := (by rcases hown.2 with ⟨h1, h2⟩ | ⟨g, cap, cur, h1, _⟩; exact ⟨none, 0, by rw [h1, h2]⟩; exact ⟨_, _, h1⟩); subst hkv; clear hkids; have qb := q8.trans (hb3.mono q8.size); have QK := HK.out _ qb; clear q0 q1 q2 q3 q4 q5 q6 q7 q8 qb; obtain ⟨q0, q1, q2, q3, q4, q5, q6, q7, q8⟩ := QK
                  go_wp2_with fail
                  refine hK.out _ _ ⟨q0, q1, q2, q3, q4, q5, q6, q7, q8⟩ (fun hHeld => ?_)
                  clear hK K
                  try simp only [Act.put, qa10, qb10, qc10, qd10, qe10, qf10]
                  refine wpAnyH_ready (rs := [11]) (by kernel_rfl) (by simp) (AllReadyH.cons rfl (fun K hK => ?_) AllReadyH.nil)
                  go_simp
                  go_at_call 89; refine hcon.mono ?_; rintro en w4 ⟨rfl, hb4⟩; clear hcon hown; have qb := q8.trans (hb4.mono q8.size); have QK := HK.out _ qb; clear q0 q1 q2 q3 q4 q5 q6 q7 q8 qb; obtain ⟨q0, q1, q2, q3, q4, q5, q6, q7, q8⟩ := QK
                  go_wp2_with fail
                  refine hK.out _ _ ⟨q0, q1, q2, q3, q4, q5, q6, q7, q8⟩ (fun hHeld => ?_)
                  clear hK K
                  try simp only [Act.put, qa10, qb10, qc10, qd10, qe10, qf10]
                  refine wpAnyH_take (i := 12) (v := ?_) rfl (by kernel_rfl) (by kernel_rfl) (by kernel_rfl) (fun _ _ _ h => h) (Or.inl ⟨by kernel_rfl, ?y12⟩) (by assumption) ?_
                  case y12 =>
                    intro w0 hSw
                    (try dsimp only at hSw)
                    go_simp
                    try with_reducible rfl
                  try simp only [Act.put, qa10, qb10, qc10, qd10, qe10, qf10]
                  refine wpAnyH_take (i := 13) (v := ?_) rfl (by kernel_rfl) (by kernel_rfl) (by kernel_rfl) (fun _ _ _ h => h) (Or.inl ⟨by kernel_rfl, ?y13⟩) (by assumption) ?_
                  case y13 =>
                    intro w0 hSw
                    (try dsimp only at hSw)
                    go_simp
                    try with_reducible rfl
                  try simp only [Act.put, qa10, qb10, qc10, qd10, qe10, qf10]
                  refine wpAnyH_take (i := 14) (v := ?_) rfl (by kernel_rfl) (by kernel_rfl) (by kernel_rfl) (fun _ _ _ h => h) (Or.inl ⟨by kernel_rfl, ?y14⟩) (by assumption) ?_
                  case y14 =>
                    intro w0 hSw
                    (try dsimp only at hSw)
                    go_simp
                    try with_reducible rfl
                  try simp only [Act.put, qa10, qb10, qc10, qd10, qe10, qf10]
                  refine wpAnyH_take (i := 15) (v := ?_) rfl (by kernel_rfl) (by kernel_rfl) (by kernel_rfl) (fun _ _ _ h => h) (Or.inl ⟨by kernel_rfl, ?y15⟩) (by assumption) ?_
                  case y15 =>
                    intro w0 hSw
                    (try dsimp only at hSw)
                    go_simp
                    try with_reducible rfl
                  try simp only [Act.put, qa10, qb10, qc10, qd10, qe10, qf10]
                  refine wpAnyH_take (i := 16) (v := ?_) rfl (by kernel_rfl) (by kernel_rfl) (by kernel_rfl) (fun _ _ _ h => h) (Or.inl ⟨by kernel_rfl, ?y16⟩) (by assumption) ?_
                  case y16 =>
                    intro w0 hSw
                    (try dsimp only at hSw)
                    go_simp
                    try with_reducible rfl
                  try simp only [Act.put, qa10, qb10, qc10, qd10, qe10, qf10]
                  refine wpAnyH_take (i := 17) (v := ?_) rfl (by kernel_rfl) (by kernel_rfl) (by kernel_rfl) (fun _ _ _ h => h) (Or.inl ⟨by kernel_rfl, ?y17⟩) (by assumption) ?_
                  case y17 =>
                    intro w0 hSw
                    (try dsimp only at hSw)
                    go_simp
                    try with_reducible rfl
                  try simp only [Act.put, qa10, qb10, qc10, qd10, qe10, qf10]
                  refine wpAnyH_take (i := 18) (v := ?_) rfl (by kernel_rfl) (by kernel_rfl) (by kernel_rfl) (fun _ _ _ h => h) (Or.inl ⟨by kernel_rfl, ?y18⟩) (by assumption) ?_
                  case y18 =>
                    intro w0 hSw
                    (try dsimp only at hSw)
                    go_simp
                    try with_reducible rfl
                  try simp only [Act.put, qa10, qb10, qc10, qd10, qe10, qf10]
                  refine wpAnyH_take (i := 19) (v := ?_) rfl (by kernel_rfl) (by kernel_rfl) (by kernel_rfl) (fun _ _ _ h => h) (Or.inl ⟨by kernel_rfl, ?y19⟩) (by assumption) ?_
                  case y19 =>
                    intro w0 hSw
                    (try dsimp only at hSw)
                    go_simp
                    try with_reducible rfl
                  try simp only [Act.put, qa10, qb10, qc10, qd10, qe10, qf10]
                  refine wpAnyH_take (i := 20) (v := ?_) rfl (by kernel_rfl) (by kernel_rfl) (by kernel_rfl) (fun _ _ _ h => h) (Or.inl ⟨by kernel_rfl, ?y20⟩) (by assumption) ?_
                  case y20 =>
                    intro w0 hSw
                    (try dsimp only at hSw)
                    go_simp
                    try with_reducible rfl
                  try simp only [Act.put, qa10, qb10, qc10, qd10, qe10, qf10]
                  refine wpAnyH_take (i := 21) (v := ?_) rfl (by kernel_rfl) (by kernel_rfl) (by kernel_rfl) (fun _ _ _ h => h) (Or.inl ⟨by kernel_rfl, ?y21⟩) (by assumption) ?_
                  case y21 =>
                    intro w0 hSw
                    (try dsimp only at hSw)
                    go_simp
                    try with_reducible rfl
                  try simp only [Act.put, qa10, qb10, qc10, qd10, qe10, qf10]
                  refine wpAnyH_take (i := 22) (v := ?_) rfl (by kernel_rfl) (by kernel_rfl) (by kernel_rfl) (fun _ _ _ h => h) (Or.inl ⟨by kernel_rfl, ?y22⟩) (by assumption) ?_
                  case y22 =>
                    intro w0 hSw
                    (try dsimp only at hSw)
                    go_simp
                    try with_reducible rfl
                  try simp only [Act.put, qa10, qb10, qc10, qd10, qe10, qf10]
                  refine wpAnyH_take (i := 23) (v := ?_) rfl (by kernel_rfl) (by kernel_rfl) (by kernel_rfl) (fun _ _ _ h => h) (Or.inl ⟨by kernel_rfl, ?y23⟩) (by assumption) ?_
                  case y23 =>
                    intro w0 hSw
                    (try dsimp only at hSw)
                    go_simp
                    try with_reducible rfl
                  try simp only [Act.put, qa10, qb10, qc10, qd10, qe10, qf10]
                  refine wpAnyH_take (i := 24) (v := ?_) rfl (by kernel_rfl) (by kernel_rfl) (by kernel_rfl) (fun _ _ _ h => h) (Or.inl ⟨by kernel_rfl, ?y24⟩) (by assumption) ?_
                  case y24 =>
                    intro w0 hSw
                    (try dsimp only at hSw)
                    go_simp
                    try with_reducible rfl
                  try simp only [Act.put, qa10, qb10, qc10, qd10, qe10, qf10]
                  refine wpAnyH_take (i := 25) (v := ?_) rfl (by kernel_rfl) (by kernel_rfl) (by kernel_rfl) (fun _ _ _ h => h) (Or.inl ⟨by kernel_rfl, ?y25⟩) (by assumption) ?_
                  case y25 =>
                    intro w0 hSw
                    (try dsimp only at hSw)
                    go_simp
                    try with_reducible rfl
                  try simp only [Act.put, qa10, qb10, qc10, qd10, qe10, qf10]
                  refine wpAnyH_take (i := 26) (v := ?_) rfl (by kernel_rfl) (by kernel_rfl) (by kernel_rfl) (fun _ _ _ h => h) (Or.inl ⟨by kernel_rfl, ?y26⟩) (by assumption) ?_
                  case y26 =>
                    intro w0 hSw
                    (try dsimp only at hSw)
                    go_simp
                    try with_reducible rfl
                  try simp only [Act.put, qa10, qb10, qc10, qd10, qe10, qf10]
                  refine wpAnyH_take (i := 27) (v := ?_) rfl (by kernel_rfl) (by kernel_rfl) (by kernel_rfl) (fun _ _ _ h => h) (Or.inl ⟨by kernel_rfl, ?y27⟩) (by assumption) ?_
                  case y27 =>
                    intro w0 hSw
                    (try dsimp only at hSw)
                    go_simp
                    try with_reducible rfl
                  try simp only [Act.put, qa10, qb10, qc10, qd10, qe10, qf10]
                  refine wpAnyH_take (i := 28) (v := ?_) rfl (by kernel_rfl) (by kernel_rfl) (by kernel_rfl) (fun _ _ _ h => h) (Or.inl ⟨by kernel_rfl, ?y28⟩) (by assumption) ?_
                  case y28 =>
                    intro w0 hSw
                    (try dsimp only at hSw)
                    go_simp
                    try with_reducible rfl
                  try simp only [Act.put, qa10, qb10, qc10, qd10, qe10, qf10]
                  refine wpAnyH_take (i := 29) (v := ?_) rfl (by kernel_rfl) (by kernel_rfl) (by kernel_rfl) (fun _ _ _ h => h) (Or.inl ⟨by kernel_rfl, ?y29⟩) (by assumption) ?_
                  case y29 =>
                    intro w0 hSw
                    (try dsimp only at hSw)
                    go_simp
                    try with_reducible rfl
                  try simp only [Act.put, qa10, qb10, qc10, qd10, qe10, qf10]
                  refine wpAnyH_ready (rs := [30]) (by kernel_rfl) (by simp) (AllReadyH.cons rfl (fun K hK => ?_) AllReadyH.nil)
                  go_simp
                  go_at_call 92; refine (howes _ q8).mono ?_; rintro en w5 ⟨rfl, hb5⟩; have belW2 : Below W2.heap.size W2 w5 := (((Below.refl _ _).drew.trans hb3).trans (hb4.mono hb3.size)).trans (hb5.mono (Nat.le_trans hb3.size hb4.size)); have qb := q8.trans (hb5.mono q8.size); have QK := HK.out _ qb; clear q0 q1 q2 q3 q4 q5 q6 q7 q8 qb; obtain ⟨q0, q1, q2, q3, q4, q5, q6, q7, q8⟩ := QK
                  go_wp2_with fail
                  refine hK.out _ _ ⟨q0, q1, q2, q3, q4, q5, q6, q7, q8⟩ (fun hHeld => ?_)
                  clear hK K
                  try simp only [Act.put, qa10, qb10, qc10, qd10, qe10, qf10]
                  refine wpAnyH_take (i := 31) (v := ?_) rfl (by kernel_rfl) (by kernel_rfl) (by kernel_rfl) (fun _ _ _ h => h) (Or.inl ⟨by kernel_rfl, ?y31⟩) (by assumption) ?_
                  case y31 =>
                    intro w0 hSw
                    (try dsimp only at hSw)
                    go_simp
                    try with_reducible rfl
                  try simp only [Act.put, qa10, qb10, qc10, qd10, qe10, qf10]
                  refine wpAnyH_take (i := 32) (v := ?_) rfl (by kernel_rfl) (by kernel_rfl) (by kernel_rfl) (fun _ _ _ h => h) (Or.inl ⟨by kernel_rfl, ?y32⟩) (by assumption) ?_
                  case y32 =>
                    intro w0 hSw
                    (try dsimp only at hSw)
                    go_simp
                    try with_reducible rfl
                  try simp only [Act.put, qa10, qb10, qc10, qd10, qe10, qf10]
                  refine wpAnyH_done (by kernel_rfl) ?_ _
                  have hz : w5.cell? ⟨yb, 2, none⟩ = some (.int .i64 a.opened) := (belW2.cell (p := ⟨yb, 2, none⟩) hyl).trans HXY.out
                  have hla := HL.out w5 q8
                  go_wp2
                  go_quiet (fail)
                  go_wp2
                  go_ret
                  exact ⟨rfl, hBK _ (below_drewN q8 _)⟩
              · rw [if_neg (by rintro (h | h); exact d1 h; exact d2 h)]
                have d2b : decide (e.day < LA) = false := decide_eq_false d2
                clear d1 d2
                go_enter Tryz.func59, Tryz.ntmps59
                go_wp2
                try rw [hW0]
                try simp only [hxb]
                go_region_held3 (fun w' => w'.cell? ⟨bb, 1, none⟩ = some (.pointer (some ⟨cb, 0, none⟩)) ∧ w'.cell? ⟨xb, 0, none⟩ = some (.pointer (some ⟨eb, 0, none⟩)) ∧ w'.cell? ⟨eb, 3, none⟩ = some (.string e.account) ∧ w'.cell? ⟨eb, 1, none⟩ = some (.int .i64 e.day) ∧ w'.cell? ⟨bb, 5, none⟩ = some (.map (some mO)) ∧ w'.cell? ⟨bb, 6, none⟩ = some (.map (some mL)) ∧ w'.cell? ⟨bb, 10, none⟩ = some (.slice oA oN oC) ∧ (Sem.run Tryz.prog (Instr.lookup 74 (.map (some mO)) (.string e.account) false) w' = .ok (.int .i64 OW) w') ∧ Below W0.heap.size W0 w')
                  (first | with_reducible exact ⟨g0, g1, g2, g3, g4, g5, g6, g7, g8⟩ | with_reducible exact HK.out _ (below_ad hV0 hV0.size _) | with_reducible exact HK.out _ (by with_reducible assumption) | with_reducible exact HK.out _ (Below.alloc (by with_reducible assumption) (Below.size (by with_reducible assumption)) _) | with_reducible exact HK.out _ (set4' (by with_reducible assumption) hV0.size _ _ _ _))
                  (first
                    | (go_at_call 46; refine (hfind _ (by with_reducible exact g8)).mono ?_; rintro en w1 ⟨rfl, hb1⟩; have g3' : Below W0.heap.size W0 w1 := (by with_reducible exact grow_plain (V := W0) hV0 hV0.size hb1); obtain ⟨k0, k1, k2, k3, k4, k5, k6, k7, k8⟩ := HK.out w1 g3'; clear g3' hfind)
                    | (go_at_call 46; refine (hfind _ (by with_reducible exact below_ad hV0 hV0.size _)).mono ?_; rintro en w1 ⟨rfl, hb1⟩; have gp : Below W0.heap.size W0 w1 ∧ w1.heap[W0.heap.size]? = some (.cells noBox 65 (0, 0)) := (by with_reducible exact grow_past (V := W0) hV0 hV0.size hb1); obtain ⟨g3', hbx⟩ := gp; obtain ⟨k0, k1, k2, k3, k4, k5, k6, k7, k8⟩ := HK.out w1 g3'; obtain ⟨hbk, hbk1, hbk2, hbk3, hbf, hbf1, hbf2, hbf3⟩ := box_facts hbx; clear g3' hfind))
                all_goals first
                  | (have hX := box_set hbx a
                     have hB2 := set4 k8 (p := ⟨W0.heap.size, 0, none⟩) (q := ⟨W0.heap.size, 1, none⟩) (r := ⟨W0.heap.size, 2, none⟩) (s := ⟨W0.heap.size, 3, none⟩) hV0.size hV0.size hV0.size hV0.size (.string a.name) (.int .i64 a.typ) (.int .i64 a.opened) (.bool a.closed)
                     obtain ⟨W2, hW2_⟩ : ∃ W2, (((w1.setCell ⟨W0.heap.size, 0, none⟩ (.string a.name)).setCell ⟨W0.heap.size, 1, none⟩ (.int .i64 a.typ)).setCell ⟨W0.heap.size, 2, none⟩ (.int .i64 a.opened)).setCell ⟨W0.heap.size, 3, none⟩ (.bool a.closed) = W2 := ⟨_, rfl⟩
                     rw [hW2_] at hX hB2 ⊢
                     clear hW2_
                     obtain ⟨yb, hxb_⟩ : ∃ yb, W0.heap.size = yb := ⟨_, rfl⟩
                     rw [hxb_] at hX
                     simp only [hxb_]
                     clear hxb_)
                  | (have hX := World.alloc_heap_new w1 (.cells #[.string a.name, .int .i64 a.typ, .int .i64 a.opened, .bool a.closed] 65)
                     have hB2 := k8.alloc k8.size (.cells #[.string a.name, .int .i64 a.typ, .int .i64 a.opened, .bool a.closed] 65)
                     obtain ⟨W2, hW2_⟩ : ∃ W2, w1.alloc (.cells #[.string a.name, .int .i64 a.typ, .int .i64 a.opened, .bool a.closed] 65) = W2 := ⟨_, rfl⟩
                     rw [hW2_] at hX hB2 ⊢
                     clear hW2_
                     obtain ⟨yb, hxb_⟩ : ∃ yb, w1.heap.size = yb := ⟨_, rfl⟩
                     rw [hxb_] at hX
                     simp only [hxb_]
                     clear hxb_)
                all_goals
                  have hx3 : W2.cell? ⟨yb, 3, none⟩ = some (.bool false) := by rw [(box_cells hX).2.2.2, HCL.out]
                  have hxy : W2.cell? ⟨yb, 2, none⟩ = some (.int .i64 a.opened) := (box_cells hX).2.2.1
                  have hyl := heap_lt hX
                  have HXY := Lib.hid hxy
                  clear hX hxy
                  go_wp2
                  obtain ⟨q0, q1, q2, q3, q4, q5, q6, q7, q8⟩ := HK.out W2.drew hB2.drew
                  refine wp_region_held_drew (S := fun w' => w'.cell? ⟨bb, 1, none⟩ = some (.pointer (some ⟨cb, 0, none⟩)) ∧ w'.cell? ⟨xb, 0, none⟩ = some (.pointer (some ⟨eb, 0, none⟩)) ∧ w'.cell? ⟨eb, 3, none⟩ = some (.string e.account) ∧ w'.cell? ⟨eb, 1, none⟩ = some (.int .i64 e.day) ∧ w'.cell? ⟨bb, 5, none⟩ = some (.map (some mO)) ∧ w'.cell? ⟨bb, 6, none⟩ = some (.map (some mL)) ∧ w'.cell? ⟨bb, 10, none⟩ = some (.slice oA oN oC) ∧ (Sem.run Tryz.prog (Instr.lookup 74 (.map (some mO)) (.string e.account) false) w' = .ok (.int .i64 OW) w') ∧ Below W0.heap.size W0 w') (by kernel_rfl) ⟨q0, q1, q2, q3, q4, q5, q6, q7, q8⟩ (fun hHeld => ?_)
                  refine wpAnyH_take (i := 0) (v := ?_) rfl (by kernel_rfl) (by kernel_rfl) (by kernel_rfl) (fun _ _ _ h => h) (Or.inl ⟨by kernel_rfl, ?y0⟩) (by assumption) ?_
                  case y0 =>
                    intro w0 hSw
                    (try dsimp only at hSw)
                    go_simp
                    try with_reducible rfl
                  try simp only [Act.put, qa10, qb10, qc10, qd10, qe10, qf10]
                  refine wpAnyH_take (i := 1) (v := ?_) rfl (by kernel_rfl) (by kernel_rfl) (by kernel_rfl) (fun _ _ _ h => h) (Or.inl ⟨by kernel_rfl, ?y1⟩) (by assumption) ?_
                  case y1 =>
                    intro w0 hSw
                    (try dsimp only at hSw)
                    go_simp
                    try with_reducible rfl
                  try simp only [Act.put, qa10, qb10, qc10, qd10, qe10, qf10]
                  refine wpAnyH_take (i := 2) (v := ?_) rfl (by kernel_rfl) (by kernel_rfl) (by kernel_rfl) (fun _ _ _ h => h) (Or.inl ⟨by kernel_rfl, ?y2⟩) (by assumption) ?_
                  case y2 =>
                    intro w0 hSw
                    (try dsimp only at hSw)
                    go_simp
                    try with_reducible rfl
                  try simp only [Act.put, qa10, qb10, qc10, qd10, qe10, qf10]
                  refine wpAnyH_take (i := 3) (v := ?_) rfl (by kernel_rfl) (by kernel_rfl) (by kernel_rfl) (fun _ _ _ h => h) (Or.inl ⟨by kernel_rfl, ?y3⟩) (by assumption) ?_
                  case y3 =>
                    intro w0 hSw
                    (try dsimp only at hSw)
                    go_simp
                    try with_reducible rfl
                  try simp only [Act.put, qa10, qb10, qc10, qd10, qe10, qf10]
                  refine wpAnyH_take (i := 4) (v := ?_) rfl (by kernel_rfl) (by kernel_rfl) (by kernel_rfl) (fun _ _ _ h => h) (Or.inl ⟨by kernel_rfl, ?y4⟩) (by assumption) ?_
                  case y4 =>
                    intro w0 hSw
                    (try dsimp only at hSw)
                    go_simp
                    try with_reducible rfl
                  try simp only [Act.put, qa10, qb10, qc10, qd10, qe10, qf10]
                  refine wpAnyH_take (i := 5) (v := ?_) rfl (by kernel_rfl) (by kernel_rfl) (by kernel_rfl) (fun _ _ _ h => h) (Or.inl ⟨by kernel_rfl, ?y5⟩) (by assumption) ?_
                  case y5 =>
                    intro w0 hSw
                    (try dsimp only at hSw)
                    go_simp
                    try with_reducible rfl
                  try simp only [Act.put, qa10, qb10, qc10, qd10, qe10, qf10]
                  refine wpAnyH_take (i := 6) (v := ?_) rfl (by kernel_rfl) (by kernel_rfl) (by kernel_rfl) (fun _ _ _ h => h) (Or.inl ⟨by kernel_rfl, ?y6⟩) (by assumption) ?_
                  case y6 =>
                    intro w0 hSw
                    (try dsimp only at hSw)
                    go_simp
                    try with_reducible rfl
                  try simp only [Act.put, qa10, qb10, qc10, qd10, qe10, qf10]
                  refine wpAnyH_take (i := 7) (v := ?_) rfl (by kernel_rfl) (by kernel_rfl) (by kernel_rfl) (fun _ _ _ h => h) (Or.inl ⟨by kernel_rfl, ?y7⟩) (by assumption) ?_
                  case y7 =>
                    intro w0 hSw
                    (try dsimp only at hSw)
                    go_simp
                    try with_reducible rfl
                  try simp only [Act.put, qa10, qb10, qc10, qd10, qe10, qf10]
                  refine wpAnyH_take (i := 9) (v := ?_) rfl (by kernel_rfl) (by kernel_rfl) (by kernel_rfl) (fun _ _ _ h => h) (Or.inl ⟨by kernel_rfl, ?y9⟩) (by assumption) ?_
                  case y9 =>
                    intro w0 hSw
                    (try dsimp only at hSw)
                    go_simp
                    try with_reducible rfl
                  try simp only [Act.put, qa10, qb10, qc10, qd10, qe10, qf10]
                  refine wpAnyH_take (i := 10) (v := ?_) rfl (by kernel_rfl) (by kernel_rfl) (by kernel_rfl) (fun _ _ _ h => h) (Or.inl ⟨by kernel_rfl, ?y10⟩) (by assumption) ?_
                  case y10 =>
                    intro w0 hSw
                    (try dsimp only at hSw)
                    go_simp
                    try with_reducible rfl
                  try simp only [Act.put, qa10, qb10, qc10, qd10, qe10, qf10]
                  refine wpAnyH_ready (rs := [8]) (by kernel_rfl) (by simp) (AllReadyH.cons rfl (fun K hK => ?_) AllReadyH.nil)
                  go_simp
                  go_at_call 90; refine (hkids _ q8).mono ?_; rintro en w3 ⟨kv, rfl, hown, hb3⟩; have hcon := hcont w3 (q8.trans (hb3.mono q8.size)) kv _ hown; obtain ⟨kA, kC, hkv⟩ : ∃ kA kC, kv = .slice kA KL.length kC := (by rcases hown.2 with ⟨h1, h2⟩ | ⟨g, cap, cur, h1, _⟩; exact ⟨none, 0, by rw [h1, h2]⟩; exact ⟨_, _, h1⟩); subst hkv; clear hkids; have qb := q8.trans (hb3.mono q8.size); have QK := HK.out _ qb; clear q0 q1 q2 q3 q4 q5 q6 q7 q8 qb; obtain ⟨q0, q1, q2, q3, q4, q5, q6, q7, q8⟩ := QK
                  go_wp2_with fail
                  refine hK.out _ _ ⟨q0, q1, q2, q3, q4, q5, q6, q7, q8⟩ (fun hHeld => ?_)
                  clear hK K
                  try simp only [Act.put, qa10, qb10, qc10, qd10, qe10, qf10]
                  refine wpAnyH_ready (rs := [11]) (by kernel_rfl) (by simp) (AllReadyH.cons rfl (fun K hK => ?_) AllReadyH.nil)
                  go_simp
                  go_at_call 89; refine hcon.mono ?_; rintro en w4 ⟨rfl, hb4⟩; clear hcon hown; have qb := q8.trans (hb4.mono q8.size); have QK := HK.out _ qb; clear q0 q1 q2 q3 q4 q5 q6 q7 q8 qb; obtain ⟨q0, q1, q2, q3, q4, q5, q6, q7, q8⟩ := QK
                  go_wp2_with fail
                  refine hK.out _ _ ⟨q0, q1, q2, q3, q4, q5, q6, q7, q8⟩ (fun hHeld => ?_)
                  clear hK K
                  try simp only [Act.put, qa10, qb10, qc10, qd10, qe10, qf10]
                  refine wpAnyH_take (i := 12) (v := ?_) rfl (by kernel_rfl) (by kernel_rfl) (by kernel_rfl) (fun _ _ _ h => h) (Or.inl ⟨by kernel_rfl, ?y12⟩) (by assumption) ?_
                  case y12 =>
                    intro w0 hSw
                    (try dsimp only at hSw)
                    go_simp
                    try with_reducible rfl
                  try simp only [Act.put, qa10, qb10, qc10, qd10, qe10, qf10]
                  refine wpAnyH_take (i := 13) (v := ?_) rfl (by kernel_rfl) (by kernel_rfl) (by kernel_rfl) (fun _ _ _ h => h) (Or.inl ⟨by kernel_rfl, ?y13⟩) (by assumption) ?_
                  case y13 =>
                    intro w0 hSw
                    (try dsimp only at hSw)
                    go_simp
                    try with_reducible rfl
                  try simp only [Act.put, qa10, qb10, qc10, qd10, qe10, qf10]
                  refine wpAnyH_take (i := 14) (v := ?_) rfl (by kernel_rfl) (by kernel_rfl) (by kernel_rfl) (fun _ _ _ h => h) (Or.inl ⟨by kernel_rfl, ?y14⟩) (by assumption) ?_
                  case y14 =>
                    intro w0 hSw
                    (try dsimp only at hSw)
                    go_simp
                    try with_reducible rfl
                  try simp only [Act.put, qa10, qb10, qc10, qd10, qe10, qf10]
                  refine wpAnyH_take (i := 15) (v := ?_) rfl (by kernel_rfl) (by kernel_rfl) (by kernel_rfl) (fun _ _ _ h => h) (Or.inl ⟨by kernel_rfl, ?y15⟩) (by assumption) ?_
                  case y15 =>
                    intro w0 hSw
                    (try dsimp only at hSw)
                    go_simp
                    try with_reducible rfl
                  try simp only [Act.put, qa10, qb10, qc10, qd10, qe10, qf10]
                  refine wpAnyH_take (i := 16) (v := ?_) rfl (by kernel_rfl) (by kernel_rfl) (by kernel_rfl) (fun _ _ _ h => h) (Or.inl ⟨by kernel_rfl, ?y16⟩) (by assumption) ?_
                  case y16 =>
                    intro w0 hSw
                    (try dsimp only at hSw)
                    go_simp
                    try with_reducible rfl
                  try simp only [Act.put, qa10, qb10, qc10, qd10, qe10, qf10]
                  refine wpAnyH_take (i := 17) (v := ?_) rfl (by kernel_rfl) (by kernel_rfl) (by kernel_rfl) (fun _ _ _ h => h) (Or.inl ⟨by kernel_rfl, ?y17⟩) (by assumption) ?_
                  case y17 =>
                    intro w0 hSw
                    (try dsimp only at hSw)
                    go_simp
                    try with_reducible rfl
                  try simp only [Act.put, qa10, qb10, qc10, qd10, qe10, qf10]
                  refine wpAnyH_take (i := 18) (v := ?_) rfl (by kernel_rfl) (by kernel_rfl) (by kernel_rfl) (fun _ _ _ h => h) (Or.inl ⟨by kernel_rfl, ?y18⟩) (by assumption) ?_
                  case y18 =>
                    intro w0 hSw
                    (try dsimp only at hSw)
                    go_simp
                    try with_reducible rfl
                  try simp only [Act.put, qa10, qb10, qc10, qd10, qe10, qf10]
                  refine wpAnyH_take (i := 19) (v := ?_) rfl (by kernel_rfl) (by kernel_rfl) (by kernel_rfl) (fun _ _ _ h => h) (Or.inl ⟨by kernel_rfl, ?y19⟩) (by assumption) ?_
                  case y19 =>
                    intro w0 hSw
                    (try dsimp only at hSw)
                    go_simp
                    try with_reducible rfl
                  try simp only [Act.put, qa10, qb10, qc10, qd10, qe10, qf10]
                  refine wpAnyH_take (i := 20) (v := ?_) rfl (by kernel_rfl) (by kernel_rfl) (by kernel_rfl) (fun _ _ _ h => h) (Or.inl ⟨by kernel_rfl, ?y20⟩) (by assumption) ?_
                  case y20 =>
                    intro w0 hSw
                    (try dsimp only at hSw)
                    go_simp
                    try with_reducible rfl
                  try simp only [Act.put, qa10, qb10, qc10, qd10, qe10, qf10]
                  refine wpAnyH_take (i := 21) (v := ?_) rfl (by kernel_rfl) (by kernel_rfl) (by kernel_rfl) (fun _ _ _ h => h) (Or.inl ⟨by kernel_rfl, ?y21⟩) (by assumption) ?_
                  case y21 =>
                    intro w0 hSw
                    (try dsimp only at hSw)
                    go_simp
                    try with_reducible rfl
                  try simp only [Act.put, qa10, qb10, qc10, qd10, qe10, qf10]
                  refine wpAnyH_take (i := 22) (v := ?_) rfl (by kernel_rfl) (by kernel_rfl) (by kernel_rfl) (fun _ _ _ h => h) (Or.inl ⟨by kernel_rfl, ?y22⟩) (by assumption) ?_
                  case y22 =>
                    intro w0 hSw
                    (try dsimp only at hSw)
                    go_simp
                    try with_reducible rfl
                  try simp only [Act.put, qa10, qb10, qc10, qd10, qe10, qf10]
                  refine wpAnyH_take (i := 23) (v := ?_) rfl (by kernel_rfl) (by kernel_rfl) (by kernel_rfl) (fun _ _ _ h => h) (Or.inl ⟨by kernel_rfl, ?y23⟩) (by assumption) ?_
                  case y23 =>
                    intro w0 hSw
                    (try dsimp only at hSw)
                    go_simp
                    try with_reducible rfl
                  try simp only [Act.put, qa10, qb10, qc10, qd10, qe10, qf10]
                  refine wpAnyH_take (i := 24) (v := ?_) rfl (by kernel_rfl) (by kernel_rfl) (by kernel_rfl) (fun _ _ _ h => h) (Or.inl ⟨by kernel_rfl, ?y24⟩) (by assumption) ?_
                  case y24 =>
                    intro w0 hSw
                    (try dsimp only at hSw)
                    go_simp
                    try with_reducible rfl
                  try simp only [Act.put, qa10, qb10, qc10, qd10, qe10, qf10]
                  refine wpAnyH_take (i := 25) (v := ?_) rfl (by kernel_rfl) (by kernel_rfl) (by kernel_rfl) (fun _ _ _ h => h) (Or.inl ⟨by kernel_rfl, ?y25⟩) (by assumption) ?_
                  case y25 =>
                    intro w0 hSw
                    (try dsimp only at hSw)
                    go_simp
                    try with_reducible rfl
                  try simp only [Act.put, qa10, qb10, qc10, qd10, qe10, qf10]
                  refine wpAnyH_take (i := 26) (v := ?_) rfl (by kernel_rfl) (by kernel_rfl) (by kernel_rfl) (fun _ _ _ h => h) (Or.inl ⟨by kernel_rfl, ?y26⟩) (by assumption) ?_
                  case y26 =>
                    intro w0 hSw
                    (try dsimp only at hSw)
                    go_simp
                    try with_reducible rfl
                  try simp only [Act.put, qa10, qb10, qc10, qd10, qe10, qf10]
                  refine wpAnyH_take (i := 27) (v := ?_) rfl (by kernel_rfl) (by kernel_rfl) (by kernel_rfl) (fun _ _ _ h => h) (Or.inl ⟨by kernel_rfl, ?y27⟩) (by assumption) ?_
                  case y27 =>
                    intro w0 hSw
                    (try dsimp only at hSw)
                    go_simp
                    try with_reducible rfl
                  try simp only [Act.put, qa10, qb10, qc10, qd10, qe10, qf10]
                  refine wpAnyH_take (i := 28) (v := ?_) rfl (by kernel_rfl) (by kernel_rfl) (by kernel_rfl) (fun _ _ _ h => h) (Or.inl ⟨by kernel_rfl, ?y28⟩) (by assumption) ?_
                  case y28 =>
                    intro w0 hSw
                    (try dsimp only at hSw)
                    go_simp
                    try with_reducible rfl
                  try simp only [Act.put, qa10, qb10, qc10, qd10, qe10, qf10]
                  refine wpAnyH_take (i := 29) (v := ?_) rfl (by kernel_rfl) (by kernel_rfl) (by kernel_rfl) (fun _ _ _ h => h) (Or.inl ⟨by kernel_rfl, ?y29⟩) (by assumption) ?_
                  case y29 =>
                    intro w0 hSw
                    (try dsimp only at hSw)
                    go_simp
                    try with_reducible rfl
                  try simp only [Act.put, qa10, qb10, qc10, qd10, qe10, qf10]
                  refine wpAnyH_ready (rs := [30]) (by kernel_rfl) (by simp) (AllReadyH.cons rfl (fun K hK => ?_) AllReadyH.nil)
                  go_simp
                  go_at_call 92; refine (howes _ q8).mono ?_; rintro en w5 ⟨rfl, hb5⟩; have belW2 : Below W2.heap.size W2 w5 := (((Below.refl _ _).drew.trans hb3).trans (hb4.mono hb3.size)).trans (hb5.mono (Nat.le_trans hb3.size hb4.size)); have qb := q8.trans (hb5.mono q8.size); have QK := HK.out _ qb; clear q0 q1 q2 q3 q4 q5 q6 q7 q8 qb; obtain ⟨q0, q1, q2, q3, q4, q5, q6, q7, q8⟩ := QK
                  go_wp2_with fail
                  refine hK.out _ _ ⟨q0, q1, q2, q3, q4, q5, q6, q7, q8⟩ (fun hHeld => ?_)
                  clear hK K
                  try simp only [Act.put, qa10, qb10, qc10, qd10, qe10, qf10]
                  refine wpAnyH_take (i := 31) (v := ?_) rfl (by kernel_rfl) (by kernel_rfl) (by kernel_rfl) (fun _ _ _ h => h) (Or.inl ⟨by kernel_rfl, ?y31⟩) (by assumption) ?_
                  case y31 =>
                    intro w0 hSw
                    (try dsimp only at hSw)
                    go_simp
                    try with_reducible rfl
                  try simp only [Act.put, qa10, qb10, qc10, qd10, qe10, qf10]
                  refine wpAnyH_take (i := 32) (v := ?_) rfl (by kernel_rfl) (by kernel_rfl) (by kernel_rfl) (fun _ _ _ h => h) (Or.inl ⟨by kernel_rfl, ?y32⟩) (by assumption) ?_
                  case y32 =>
                    intro w0 hSw
                    (try dsimp only at hSw)
                    go_simp
                    try with_reducible rfl
                  try simp only [Act.put, qa10, qb10, qc10, qd10, qe10, qf10]
                  refine wpAnyH_done (by kernel_rfl) ?_ _
                  have hz : w5.cell? ⟨yb, 2, none⟩ = some (.int .i64 a.opened) := (belW2.cell (p := ⟨yb, 2, none⟩) hyl).trans HXY.out
                  have hla := HL.out w5 q8
                  go_wp2
                  go_quiet (fail)
                  go_wp2
                  go_ret
                  exact ⟨rfl, hBK _ (below_drewN q8 _)⟩
        · have o1 : (OW != 0) = true := by rw [bne_iff_ne]; exact hOW
          rw [show decide (OW ≠ 0) = true from decide_eq_true hOW]
          clear hOW
          simp only [Bool.false_or, Bool.true_or, if_true]
          go_enter Tryz.func59, Tryz.ntmps59
          go_wp2
          try rw [hW0]
          try simp only [hxb]
          go_region_held3 (fun w' => w'.cell? ⟨bb, 1, none⟩ = some (.pointer (some ⟨cb, 0, none⟩)) ∧ w'.cell? ⟨xb, 0, none⟩ = some (.pointer (some ⟨eb, 0, none⟩)) ∧ w'.cell? ⟨eb, 3, none⟩ = some (.string e.account) ∧ w'.cell? ⟨eb, 1, none⟩ = some (.int .i64 e.day) ∧ w'.cell? ⟨bb, 5, none⟩ = some (.map (some mO)) ∧ w'.cell? ⟨bb, 6, none⟩ = some (.map (some mL)) ∧ w'.cell? ⟨bb, 10, none⟩ = some (.slice oA oN oC) ∧ (Sem.run Tryz.prog (Instr.lookup 74 (.map (some mO)) (.string e.account) false) w' = .ok (.int .i64 OW) w') ∧ Below W0.heap.size W0 w')
            (first | with_reducible exact ⟨g0, g1, g2, g3, g4, g5, g6, g7, g8⟩ | with_reducible exact HK.out _ (below_ad hV0 hV0.size _) | with_reducible exact HK.out _ (by with_reducible assumption) | with_reducible exact HK.out _ (Below.alloc (by with_reducible assumption) (Below.size (by with_reducible assumption)) _) | with_reducible exact HK.out _ (set4' (by with_reducible assumption) hV0.size _ _ _ _))
            (first
              | (go_at_call 46; refine (hfind _ (by with_reducible exact g8)).mono ?_; rintro en w1 ⟨rfl, hb1⟩; have g3' : Below W0.heap.size W0 w1 := (by with_reducible exact grow_plain (V := W0) hV0 hV0.size hb1); obtain ⟨k0, k1, k2, k3, k4, k5, k6, k7, k8⟩ := HK.out w1 g3'; clear g3' hfind)
              | (go_at_call 46; refine (hfind _ (by with_reducible exact below_ad hV0 hV0.size _)).mono ?_; rintro en w1 ⟨rfl, hb1⟩; have gp : Below W0.heap.size W0 w1 ∧ w1.heap[W0.heap.size]? = some (.cells noBox 65 (0, 0)) := (by with_reducible exact grow_past (V := W0) hV0 hV0.size hb1); obtain ⟨g3', hbx⟩ := gp; obtain ⟨k0, k1, k2, k3, k4, k5, k6, k7, k8⟩ := HK.out w1 g3'; obtain ⟨hbk, hbk1, hbk2, hbk3, hbf, hbf1, hbf2, hbf3⟩ := box_facts hbx; clear g3' hfind))
          all_goals first
            | (have hX := box_set hbx a
               have hB2 := set4 k8 (p := ⟨W0.heap.size, 0, none⟩) (q := ⟨W0.heap.size, 1, none⟩) (r := ⟨W0.heap.size, 2, none⟩) (s := ⟨W0.heap.size, 3, none⟩) hV0.size hV0.size hV0.size hV0.size (.string a.name) (.int .i64 a.typ) (.int .i64 a.opened) (.bool a.closed)
               obtain ⟨W2, hW2_⟩ : ∃ W2, (((w1.setCell ⟨W0.heap.size, 0, none⟩ (.string a.name)).setCell ⟨W0.heap.size, 1, none⟩ (.int .i64 a.typ)).setCell ⟨W0.heap.size, 2, none⟩ (.int .i64 a.opened)).setCell ⟨W0.heap.size, 3, none⟩ (.bool a.closed) = W2 := ⟨_, rfl⟩
               rw [hW2_] at hX hB2 ⊢
               clear hW2_
               obtain ⟨yb, hxb_⟩ : ∃ yb, W0.heap.size = yb := ⟨_, rfl⟩
               rw [hxb_] at hX
               simp only [hxb_]
               clear hxb_)
            | (have hX := World.alloc_heap_new w1 (.cells #[.string a.name, .int .i64 a.typ, .int .i64 a.opened, .bool a.closed] 65)
               have hB2 := k8.alloc k8.size (.cells #[.string a.name, .int .i64 a.typ, .int .i64 a.opened, .bool a.closed] 65)
               obtain ⟨W2, hW2_⟩ : ∃ W2, w1.alloc (.cells #[.string a.name, .int .i64 a.typ, .int .i64 a.opened, .bool a.closed] 65) = W2 := ⟨_, rfl⟩
               rw [hW2_] at hX hB2 ⊢
               clear hW2_
               obtain ⟨yb, hxb_⟩ : ∃ yb, w1.heap.size = yb := ⟨_, rfl⟩
               rw [hxb_] at hX
               simp only [hxb_]
               clear hxb_)
          all_goals
            have hx3 : W2.cell? ⟨yb, 3, none⟩ = some (.bool false) := by rw [(box_cells hX).2.2.2, HCL.out]
            have hxy : W2.cell? ⟨yb, 2, none⟩ = some (.int .i64 a.opened) := (box_cells hX).2.2.1
            have hyl := heap_lt hX
            have HXY := Lib.hid hxy
            clear hX hxy
            go_wp2
            obtain ⟨q0, q1, q2, q3, q4, q5, q6, q7, q8⟩ := HK.out W2.drew hB2.drew
            refine wp_region_held_drew (S := fun w' => w'.cell? ⟨bb, 1, none⟩ = some (.pointer (some ⟨cb, 0, none⟩)) ∧ w'.cell? ⟨xb, 0, none⟩ = some (.pointer (some ⟨eb, 0, none⟩)) ∧ w'.cell? ⟨eb, 3, none⟩ = some (.string e.account) ∧ w'.cell? ⟨eb, 1, none⟩ = some (.int .i64 e.day) ∧ w'.cell? ⟨bb, 5, none⟩ = some (.map (some mO)) ∧ w'.cell? ⟨bb, 6, none⟩ = some (.map (some mL)) ∧ w'.cell? ⟨bb, 10, none⟩ = some (.slice oA oN oC) ∧ (Sem.run Tryz.prog (Instr.lookup 74 (.map (some mO)) (.string e.account) false) w' = .ok (.int .i64 OW) w') ∧ Below W0.heap.size W0 w') (by kernel_rfl) ⟨q0, q1, q2, q3, q4, q5, q6, q7, q8⟩ (fun hHeld => ?_)
            refine wpAnyH_take (i := 0) (v := ?_) rfl (by kernel_rfl) (by kernel_rfl) (by kernel_rfl) (fun _ _ _ h => h) (Or.inl ⟨by kernel_rfl, ?y0⟩) (by assumption) ?_
            case y0 =>
              intro w0 hSw
              (try dsimp only at hSw)
              go_simp
              try with_reducible rfl
            try simp only [Act.put, qa10, qb10, qc10, qd10, qe10, qf10]
            refine wpAnyH_take (i := 1) (v := ?_) rfl (by kernel_rfl) (by kernel_rfl) (by kernel_rfl) (fun _ _ _ h => h) (Or.inl ⟨by kernel_rfl, ?y1⟩) (by assumption) ?_
            case y1 =>
              intro w0 hSw
              (try dsimp only at hSw)
              go_simp
              try with_reducible rfl
            try simp only [Act.put, qa10, qb10, qc10, qd10, qe10, qf10]
            refine wpAnyH_take (i := 2) (v := ?_) rfl (by kernel_rfl) (by kernel_rfl) (by kernel_rfl) (fun _ _ _ h => h) (Or.inl ⟨by kernel_rfl, ?y2⟩) (by assumption) ?_
            case y2 =>
              intro w0 hSw
              (try dsimp only at hSw)
              go_simp
              try with_reducible rfl
            try simp only [Act.put, qa10, qb10, qc10, qd10, qe10, qf10]
            refine wpAnyH_take (i := 3) (v := ?_) rfl (by kernel_rfl) (by kernel_rfl) (by kernel_rfl) (fun _ _ _ h => h) (Or.inl ⟨by kernel_rfl, ?y3⟩) (by assumption) ?_
            case y3 =>
              intro w0 hSw
              (try dsimp only at hSw)
              go_simp
              try with_reducible rfl
            try simp only [Act.put, qa10, qb10, qc10, qd10, qe10, qf10]
            refine wpAnyH_take (i := 4) (v := ?_) rfl (by kernel_rfl) (by kernel_rfl) (by kernel_rfl) (fun _ _ _ h => h) (Or.inl ⟨by kernel_rfl, ?y4⟩) (by assumption) ?_
            case y4 =>
              intro w0 hSw
              (try dsimp only at hSw)
              go_simp
              try with_reducible rfl
            try simp only [Act.put, qa10, qb10, qc10, qd10, qe10, qf10]
            refine wpAnyH_take (i := 5) (v := ?_) rfl (by kernel_rfl) (by kernel_rfl) (by kernel_rfl) (fun _ _ _ h => h) (Or.inl ⟨by kernel_rfl, ?y5⟩) (by assumption) ?_
            case y5 =>
              intro w0 hSw
              (try dsimp only at hSw)
              go_simp
              try with_reducible rfl
            try simp only [Act.put, qa10, qb10, qc10, qd10, qe10, qf10]
            refine wpAnyH_take (i := 6) (v := ?_) rfl (by kernel_rfl) (by kernel_rfl) (by kernel_rfl) (fun _ _ _ h => h) (Or.inl ⟨by kernel_rfl, ?y6⟩) (by assumption) ?_
            case y6 =>
              intro w0 hSw
              (try dsimp only at hSw)
              go_simp
              try with_reducible rfl
            try simp only [Act.put, qa10, qb10, qc10, qd10, qe10, qf10]
            refine wpAnyH_take (i := 7) (v := ?_) rfl (by kernel_rfl) (by kernel_rfl) (by kernel_rfl) (fun _ _ _ h => h) (Or.inl ⟨by kernel_rfl, ?y7⟩) (by assumption) ?_
            case y7 =>
              intro w0 hSw
              (try dsimp only at hSw)
              go_simp
              try with_reducible rfl
            try simp only [Act.put, qa10, qb10, qc10, qd10, qe10, qf10]
            refine wpAnyH_take (i := 9) (v := ?_) rfl (by kernel_rfl) (by kernel_rfl) (by kernel_rfl) (fun _ _ _ h => h) (Or.inl ⟨by kernel_rfl, ?y9⟩) (by assumption) ?_
            case y9 =>
              intro w0 hSw
              (try dsimp only at hSw)
              go_simp
              try with_reducible rfl
            try simp only [Act.put, qa10, qb10, qc10, qd10, qe10, qf10]
            refine wpAnyH_take (i := 10) (v := ?_) rfl (by kernel_rfl) (by kernel_rfl) (by kernel_rfl) (fun _ _ _ h => h) (Or.inl ⟨by kernel_rfl, ?y10⟩) (by assumption) ?_
            case y10 =>
              intro w0 hSw
              (try dsimp only at hSw)
              go_simp
              try with_reducible rfl
            try simp only [Act.put, qa10, qb10, qc10, qd10, qe10, qf10]
            refine wpAnyH_ready (rs := [8]) (by kernel_rfl) (by simp) (AllReadyH.cons rfl (fun K hK => ?_) AllReadyH.nil)
            go_simp
            go_at_call 90; refine (hkids _ q8).mono ?_; rintro en w3 ⟨kv, rfl, hown, hb3⟩; have hcon := hcont w3 (q8.trans (hb3.mono q8.size)) kv _ hown; obtain ⟨kA, kC, hkv⟩ : ∃ kA kC, kv = .slice kA KL.length kC := (by rcases hown.2 with ⟨h1, h2⟩ | ⟨g, cap, cur, h1, _⟩; exact ⟨none, 0, by rw [h1, h2]⟩; exact ⟨_, _, h1⟩); subst hkv; clear hkids; have qb := q8.trans (hb3.mono q8.size); have QK := HK.out _ qb; clear q0 q1 q2 q3 q4 q5 q6 q7 q8 qb; obtain ⟨q0, q1, q2, q3, q4, q5, q6, q7, q8⟩ := QK
            go_wp2_with fail
            refine hK.out _ _ ⟨q0, q1, q2, q3, q4, q5, q6, q7, q8⟩ (fun hHeld => ?_)
            clear hK K
            try simp only [Act.put, qa10, qb10, qc10, qd10, qe10, qf10]
            refine wpAnyH_ready (rs := [11]) (by kernel_rfl) (by simp) (AllReadyH.cons rfl (fun K hK => ?_) AllReadyH.nil)
            go_simp
            go_at_call 89; refine hcon.mono ?_; rintro en w4 ⟨rfl, hb4⟩; clear hcon hown; have qb := q8.trans (hb4.mono q8.size); have QK := HK.out _ qb; clear q0 q1 q2 q3 q4 q5 q6 q7 q8 qb; obtain ⟨q0, q1, q2, q3, q4, q5, q6, q7, q8⟩ := QK
            go_wp2_with fail
            refine hK.out _ _ ⟨q0, q1, q2, q3, q4, q5, q6, q7, q8⟩ (fun hHeld => ?_)
            clear hK K
            try simp only [Act.put, qa10, qb10, qc10, qd10, qe10, qf10]
            refine wpAnyH_take (i := 12) (v := ?_) rfl (by kernel_rfl) (by kernel_rfl) (by kernel_rfl) (fun _ _ _ h => h) (Or.inl ⟨by kernel_rfl, ?y12⟩) (by assumption) ?_
            case y12 =>
              intro w0 hSw
              (try dsimp only at hSw)
              go_simp
              try with_reducible rfl
            try simp only [Act.put, qa10, qb10, qc10, qd10, qe10, qf10]
            refine wpAnyH_take (i := 13) (v := ?_) rfl (by kernel_rfl) (by kernel_rfl) (by kernel_rfl) (fun _ _ _ h => h) (Or.inl ⟨by kernel_rfl, ?y13⟩) (by assumption) ?_
            case y13 =>
              intro w0 hSw
              (try dsimp only at hSw)
              go_simp
              try with_reducible rfl
            try simp only [Act.put, qa10, qb10, qc10, qd10, qe10, qf10]
            refine wpAnyH_take (i := 14) (v := ?_) rfl (by kernel_rfl) (by kernel_rfl) (by kernel_rfl) (fun _ _ _ h => h) (Or.inl ⟨by kernel_rfl, ?y14⟩) (by assumption) ?_
            case y14 =>
              intro w0 hSw
              (try dsimp only at hSw)
              go_simp
              try with_reducible rfl
            try simp only [Act.put, qa10, qb10, qc10, qd10, qe10, qf10]
            refine wpAnyH_take (i := 15) (v := ?_) rfl (by kernel_rfl) (by kernel_rfl) (by kernel_rfl) (fun _ _ _ h => h) (Or.inl ⟨by kernel_rfl, ?y15⟩) (by assumption) ?_
            case y15 =>
              intro w0 hSw
              (try dsimp only at hSw)
              go_simp
              try with_reducible rfl
            try simp only [Act.put, qa10, qb10, qc10, qd10, qe10, qf10]
            refine wpAnyH_take (i := 16) (v := ?_) rfl (by kernel_rfl) (by kernel_rfl) (by kernel_rfl) (fun _ _ _ h => h) (Or.inl ⟨by kernel_rfl, ?y16⟩) (by assumption) ?_
            case y16 =>
              intro w0 hSw
              (try dsimp only at hSw)
              go_simp
              try with_reducible rfl
            try simp only [Act.put, qa10, qb10, qc10, qd10, qe10, qf10]
            refine wpAnyH_take (i := 17) (v := ?_) rfl (by kernel_rfl) (by kernel_rfl) (by kernel_rfl) (fun _ _ _ h => h) (Or.inl ⟨by kernel_rfl, ?y17⟩) (by assumption) ?_
            case y17 =>
              intro w0 hSw
              (try dsimp only at hSw)
              go_simp
              try with_reducible rfl
            try simp only [Act.put, qa10, qb10, qc10, qd10, qe10, qf10]
            refine wpAnyH_take (i := 18) (v := ?_) rfl (by kernel_rfl) (by kernel_rfl) (by kernel_rfl) (fun _ _ _ h => h) (Or.inl ⟨by kernel_rfl, ?y18⟩) (by assumption) ?_
            case y18 =>
              intro w0 hSw
              (try dsimp only at hSw)
              go_simp
              try with_reducible rfl
            try simp only [Act.put, qa10, qb10, qc10, qd10, qe10, qf10]
            refine wpAnyH_take (i := 19) (v := ?_) rfl (by kernel_rfl) (by kernel_rfl) (by kernel_rfl) (fun _ _ _ h => h) (Or.inl ⟨by kernel_rfl, ?y19⟩) (by assumption) ?_
            case y19 =>
              intro w0 hSw
              (try dsimp only at hSw)
              go_simp
              try with_reducible rfl
            try simp only [Act.put, qa10, qb10, qc10, qd10, qe10, qf10]
            refine wpAnyH_take (i := 20) (v := ?_) rfl (by kernel_rfl) (by kernel_rfl) (by kernel_rfl) (fun _ _ _ h => h) (Or.inl ⟨by kernel_rfl, ?y20⟩) (by assumption) ?_
            case y20 =>
              intro w0 hSw
              (try dsimp only at hSw)
              go_simp
              try with_reducible rfl
            try simp only [Act.put, qa10, qb10, qc10, qd10, qe10, qf10]
            refine wpAnyH_take (i := 21) (v := ?_) rfl (by kernel_rfl) (by kernel_rfl) (by kernel_rfl) (fun _ _ _ h => h) (Or.inl ⟨by kernel_rfl, ?y21⟩) (by assumption) ?_
            case y21 =>
              intro w0 hSw
              (try dsimp only at hSw)
              go_simp
              try with_reducible rfl
            try simp only [Act.put, qa10, qb10, qc10, qd10, qe10, qf10]
            refine wpAnyH_take (i := 22) (v := ?_) rfl (by kernel_rfl) (by kernel_rfl) (by kernel_rfl) (fun _ _ _ h => h) (Or.inl ⟨by kernel_rfl, ?y22⟩) (by assumption) ?_
            case y22 =>
              intro w0 hSw
              (try dsimp only at hSw)
              go_simp
              try with_reducible rfl
            try simp only [Act.put, qa10, qb10, qc10, qd10, qe10, qf10]
            refine wpAnyH_take (i := 23) (v := ?_) rfl (by kernel_rfl) (by kernel_rfl) (by kernel_rfl) (fun _ _ _ h => h) (Or.inl ⟨by kernel_rfl, ?y23⟩) (by assumption) ?_
            case y23 =>
              intro w0 hSw
              (try dsimp only at hSw)
              go_simp
              try with_reducible rfl
            try simp only [Act.put, qa10, qb10, qc10, qd10, qe10, qf10]
            refine wpAnyH_take (i := 24) (v := ?_) rfl (by kernel_rfl) (by kernel_rfl) (by kernel_rfl) (fun _ _ _ h => h) (Or.inl ⟨by kernel_rfl, ?y24⟩) (by assumption) ?_
            case y24 =>
              intro w0 hSw
              (try dsimp only at hSw)
              go_simp
              try with_reducible rfl
            try simp only [Act.put, qa10, qb10, qc10, qd10, qe10, qf10]
            refine wpAnyH_take (i := 25) (v := undef) rfl (by kernel_rfl) (by kernel_rfl) (by kernel_rfl) (fun _ _ _ h => h) (Or.inr ⟨by kernel_rfl, rfl⟩) (by assumption) ?_
            try simp only [Act.put, qa10, qb10, qc10, qd10, qe10, qf10]
            refine wpAnyH_take (i := 26) (v := undef) rfl (by kernel_rfl) (by kernel_rfl) (by kernel_rfl) (fun _ _ _ h => h) (Or.inr ⟨by kernel_rfl, rfl⟩) (by assumption) ?_
            try simp only [Act.put, qa10, qb10, qc10, qd10, qe10, qf10]
            refine wpAnyH_take (i := 27) (v := undef) rfl (by kernel_rfl) (by kernel_rfl) (by kernel_rfl) (fun _ _ _ h => h) (Or.inr ⟨by kernel_rfl, rfl⟩) (by assumption) ?_
            try simp only [Act.put, qa10, qb10, qc10, qd10, qe10, qf10]
            refine wpAnyH_take (i := 28) (v := undef) rfl (by kernel_rfl) (by kernel_rfl) (by kernel_rfl) (fun _ _ _ h => h) (Or.inr ⟨by kernel_rfl, rfl⟩) (by assumption) ?_
            try simp only [Act.put, qa10, qb10, qc10, qd10, qe10, qf10]
            refine wpAnyH_take (i := 29) (v := undef) rfl (by kernel_rfl) (by kernel_rfl) (by kernel_rfl) (fun _ _ _ h => h) (Or.inr ⟨by kernel_rfl, rfl⟩) (by assumption) ?_
            try simp only [Act.put, qa10, qb10, qc10, qd10, qe10, qf10]
            refine wpAnyH_take (i := 30) (v := undef) rfl (by kernel_rfl) (by kernel_rfl) (by kernel_rfl) (fun _ _ _ h => h) (Or.inr ⟨by kernel_rfl, rfl⟩) (by assumption) ?_
            try simp only [Act.put, qa10, qb10, qc10, qd10, qe10, qf10]
            refine wpAnyH_take (i := 31) (v := ?_) rfl (by kernel_rfl) (by kernel_rfl) (by kernel_rfl) (fun _ _ _ h => h) (Or.inl ⟨by kernel_rfl, ?y31⟩) (by assumption) ?_
            case y31 =>
              intro w0 hSw
              (try dsimp only at hSw)
              go_simp
              try with_reducible rfl
            try simp only [Act.put, qa10, qb10, qc10, qd10, qe10, qf10]
            refine wpAnyH_take (i := 32) (v := ?_) rfl (by kernel_rfl) (by kernel_rfl) (by kernel_rfl) (fun _ _ _ h => h) (Or.inl ⟨by kernel_rfl, ?y32⟩) (by assumption) ?_
            case y32 =>
              intro w0 hSw
              (try dsimp only at hSw)
              go_simp
              try with_reducible rfl
            try simp only [Act.put, qa10, qb10, qc10, qd10, qe10, qf10]
            refine wpAnyH_done (by kernel_rfl) ?_ _
            go_wp2
            go_ret
            exact ⟨rfl, hBK _ q8⟩
end
end Go.Proofs.YtgocoofcelggcaaGreatDoor
