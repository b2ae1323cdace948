/- What holds of the books holds behind an event that is taken; no walk here. Printed by gen_ok.py; New books; Apply: refused; what its long way leans on. Printed by gen_apply1.py; append of rows that can be read; copied and num of the statements' helpers. -/
import Derived.Test.YtgocoofcelggcaaGreatDoorPack11
import Derived.Test.YtgocoofcelggcaaGreatDoorPack9
import Derived.Laws.AppendOwnNone
import Derived.Deep.RegionHeld3
namespace Go.Proofs.YtgocoofcelggcaaGreatDoor
set_option linter.unusedVariables false
set_option linter.unusedSimpArgs false

theorem linesFrom_day (S : BookS) (e : EventV) (s : Int) : ∀ (l : List LineV) (i : Nat), ∀ r ∈ linesFrom S e s i l, r.day = e.day
  | [], _, r, hr => by simp [linesFrom] at hr
  | x :: l, i, r, hr => by
    unfold linesFrom at hr
    rcases List.mem_cons.1 hr with rfl | hr
    · rfl
    · exact linesFrom_day S e s l (i + 1) r hr
theorem rows_day (S : BookS) (e : EventV) : ∀ r ∈ rowsOf S e, r.day = e.day := by
  intro r hr
  unfold rowsOf at hr
  split at hr
  · exact linesFrom_day S e 1 _ 0 r hr
  split at hr
  · split at hr
    · simp at hr
    · exact linesFrom_day S e (-1) _ 0 r hr
  split at hr
  · simp at hr; rcases hr with rfl | rfl <;> rfl
  split at hr
  · simp at hr; rcases hr with rfl | rfl <;> rfl
  · simp at hr
theorem Taken.day {S : BookS} {e : EventV} (h : Taken S e) : 1 ≤ e.day ∧ e.day ≤ 3652059 := by
  have := h.ev
  unfold evB dayB at this
  simp at this
  exact this.1.1
theorem Taken.key {S : BookS} {e : EventV} (h : Taken S e) (hk : keyedB e.kind = true) : e.key.size ≤ 24 := by
  have hf := h.fields
  unfold keyedB at hk
  simp at hk
  apply keyB_size
  unfold fieldsB at hf
  rcases (by omega : e.kind = 3 ∨ e.kind = 4 ∨ e.kind = 5 ∨ e.kind = 6 ∨ e.kind = 7) with h | h | h | h | h <;> (simp [h] at hf; simp [hf])

theorem ok_took {S : BookS} {e : EventV} (ht : OkT S) (hin : InEv e) (hk : Taken S e) : OkT (tookS S e) := by
  have ho := ht.ok
  obtain ⟨hl, ha⟩ := rows_facts ht hin hk.fields
  have e0 := ho.ev0
  have e1 := hk.many
  refine ⟨?_, ht.entAmt⟩
  exact {
    ev0 := by show 0 ≤ S.events + 1; omega
    ev1 := by show S.events + 1 ≤ 1000; omega
    chart := ho.chart
    keysLe := by
      show (((if keyedB e.kind then S.keys ++ [e.key] else S.keys).length : Nat) : Int) ≤ S.events + 1
      have := ho.keysLe
      split
      · simp; omega
      · omega
    keys := by
      show ∀ k ∈ (if keyedB e.kind then S.keys ++ [e.key] else S.keys), k.size ≤ 24
      intro k hkm
      split at hkm
      · rename_i hkd
        rcases List.mem_append.1 hkm with h | h
        · exact ho.keys k h
        · simp at h; subst h; exact hk.key hkd
      · exact ho.keys k hkm
    rowsLe := by
      show (((S.rows ++ rowsOf S e).length : Nat) : Int) ≤ 12 * (S.events + 1)
      have := ho.rowsLe
      rw [List.length_append]
      omega
    turn := by
      show sumAbs (S.rows ++ rowsOf S e) = S.turnover + sumAbs (rowsOf S e)
      rw [sumAbs_append, ho.turn]
    turnLe := hk.grown
    rowsAmt := fun r hr => by
      rcases List.mem_append.1 hr with h | h
      · exact ho.rowsAmt r h
      · exact ha r h
    rowsDay := fun r hr => by
      rcases List.mem_append.1 hr with h | h
      · exact ho.rowsDay r h
      · rw [rows_day S e r h]; exact hk.day
    entLe := by show (S.entries.length : Int) ≤ S.events + 1; have := ho.entLe; omega
    entKeys := ho.entKeys
    entIn := fun x hx => by
      show x.key ∈ (if keyedB e.kind then S.keys ++ [e.key] else S.keys)
      split
      · exact List.mem_append_left _ (ho.entIn x hx)
      · exact ho.entIn x hx
    entFit := ho.entFit
    claLe := by show (S.claims.length : Int) ≤ S.events + 1; have := ho.claLe; omega
    claKeys := ho.claKeys
    claIn := fun x hx => by
      show x.key ∈ (if keyedB e.kind then S.keys ++ [e.key] else S.keys)
      split
      · exact List.mem_append_left _ (ho.claIn x hx)
      · exact ho.claIn x hx
    claAmt := ho.claAmt
    allLe := by show (S.allots.length : Int) ≤ S.events + 1; have := ho.allLe; omega
    lock := ho.lock }

theorem voidL_mem (k v : ByteArray) : ∀ (l : List EntryV) (x : EntryV), x ∈ voidL k v l → ∃ y ∈ l, x.key = y.key ∧ x.lines = y.lines
  | [], x, h => by simp [voidL] at h
  | y :: l, x, h => by
    unfold voidL at h
    split at h
    · rcases List.mem_cons.1 h with rfl | h
      · exact ⟨y, by simp, rfl, rfl⟩
      · exact ⟨x, by simp [h], rfl, rfl⟩
    · rcases List.mem_cons.1 h with rfl | h
      · exact ⟨x, by simp, rfl, rfl⟩
      · obtain ⟨z, hz, h1⟩ := voidL_mem k v l x h
        exact ⟨z, by simp [hz], h1⟩
theorem voidL_len (k v : ByteArray) : ∀ (l : List EntryV), (voidL k v l).length = l.length
  | [] => rfl
  | y :: l => by
    unfold voidL
    split
    · rfl
    · rw [List.length_cons, voidL_len k v l, List.length_cons]
theorem voidL_pair (k v : ByteArray) : ∀ (l : List EntryV), (l.Pairwise fun x y => x.key ≠ y.key) → (voidL k v l).Pairwise fun x y => x.key ≠ y.key
  | [], _ => List.Pairwise.nil
  | y :: l, h => by
    rw [List.pairwise_cons] at h
    unfold voidL
    split
    · rw [List.pairwise_cons]; exact h
    · rw [List.pairwise_cons]
      refine ⟨fun x hx => ?_, voidL_pair k v l h.2⟩
      obtain ⟨z, hz, h1, _⟩ := voidL_mem k v l x hx
      rw [h1]
      exact h.1 z hz
theorem useL_mem (k : ByteArray) (n : Int) : ∀ (l : List ClaimV) (x : ClaimV), x ∈ useL k n l → ∃ y ∈ l, x.key = y.key
  | [], x, h => by simp [useL] at h
  | y :: l, x, h => by
    unfold useL at h
    split at h
    · rcases List.mem_cons.1 h with rfl | h
      · exact ⟨y, by simp, rfl⟩
      · exact ⟨x, by simp [h], rfl⟩
    · rcases List.mem_cons.1 h with rfl | h
      · exact ⟨x, by simp, rfl⟩
      · obtain ⟨z, hz, h1⟩ := useL_mem k n l x h
        exact ⟨z, by simp [hz], h1⟩
theorem useL_pair (k : ByteArray) (n : Int) : ∀ (l : List ClaimV), (l.Pairwise fun x y => x.key ≠ y.key) → (useL k n l).Pairwise fun x y => x.key ≠ y.key
  | [], _ => List.Pairwise.nil
  | y :: l, h => by
    rw [List.pairwise_cons] at h
    unfold useL
    split
    · rw [List.pairwise_cons]; exact h
    · rw [List.pairwise_cons]
      refine ⟨fun x hx => ?_, useL_pair k n l h.2⟩
      obtain ⟨z, hz, h1⟩ := useL_mem k n l x hx
      rw [h1]
      exact h.1 z hz
/-- Claims with more used: at i alone. -/
theorem useL_amt (k : ByteArray) (n : Int) (l : List ClaimV) (i : Nat) (hi : i < l.length) (hix : (l.findIdx? fun x => decide (x.key = k)) = some i) (hn : 0 ≤ n) (hle : n ≤ l[i].amount - l[i].used)
    (h : ∀ x ∈ l, 0 < x.amount ∧ x.amount ≤ maxA ∧ 0 ≤ x.used ∧ x.used ≤ x.amount) : ∀ x ∈ useL k n l, 0 < x.amount ∧ x.amount ≤ maxA ∧ 0 ≤ x.used ∧ x.used ≤ x.amount := by
  rw [useL_at k n l i hix]
  intro x hx
  obtain ⟨j, hj, rfl⟩ := List.getElem_of_mem hx
  rw [List.length_modify] at hj
  rw [List.getElem_modify]
  have := h _ (List.getElem_mem hj)
  split
  · rename_i e
    subst e
    simp only
    omega
  · exact this

theorem ok_keep {S : BookS} {e : EventV} (ht : OkT S) (hin : InEv e) (hk : Taken S e) : OkT (keepS (tookS S e) e) := by
  have hT := ok_took ht hin hk
  have ho := ht.ok
  have hkeys : keyedB e.kind = true → (tookS S e).keys = S.keys ++ [e.key] := fun h => by unfold tookS; simp [h]
  unfold keepS
  split
  · refine ⟨?_, hT.entAmt⟩
    exact {
      ev0 := hT.ok.ev0
      ev1 := hT.ok.ev1
      chart := open_valid ho.chart _ _ _
      keysLe := hT.ok.keysLe
      keys := hT.ok.keys
      rowsLe := hT.ok.rowsLe
      turn := hT.ok.turn
      turnLe := hT.ok.turnLe
      rowsAmt := hT.ok.rowsAmt
      rowsDay := hT.ok.rowsDay
      entLe := hT.ok.entLe
      entKeys := hT.ok.entKeys
      entIn := hT.ok.entIn
      entFit := hT.ok.entFit
      claLe := hT.ok.claLe
      claKeys := hT.ok.claKeys
      claIn := hT.ok.claIn
      claAmt := hT.ok.claAmt
      allLe := hT.ok.allLe
      lock := hT.ok.lock }
  split
  · refine ⟨?_, hT.entAmt⟩
    exact {
      ev0 := hT.ok.ev0
      ev1 := hT.ok.ev1
      chart := close_valid ho.chart _
      keysLe := hT.ok.keysLe
      keys := hT.ok.keys
      rowsLe := hT.ok.rowsLe
      turn := hT.ok.turn
      turnLe := hT.ok.turnLe
      rowsAmt := hT.ok.rowsAmt
      rowsDay := hT.ok.rowsDay
      entLe := hT.ok.entLe
      entKeys := hT.ok.entKeys
      entIn := hT.ok.entIn
      entFit := hT.ok.entFit
      claLe := hT.ok.claLe
      claKeys := hT.ok.claKeys
      claIn := hT.ok.claIn
      claAmt := hT.ok.claAmt
      allLe := hT.ok.allLe
      lock := hT.ok.lock }
  split
  · rename_i k3
    have hkd : keyedB e.kind = true := by rw [k3]; rfl
    have hfr := hk.fresh hkd
    have hfit : fitB e.lines = true := by
      have hf := hk.fields
      unfold fieldsB at hf
      simp [k3] at hf
      exact hf.2
    refine ⟨?_, fun x hx => ?_⟩
    · exact {
        ev0 := hT.ok.ev0
        ev1 := hT.ok.ev1
        chart := hT.ok.chart
        keysLe := hT.ok.keysLe
        keys := hT.ok.keys
        rowsLe := hT.ok.rowsLe
        turn := hT.ok.turn
        turnLe := hT.ok.turnLe
        rowsAmt := hT.ok.rowsAmt
        rowsDay := hT.ok.rowsDay
        entLe := by show (((S.entries ++ [_]).length : Nat) : Int) ≤ S.events + 1; have := ho.entLe; rw [List.length_append]; simp; omega
        entKeys := by
          show (S.entries ++ [_]).Pairwise _
          rw [List.pairwise_append]
          refine ⟨ho.entKeys, List.pairwise_singleton _ _, fun x hx y hy => ?_⟩
          simp at hy
          subst hy
          intro e'
          have e2 : x.key = e.key := e'
          exact hfr (e2 ▸ ho.entIn x hx)
        entIn := fun x hx => by
          show x.key ∈ (tookS S e).keys
          rw [hkeys hkd]
          rcases List.mem_append.1 hx with h | h
          · exact List.mem_append_left _ (ho.entIn x h)
          · simp at h; subst h; simp
        entFit := fun x hx => by
          rcases List.mem_append.1 hx with h | h
          · exact ho.entFit x h
          · simp at h; subst h; exact hfit
        claLe := hT.ok.claLe
        claKeys := hT.ok.claKeys
        claIn := hT.ok.claIn
        claAmt := hT.ok.claAmt
        allLe := hT.ok.allLe
        lock := hT.ok.lock }
    · rcases List.mem_append.1 hx with h | h
      · exact ht.entAmt x h
      · simp at h; subst h; exact (fit_amt hfit hin).2
  split
  · refine ⟨?_, fun x hx => ?_⟩
    · exact {
        ev0 := hT.ok.ev0
        ev1 := hT.ok.ev1
        chart := hT.ok.chart
        keysLe := hT.ok.keysLe
        keys := hT.ok.keys
        rowsLe := hT.ok.rowsLe
        turn := hT.ok.turn
        turnLe := hT.ok.turnLe
        rowsAmt := hT.ok.rowsAmt
        rowsDay := hT.ok.rowsDay
        entLe := by show (((voidL e.ref e.key S.entries).length : Nat) : Int) ≤ S.events + 1; rw [voidL_len]; have := ho.entLe; omega
        entKeys := voidL_pair _ _ _ ho.entKeys
        entIn := fun x hx => by
          obtain ⟨y, hy, h1, _⟩ := voidL_mem _ _ _ x hx
          show x.key ∈ (tookS S e).keys
          rw [h1]
          exact hT.ok.entIn y hy
        entFit := fun x hx => by
          obtain ⟨y, hy, _, h1⟩ := voidL_mem _ _ _ x hx
          rw [h1]
          exact ho.entFit y hy
        claLe := hT.ok.claLe
        claKeys := hT.ok.claKeys
        claIn := hT.ok.claIn
        claAmt := hT.ok.claAmt
        allLe := hT.ok.allLe
        lock := hT.ok.lock }
    · obtain ⟨y, hy, _, h1⟩ := voidL_mem _ _ _ x hx
      rw [h1]
      exact ht.entAmt y hy
  split
  · rename_i k5
    have hkd : keyedB e.kind = true := by rw [k5]; rfl
    have hfr := hk.fresh hkd
    have hpos : 0 < e.amount := by
      have hf := hk.fields
      unfold fieldsB at hf
      simp [k5] at hf
      omega
    have hamt := hin.amount
    refine ⟨?_, hT.entAmt⟩
    exact {
      ev0 := hT.ok.ev0
      ev1 := hT.ok.ev1
      chart := hT.ok.chart
      keysLe := hT.ok.keysLe
      keys := hT.ok.keys
      rowsLe := hT.ok.rowsLe
      turn := hT.ok.turn
      turnLe := hT.ok.turnLe
      rowsAmt := hT.ok.rowsAmt
      rowsDay := hT.ok.rowsDay
      entLe := hT.ok.entLe
      entKeys := hT.ok.entKeys
      entIn := hT.ok.entIn
      entFit := hT.ok.entFit
      claLe := by show (((S.claims ++ [_]).length : Nat) : Int) ≤ S.events + 1; have := ho.claLe; rw [List.length_append]; simp; omega
      claKeys := by
          show (S.claims ++ [_]).Pairwise _
          rw [List.pairwise_append]
          refine ⟨ho.claKeys, List.pairwise_singleton _ _, fun x hx y hy => ?_⟩
          simp at hy
          subst hy
          intro e'
          have e2 : x.key = e.key := e'
          exact hfr (e2 ▸ ho.claIn x hx)
      claIn := fun x hx => by
          show x.key ∈ (tookS S e).keys
          rw [hkeys hkd]
          rcases List.mem_append.1 hx with h | h
          · exact List.mem_append_left _ (ho.claIn x h)
          · simp at h; subst h; simp
      claAmt := fun x hx => by
          rcases List.mem_append.1 hx with h | h
          · exact ho.claAmt x h
          · simp at h; subst h; simp only; omega
      allLe := hT.ok.allLe
      lock := hT.ok.lock }
  split
  · rename_i k6
    have hkd : keyedB e.kind = true := by rw [k6]; rfl
    have hfr := hk.fresh hkd
    have hpos : 0 < e.amount := by
      have hf := hk.fields
      unfold fieldsB at hf
      simp [k6] at hf
      omega
    have hamt := hin.amount
    refine ⟨?_, hT.entAmt⟩
    exact {
      ev0 := hT.ok.ev0
      ev1 := hT.ok.ev1
      chart := hT.ok.chart
      keysLe := hT.ok.keysLe
      keys := hT.ok.keys
      rowsLe := hT.ok.rowsLe
      turn := hT.ok.turn
      turnLe := hT.ok.turnLe
      rowsAmt := hT.ok.rowsAmt
      rowsDay := hT.ok.rowsDay
      entLe := hT.ok.entLe
      entKeys := hT.ok.entKeys
      entIn := hT.ok.entIn
      entFit := hT.ok.entFit
      claLe := by show (((S.claims ++ [_]).length : Nat) : Int) ≤ S.events + 1; have := ho.claLe; rw [List.length_append]; simp; omega
      claKeys := by
          show (S.claims ++ [_]).Pairwise _
          rw [List.pairwise_append]
          refine ⟨ho.claKeys, List.pairwise_singleton _ _, fun x hx y hy => ?_⟩
          simp at hy
          subst hy
          intro e'
          have e2 : x.key = e.key := e'
          exact hfr (e2 ▸ ho.claIn x hx)
      claIn := fun x hx => by
          show x.key ∈ (tookS S e).keys
          rw [hkeys hkd]
          rcases List.mem_append.1 hx with h | h
          · exact List.mem_append_left _ (ho.claIn x h)
          · simp at h; subst h; simp
      claAmt := fun x hx => by
          rcases List.mem_append.1 hx with h | h
          · exact ho.claAmt x h
          · simp at h; subst h; simp only; omega
      allLe := hT.ok.allLe
      lock := hT.ok.lock }
  split
  · rename_i k7
    have hr := hk.refuse
    have href : refuseE S e = mayAllotE S e := by unfold refuseE; simp [k7]
    rw [href] at hr
    obtain ⟨p, q, hp, hq, h1, h2, h3, h4⟩ := allot_of hr
    obtain ⟨i, hi, hix, rfl⟩ := claim_ix hp
    obtain ⟨j, hj, hjx, rfl⟩ := claim_ix hq
    have hij : i ≠ j := fun e' => by subst e'; rw [h1] at h2; cases h2
    have hpos : 0 < e.amount := by have hf := hk.fields; unfold fieldsB at hf; simp [k7] at hf; omega
    have a1 := useL_amt e.ref e.amount S.claims i hi hix (by omega) h3 ho.claAmt
    have hjl : j < (useL e.ref e.amount S.claims).length := by rw [useL_len]; exact hj
    have hju : (useL e.ref e.amount S.claims)[j].used = S.claims[j].used ∧ (useL e.ref e.amount S.claims)[j].amount = S.claims[j].amount := by
      simp only [useL_at e.ref e.amount S.claims i hix, List.getElem_modify]
      rw [if_neg hij]
      exact ⟨rfl, rfl⟩
    have a2 := useL_amt e.ref2 e.amount (useL e.ref e.amount S.claims) j hjl (by rw [useL_find]; exact hjx) (by omega) (by rw [hju.1, hju.2]; exact h4) a1
    refine ⟨?_, hT.entAmt⟩
    exact {
      ev0 := hT.ok.ev0
      ev1 := hT.ok.ev1
      chart := hT.ok.chart
      keysLe := hT.ok.keysLe
      keys := hT.ok.keys
      rowsLe := hT.ok.rowsLe
      turn := hT.ok.turn
      turnLe := hT.ok.turnLe
      rowsAmt := hT.ok.rowsAmt
      rowsDay := hT.ok.rowsDay
      entLe := hT.ok.entLe
      entKeys := hT.ok.entKeys
      entIn := hT.ok.entIn
      entFit := hT.ok.entFit
      claLe := by show (((useL e.ref2 e.amount (useL e.ref e.amount S.claims)).length : Nat) : Int) ≤ S.events + 1; rw [useL_len, useL_len]; have := ho.claLe; omega
      claKeys := useL_pair _ _ _ (useL_pair _ _ _ ho.claKeys)
      claIn := fun x hx => by
          obtain ⟨y, hy, h5⟩ := useL_mem _ _ _ x hx
          obtain ⟨z, hz, h6⟩ := useL_mem _ _ _ y hy
          show x.key ∈ (tookS S e).keys
          rw [h5, h6]
          exact hT.ok.claIn z hz
      claAmt := a2
      allLe := by show (((S.allots ++ [_]).length : Nat) : Int) ≤ S.events + 1; have := ho.allLe; rw [List.length_append]; simp; omega
      lock := hT.ok.lock }
  · refine ⟨?_, hT.entAmt⟩
    exact {
      ev0 := hT.ok.ev0
      ev1 := hT.ok.ev1
      chart := hT.ok.chart
      keysLe := hT.ok.keysLe
      keys := hT.ok.keys
      rowsLe := hT.ok.rowsLe
      turn := hT.ok.turn
      turnLe := hT.ok.turnLe
      rowsAmt := hT.ok.rowsAmt
      rowsDay := hT.ok.rowsDay
      entLe := hT.ok.entLe
      entKeys := hT.ok.entKeys
      entIn := hT.ok.entIn
      entFit := hT.ok.entFit
      claLe := hT.ok.claLe
      claKeys := hT.ok.claKeys
      claIn := hT.ok.claIn
      claAmt := hT.ok.claAmt
      allLe := hT.ok.allLe
      lock := by have := hk.day; exact ⟨by show 0 ≤ e.day; omega, this.2⟩ }

theorem ok_apply {S : BookS} {e : EventV} (ht : OkT S) (hin : InEv e) : OkT (applyS S e) := by
  unfold applyS
  split
  · rename_i h
    exact ok_keep ht hin (taken_of h)
  · exact ht
theorem okT_new : OkT newS := ⟨ok_new, fun x hx => by simp [newS] at hx⟩
end Go.Proofs.YtgocoofcelggcaaGreatDoor
namespace Go.Proofs.YtgocoofcelggcaaGreatDoor
open Go.RowKit
set_option linter.unusedVariables false
set_option linter.unusedSimpArgs false

def newR (n : Nat) : Nat → Nat := fun k => if k = n ∨ k = n + 1 then 2 else if k = n + 2 then 4 else if k = n + 3 then 6 else if k = n + 4 then 7 else if k = n + 5 then 10 else if k = n + 6 then 11 else if k = n + 7 then 1 else 0
def newP (n : Nat) : Pl := ⟨n + 1, .slice none 0 0, .slice none 0 0, .slice none 0 0, .slice none 0 0, .slice none 0 0, n + 2, n + 3, n + 4, n + 5, n + 6, fun _ => .slice none 0 0, fun _ => 0⟩

theorem book_new {w W : World} (hs : W.heap.size = w.heap.size + 8) (hc : ChartAt W (fun k => w.heap.size ≤ k ∧ k < w.heap.size + 2) (w.heap.size + 1) [])
    (h2 : StrMap W (w.heap.size + 2) []) (h3 : StrMap W (w.heap.size + 3) []) (h4 : StrMap W (w.heap.size + 4) []) (h5 : StrMap W (w.heap.size + 5) []) (h6 : StrMap W (w.heap.size + 6) [])
    (h7 : W.heap[w.heap.size + 7]? = some (.cells ((newP w.heap.size).cells newS) 78 (0, 0))) : BookAt W (fun k => w.heap.size ≤ k ∧ k < w.heap.size + 8) (w.heap.size + 7) newS := by
  have hr : ∀ j, j < 8 → newR w.heap.size (w.heap.size + j) = [2, 2, 4, 6, 7, 10, 11, 1].getD j 0 := by
    intro j hj
    unfold newR
    rcases (by omega : j = 0 ∨ j = 1 ∨ j = 2 ∨ j = 3 ∨ j = 4 ∨ j = 5 ∨ j = 6 ∨ j = 7) with rfl | rfl | rfl | rfl | rfl | rfl | rfl | rfl <;> simp
  have hne : ∀ k, newR w.heap.size k ≠ 0 ↔ w.heap.size ≤ k ∧ k < w.heap.size + 8 := by
    intro k
    unfold newR
    constructor
    · intro h
      split at h
      · omega
      split at h
      · omega
      split at h
      · omega
      split at h
      · omega
      split at h
      · omega
      split at h
      · omega
      split at h
      · omega
      · exact absurd rfl h
    · intro h
      split
      · decide
      split
      · decide
      split
      · decide
      split
      · decide
      split
      · decide
      split
      · decide
      split
      · decide
      · omega
  refine ⟨newR w.heap.size, newP w.heap.size, ?_, fun k => (hne k).symm⟩
  exact {
    head := h7
    rH := hr 7 (by decide)
    chart := ⟨_, hc, fun k hk => ⟨by unfold newR; rw [if_pos (by omega)], by omega⟩⟩
    keys := ⟨World.ownsRow_nil _ _ _ _, fun k e => by cases e⟩
    known := ⟨⟨[], h2, fun k => ⟨fun _ => rfl, fun h => by simp [newS] at h⟩⟩, hr 2 (by decide)⟩
    rows := ⟨World.ownsRow_nil _ _ _ _, fun k e => by cases e⟩
    own := ⟨⟨[], h3, fun k => rfl⟩, hr 3 (by decide)⟩
    last := ⟨⟨[], h4, fun k => rfl⟩, hr 4 (by decide)⟩
    entries := ⟨World.ownsRow_nil _ _ _ _, fun k e => by cases e⟩
    lines := fun i hi => by simp [newS] at hi
    entry := ⟨⟨[], h5, fun k => rfl⟩, hr 5 (by decide)⟩
    claims := ⟨⟨[], h6, fun k => rfl⟩, hr 6 (by decide)⟩
    order := ⟨World.ownsRow_nil _ _ _ _, fun k e => by cases e⟩
    claim := fun i hi => by simp [newS] at hi
    inj := fun i j hi => by simp [newS] at hi
    allots := ⟨World.ownsRow_nil _ _ _ _, fun k e => by cases e⟩
    lt := fun k hk => by have := (hne k).1 hk; omega }
theorem at_new (V : World) (o : Obj) (k : Nat) (h : k = V.heap.size) : (V.alloc o).heap[k]? = some o := by subst h; exact World.alloc_heap_new V o
theorem at_old (V : World) (o : Obj) (k : Nat) (h : k < V.heap.size) : (V.alloc o).heap[k]? = V.heap[k]? := Below.heap_alloc V o k h
theorem six_alloc (V : World) (a b c d e f : Obj) : (((((((V.alloc a).alloc b).alloc c).alloc d).alloc e).alloc f).heap[V.heap.size]? = some a) ∧ (((((((V.alloc a).alloc b).alloc c).alloc d).alloc e).alloc f).heap[V.heap.size + 1]? = some b) ∧ (((((((V.alloc a).alloc b).alloc c).alloc d).alloc e).alloc f).heap[V.heap.size + 2]? = some c) ∧
    (((((((V.alloc a).alloc b).alloc c).alloc d).alloc e).alloc f).heap[V.heap.size + 3]? = some d) ∧ (((((((V.alloc a).alloc b).alloc c).alloc d).alloc e).alloc f).heap[V.heap.size + 4]? = some e) ∧ (((((((V.alloc a).alloc b).alloc c).alloc d).alloc e).alloc f).heap[V.heap.size + 5]? = some f) := by
  refine ⟨?_, ?_, ?_, ?_, ?_, ?_⟩
  · refine (at_old _ _ _ (by simp <;> omega)).trans ?_
    refine (at_old _ _ _ (by simp <;> omega)).trans ?_
    refine (at_old _ _ _ (by simp <;> omega)).trans ?_
    refine (at_old _ _ _ (by simp <;> omega)).trans ?_
    refine (at_old _ _ _ (by simp <;> omega)).trans ?_
    exact at_new _ _ _ (by simp)
  · refine (at_old _ _ _ (by simp <;> omega)).trans ?_
    refine (at_old _ _ _ (by simp <;> omega)).trans ?_
    refine (at_old _ _ _ (by simp <;> omega)).trans ?_
    refine (at_old _ _ _ (by simp <;> omega)).trans ?_
    exact at_new _ _ _ (by simp)
  · refine (at_old _ _ _ (by simp <;> omega)).trans ?_
    refine (at_old _ _ _ (by simp <;> omega)).trans ?_
    refine (at_old _ _ _ (by simp <;> omega)).trans ?_
    exact at_new _ _ _ (by simp)
  · refine (at_old _ _ _ (by simp <;> omega)).trans ?_
    refine (at_old _ _ _ (by simp <;> omega)).trans ?_
    exact at_new _ _ _ (by simp)
  · refine (at_old _ _ _ (by simp <;> omega)).trans ?_
    exact at_new _ _ _ (by simp)
  · exact at_new _ _ _ (by simp)

set_option maxRecDepth 100000 in
set_option maxHeartbeats 1000000 in
theorem New_book (w : World) :
    Calls Tryz.prog 15 #[] w fun e w' => e = .returned (ptrV (w.heap.size + 7)) ∧ BookAt w' (fun k => w.heap.size ≤ k ∧ k < w.heap.size + 8) (w.heap.size + 7) newS ∧ w'.heap.size = w.heap.size + 8 ∧ Below w.heap.size w w' := by
  have hmm := @run_makeMap Tryz.prog
  have hnew := New_any w
  unfold ptrV at hnew ⊢
  go_enter Tryz.func15, Tryz.ntmps15
  go_wp2_with (go_at_call 31; refine hnew.mono ?_; rintro e w1 ⟨rfl, hch, hs1, hb1⟩; have HCH := Lib.hid hch; have HS := Lib.hid hs1; have HB := Lib.hid hb1; clear hch hs1 hb1 hnew)
  go_ret
  have hs := HS.out
  have hb := HB.out
  have hbel : ∀ o, Below w1.heap.size w1 ((((((w1.alloc (.map #[] 0)).alloc (.map #[] 0)).alloc (.map #[] 0)).alloc (.map #[] 0)).alloc (.map #[] 0)).alloc o) := fun o => ((((((Below.refl w1.heap.size w1).alloc (Nat.le_refl _) (.map #[] 0)).alloc (by simp) (.map #[] 0)).alloc (by simp; omega) (.map #[] 0)).alloc (by simp; omega) (.map #[] 0)).alloc (by simp; omega) (.map #[] 0)).alloc (by simp; omega) o
  have h6 := fun o => six_alloc w1 (.map #[] 0) (.map #[] 0) (.map #[] 0) (.map #[] 0) (.map #[] 0) o
  rw [hs] at h6 ⊢
  obtain ⟨a0, a1, a2, a3, a4, a5⟩ := h6 (.cells ((newP w.heap.size).cells newS) 78 (0, 0))
  refine ⟨by simp [hs], ?_, by simp [hs], hb.trans ((hbel _).mono (show w.heap.size ≤ w1.heap.size by omega))⟩
  exact book_new (by simp [hs]) (HCH.out.below (hbel _)) ⟨#[], 0, a0, rfl⟩ ⟨#[], 0, a1, rfl⟩ ⟨#[], 0, a2, rfl⟩ ⟨#[], 0, a3, rfl⟩ ⟨#[], 0, a4, rfl⟩ a5
end Go.Proofs.YtgocoofcelggcaaGreatDoor
namespace Go.Proofs.YtgocoofcelggcaaGreatDoor
open Go.RowKit
set_option linter.unusedVariables false
set_option linter.unusedSimpArgs false

theorem act_keep {w : World} {F : Nat → Prop} {bb : Nat} {S : BookS} {e : EventV} {lv : Value} {R : Nat → Prop} (h : BookAt w F bb S) (ht : OkT S) (hz : SmallEv e) (hin : InEv e) (hL : LinesAt w R lv e.lines) (hk : Taken S e) : ∃ kd fm fr fk, ActOk w bb S e lv kd fm fr fk ∧ ∀ R', KeepOk bb S e lv R' fk := by
  have hf := hk.fields
  by_cases k1 : e.kind = 1
  · exact ⟨_, _, _, _, act_1 h ht hz hin hL hf k1, fun R' => keep_1 ht hz hin hk k1⟩
  by_cases k2 : e.kind = 2
  · exact ⟨_, _, _, _, act_2 h ht hz hin hL hf k2, fun R' => keep_2 ht hz hin hk k2⟩
  by_cases k3 : e.kind = 3
  · exact ⟨_, _, _, _, act_3 h ht hz hin hL hf k3, fun R' => keep_3 ht hz hin hk k3⟩
  by_cases k4 : e.kind = 4
  · exact ⟨_, _, _, _, act_4 h ht hz hin hL hf k4, fun R' => keep_4 ht hz hin hk k4⟩
  by_cases k5 : e.kind = 5
  · exact ⟨_, _, _, _, act_5 h ht hz hin hL hf k5, fun R' => keep_5 ht hz hin hk k5⟩
  by_cases k6 : e.kind = 6
  · exact ⟨_, _, _, _, act_6 h ht hz hin hL hf k6, fun R' => keep_6 ht hz hin hk k6⟩
  by_cases k7 : e.kind = 7
  · exact ⟨_, _, _, _, act_7 h ht hz hin hL hf k7, fun R' => keep_7 ht hz hin hk k7⟩
  have k8 : e.kind = 8 := by
    unfold fieldsB at hf
    simp [k1, k2, k3, k4, k5, k6, k7] at hf
    exact hf
  exact ⟨_, _, _, _, act_8 h ht hz hin hL hf k8, fun R' => keep_8 ht hz hin hk k8⟩

/-- The books while Apply goes on; w5: the world ahead of its first change; F: the books' blocks there. -/
structure ApSt (F : Nat → Prop) (w5 : World) (bb : Nat) (S : BookS) (V : World) (F' : Nat → Prop) : Prop where
  book : BookAt V F' bb S
  ch : Ch F w5 V
  new : ∀ k, F' k → F k ∨ (w5.heap.size ≤ k ∧ k < V.heap.size)
theorem ApSt.start {F : Nat → Prop} {w : World} {bb : Nat} {S : BookS} (h : BookAt w F bb S) : ApSt F w bb S w F := ⟨h, Ch.refl F w, fun k hk => .inl hk⟩
theorem ApSt.step {F F1 : Nat → Prop} {w5 V V' : World} {bb : Nat} {S1 S2 : BookS} {v : Value} {e : Ending} (h : ApSt F w5 bb S1 V F1) (hp : BookPost F1 bb S2 v V e V') : ∃ F2, ApSt F w5 bb S2 V' F2 := by
  obtain ⟨_, F2, h1, h2, h3⟩ := hp
  have hs1 := h.ch.size
  have hs2 := h2.size
  refine ⟨F2, h1, h.ch.trans h2 fun i hi => ?_, fun k hk => ?_⟩
  · rcases h.new i hi with h4 | h4
    · exact .inl h4
    · exact .inr h4.1
  · rcases h3 k hk with h4 | h4
    · rcases h.new k h4 with h5 | h5
      · exact .inl h5
      · exact .inr ⟨h5.1, by omega⟩
    · exact .inr ⟨by omega, h4.2⟩
/-- What is not the books' own is as it was. -/
theorem ApSt.far {F F1 : Nat → Prop} {w5 V : World} {bb : Nat} {S1 : BookS} (h : ApSt F w5 bb S1 V F1) {k : Nat} (hk : k < w5.heap.size) (hn : ¬ F k) : V.heap[k]? = w5.heap[k]? ∧ ¬ F1 k :=
  ⟨h.ch.block k hk hn, fun hf => by rcases h.new k hf with h1 | h1; exact hn h1; omega⟩
/-- The head's numbers turn. -/
theorem ApSt.nums {F F1 : Nat → Prop} {w5 V : World} {bb : Nat} {S : BookS} (h : ApSt F w5 bb S V F1) (n t : Int) : ∃ F2, ApSt F w5 bb { S with events := n, turnover := t } ((V.setCell ⟨bb, 13, none⟩ (.int .i64 t)).setCell ⟨bb, 0, none⟩ (.int .i64 n)) F2 := by
  obtain ⟨⟨ρ, p, hp, hF⟩, hch, hnew⟩ := h
  have hb : F1 bb := (hF bb).2 (by have := hp.rH; omega)
  have hd := heap_setCell_same (i := 0) (heap_setCell_same (i := 13) hp.head (.int .i64 t)) (.int .i64 n)
  have hsz : ((V.setCell ⟨bb, 13, none⟩ (.int .i64 t)).setCell ⟨bb, 0, none⟩ (.int .i64 n)).heap.size = V.heap.size := by simp [World.setCell]
  have hbp : BookPost F1 bb { S with events := n, turnover := t } (.tuple #[]) V (.returned (.tuple #[])) ((V.setCell ⟨bb, 13, none⟩ (.int .i64 t)).setCell ⟨bb, 0, none⟩ (.int .i64 n)) :=
    ⟨rfl, F1, ⟨ρ, p, hp.nums n S.lock t (by omega) hd fun k hk hn => (Below.heap_setCell _ _ _ _ hn).trans (Below.heap_setCell _ _ _ _ hn), hF⟩, ((Ch.refl F1 V).setCell (.inl hb) _).setCell (.inl hb) _, fun k hk => .inl hk⟩
  exact ApSt.step ⟨⟨ρ, p, hp, hF⟩, hch, hnew⟩ hbp

section
variable {w : World} {F : Nat → Prop} {bb : Nat} {S : BookS} {e : EventV} {lv : Value}
set_option maxRecDepth 100000 in
set_option maxHeartbeats 4000000 in
theorem apply_no (r : Int) (hr : r ≠ 0) (hchk : Calls Tryz.prog 21 #[ptrV bb, evV e lv] (w.alloc (.cells (evCs e lv) 25)) fun en w' => en = .returned (.int .i64 r) ∧ Below (w.alloc (.cells (evCs e lv) 25)).heap.size (w.alloc (.cells (evCs e lv) 25)) w') :
    Calls Tryz.prog 22 #[ptrV bb, evV e lv] w fun en w' => en = .returned (.tuple #[.slice none 0 0, .int .i64 r]) ∧ Below w.heap.size w w' := by
  have he : (r != 0) = true := by rw [bne_iff_ne]; exact hr
  have HW := Lib.hid (bel1 w (.cells #[.int .i64 e.kind, .int .i64 e.day, .string e.key, .string e.account, .string e.other, .string e.ref, .string e.ref2, .int .i64 e.typ, .int .i64 e.due, .int .i64 e.amount, .string e.memo, lv] 25))
  unfold evV evCs ptrV at hchk
  unfold ptrV evV
  clear hr
  go_enter Tryz.func22, Tryz.ntmps22
  go_wp2_with (go_at_call 21; refine hchk.mono ?_; rintro en w1 ⟨rfl, hb1⟩; have HB1 := Lib.hid hb1; clear hchk hb1)
  go_ret2
  exact ⟨rfl, HW.out.trans (HB1.out.mono HW.out.size)⟩
end
end Go.Proofs.YtgocoofcelggcaaGreatDoor
namespace Go.Proofs.YtgocoofcelggcaaGreatDoor
open Go.RowKit
set_option linter.unusedVariables false
set_option linter.unusedSimpArgs false

theorem grownBy_refl (w : World) (row : Option Nat) : w.grownBy w row := ⟨rfl, rfl, rfl, Nat.le_refl _, fun _ _ _ => rfl⟩

/-- Nil is as nil is. -/
def NilOk (v : Value) : Prop := ∀ n c, v = .slice none n c → n = 0 ∧ c = 0
theorem NilOk.own {w : World} {B e s n : Nat} {v : Value} {xs : List Value} (h : w.ownsRow B e s v n xs) : NilOk v := by
  intro m c e
  subst e
  rcases h.2 with ⟨hv, _⟩ | ⟨g, cap, cur, hv, _⟩
  · cases hv; exact ⟨rfl, rfl⟩
  · cases hv

/-- append of a row that can be read, nil or not. -/
theorem wpList_append_row {P : Program} {w : World} {ops : Array Oper} {rest : List Oper} {o : Oper} {a : Act} {Q : Exit → Act → World → Prop} (hgd : o.guard = none) (s x : Operand) (t : TypeId)
    (ho : o.op = .call { callee := .builtin .append, args := #[s, x], argTypes := #[t, t] })
    (base : Nat) (e : TypeId) (i : TypeInfo) (z : Value) (size bytes : Nat) (ht : P.underlying t = some (.slice e)) (hi : P.info? e = some i) (hz : i.zero = some z)
    (hsize : i.size = size) (hby : i.bytes = bytes) (hzs : z.cells.size = size) (hsz : 0 < size)
    (v : Value) (n : Nat) (xs : List Value) (hs : a.eval s = v) (hown : w.ownsRow base e size v n xs)
    {R : Nat → Prop} (rv : Value) (rs : List (List Value)) (hx : a.eval x = rv) (hrow : RowAt w R size rv rs) (hnil : NilOk rv) (hlen : ∀ x ∈ rs, x.length = size) (h1 : ∀ x ∈ rs, ∀ u ∈ x, u.oneCell' = true)
    (h63 : n + rs.length ≤ maxLen) (hbytes : (n + rs.length) * bytes ≤ 140737488355328) (hbase : base ≤ w.heap.size)
    (h : ∀ v' w', w'.ownsRow base e size v' (n + rs.length) (xs ++ rs.flatten) → w.grownBy w' v.ownBlock → (v'.ownBlock = v.ownBlock ∨ v'.ownBlock = some w.heap.size) → wpList P ops Q rest (a.put o.dst v') w') :
    wpList P ops Q (o :: rest) a w := by
  obtain ⟨A, c, hv, hcl⟩ := hrow
  subst hv
  cases A with
  | none =>
    have h0 : rs = [] := by
      cases rs with
      | nil => rfl
      | cons y ys => obtain ⟨ad, e, _⟩ := hcl 0 (by simp); cases e
    subst h0
    obtain ⟨_, rfl⟩ := hnil _ _ rfl
    exact wpList_append_own_none hgd s x t ho base e i size ht hi v n xs hs hown hx (h v w (by simpa using hown) (grownBy_refl _ _) (.inl rfl))
  | some ad =>
    exact wpList_append_own_at _ hgd s x t ho base e i z size bytes ht hi hz hsize hby hzs hsz v n xs hs hown ad rs.length c rs.flatten hx (flat_len rs hlen) (fun j u hu => row_cells hcl hlen hsz j u hu)
      (fun u hu => by obtain ⟨y, hy, hyu⟩ := List.mem_flatten.1 hu; exact h1 y hy u hyu) h63 hbytes hbase fun v' w' h2 h3 _ h5 => h v' w' h2 h3 h5

theorem info_event : (Tryz.prog.info? 25).map (fun i => (i.zero, i.size, i.bytes)) = some (some (.agg #[.int .i64 0, .int .i64 0, .string ByteArray.empty, .string ByteArray.empty, .string ByteArray.empty, .string ByteArray.empty, .string ByteArray.empty, .int .i64 0, .int .i64 0, .int .i64 0, .string ByteArray.empty, .slice none 0 0]), 12, 160) := by kernel_rfl

theorem lines_len (l : List LineV) : ∀ x ∈ l.map encLine, x.length = 3 := fun x hx => by
  obtain ⟨r, _, rfl⟩ := List.mem_map.1 hx
  rfl
theorem lines_one (l : List LineV) : ∀ x ∈ l.map encLine, ∀ u ∈ x, u.oneCell' = true := fun x hx u hu => by
  obtain ⟨z, _, rfl⟩ := List.mem_map.1 hx
  simp [encLine] at hu
  rcases hu with rfl | rfl | rfl <;> rfl

/-- append of a row that can be read, at a step of a drawn region. -/
theorem step_append_row {P : Program} {w : World} {ops : Array Oper} {o : Oper} {a : Act} {K : Act → World → Prop} {Q : Exit → Act → World → Prop} {E : Prop} (hgd : o.guard = none) (s x : Operand) (t : TypeId)
    (ho : o.op = .call { callee := .builtin .append, args := #[s, x], argTypes := #[t, t] })
    (base : Nat) (e : TypeId) (i : TypeInfo) (z : Value) (size bytes : Nat) (ht : P.underlying t = some (.slice e)) (hi : P.info? e = some i) (hz : i.zero = some z)
    (hsize : i.size = size) (hby : i.bytes = bytes) (hzs : z.cells.size = size) (hsz : 0 < size)
    (v : Value) (n : Nat) (xs : List Value) (hs : a.eval s = v) (hown : w.ownsRow base e size v n xs)
    {R : Nat → Prop} (rv : Value) (rs : List (List Value)) (hx : a.eval x = rv) (hrow : RowAt w R size rv rs) (hnil : NilOk rv) (hlen : ∀ x ∈ rs, x.length = size) (h1 : ∀ x ∈ rs, ∀ u ∈ x, u.oneCell' = true)
    (h63 : n + rs.length ≤ maxLen) (hbytes : (n + rs.length) * bytes ≤ 140737488355328) (hbase : base ≤ w.heap.size)
    (h : ∀ v' w', w'.ownsRow base e size v' (n + rs.length) (xs ++ rs.flatten) → w.grownBy w' v.ownBlock → (v'.ownBlock = v.ownBlock ∨ v'.ownBlock = some w.heap.size) → K (a.put o.dst v') w') :
    if Region.wanted o (yielded ops a.tmps) = true then Oper.wp P o a w K Q else E := by
  have hw : Region.wanted o (yielded ops a.tmps) = true := by simp [Region.wanted, hgd]
  rw [if_pos hw]
  obtain ⟨A, c, hv, hcl⟩ := hrow
  subst hv
  cases A with
  | none =>
    have h0 : rs = [] := by
      cases rs with
      | nil => rfl
      | cons y ys => obtain ⟨ad, e, _⟩ := hcl 0 (by simp); cases e
    subst h0
    obtain ⟨_, rfl⟩ := hnil _ _ rfl
    have hrun := run_append_owned_none (P := P) (w := w) base t o.type e i size ht hi v n xs hown
    unfold Oper.wp
    have hx' : a.eval x = .slice none 0 0 := hx
    simp [execOp, ho, resolve, invoke, builtin, hs, hx', hrun, Result.andThen]
    exact h v w (by simpa using hown) (grownBy_refl _ _) (.inl rfl)
  | some ad =>
    obtain ⟨v', w', hr, h2, h3, _, h5⟩ := run_append_own_at (P := P) w base t o.type e i z size bytes ht hi hz hsize hby hzs hsz v n xs hown ad rs.length c rs.flatten (flat_len rs hlen) (fun j u hu => row_cells hcl hlen hsz j u hu)
      (fun u hu => by obtain ⟨y, hy, hyu⟩ := List.mem_flatten.1 hu; exact h1 y hy u hyu) h63 hbytes hbase
    unfold Oper.wp execOp
    simp only [ho, resolve, invoke, builtin, Sem.run_bind, Sem.run_pure, Result.andThen_ok, List.map_toArray, List.map_cons, List.map_nil, hs, hx, hr]
    exact h v' w' h2 h3 h5

theorem ev_one (e : EventV) (A : Option Addr) (n c : Nat) : ∀ u ∈ (evCs e (.slice A n c)).toList, u.oneCell' = true := by
  intro u hu
  unfold evCs at hu
  simp at hu
  rcases hu with rfl | rfl | rfl | rfl | rfl | rfl | rfl | rfl | rfl | rfl | rfl | rfl <;> rfl
set_option maxRecDepth 100000 in
set_option maxHeartbeats 2000000 in
/-- copied: the same event, its lines in a block of their own. -/
theorem copied_any {w : World} {R : Nat → Prop} {e : EventV} {lv : Value} (hL : LinesAt w R lv e.lines) (hn : NilOk lv) (hlen : e.lines.length ≤ 1048576) :
    Calls Tryz.prog 12 #[evV e lv] w fun en w' => ∃ cv, en = .returned (evV e cv) ∧ w'.ownsRow w.heap.size 90 3 cv e.lines.length (e.lines.map encLine).flatten ∧ Below w.heap.size w w' := by
  obtain ⟨i0, hi, hz0, hz1, hz2⟩ := info_parts info_line
  have HL := Lib.hid hL
  have HN := Lib.hid hn
  clear hL hn
  unfold evV
  go_enter Tryz.func12, Tryz.ntmps12
  go_wp2_with (at_builtin; refine wpList_append_row rfl _ _ 23 rfl w.heap.size 90 i0 (.agg #[.string ByteArray.empty, .int .i64 0, .string ByteArray.empty]) 3 40 Tryz.underlying23 hi hz0 hz1 hz2 rfl (by decide) _ _ _ rfl (World.ownsRow_nil _ _ _ _) lv (e.lines.map encLine) rfl ((HL.out.below (bel1 w _)).below (bel1 _ _)) HN.out (lines_len _) (lines_one _) ?l1 ?l2 ?l3 ?_)
  case l1 => rw [List.length_map]; unfold maxLen; omega
  case l2 => rw [List.length_map]; omega
  case l3 => simp; omega
  intro v' w1 hown hgrow hat
  obtain ⟨vA, vc, hvf⟩ := own_form hown
  subst hvf
  have hB1 : Below w.heap.size w w1 := (((Below.refl _ w).alloc (Nat.le_refl _) _).alloc (by simp) _).grown hgrow (by simp; omega) (by intro k hk; simp [Value.ownBlock] at hk)
  have hB : w1.heap[w.heap.size]? = some (.cells (evCs e lv) 25 (0, 0)) := (hgrow.block _ (by simp; omega) (by simp [Value.ownBlock])).trans ((Below.heap_alloc _ _ _ (by simp)).trans (World.alloc_heap_new w _))
  have hE : EvAt w1 w.heap.size e lv := ⟨hB⟩
  obtain ⟨e0, e1, e2, e3, e4, e5, e6, e7, e8, e9, e10, e11⟩ := And.intro hE.e0 (And.intro hE.e1 (And.intro hE.e2 (And.intro hE.e3 (And.intro hE.e4 (And.intro hE.e5 (And.intro hE.e6 (And.intro hE.e7 (And.intro hE.e8 (And.intro hE.e9 (And.intro hE.e10 hE.e11))))))))))
  have f11 := frozen_blk hB 11
  have hZ0 : ∀ (W : World) o1 o2, ((World.alloc W o1).alloc o2).heap[W.heap.size + 1]? = some o2 := fun W o1 o2 => by
    have := World.alloc_heap_new (W.alloc o1) o2
    rwa [World.size_alloc] at this
  have hZ : w1.heap[w.heap.size + 1]? = some (.cells #[.int .i64 0, .int .i64 0, .string ⟨#[]⟩, .string ⟨#[]⟩, .string ⟨#[]⟩, .string ⟨#[]⟩, .string ⟨#[]⟩, .int .i64 0, .int .i64 0, .int .i64 0, .string ⟨#[]⟩, .slice none 0 0] 25 (0, 0)) := (hgrow.block (w.heap.size + 1) (by simp) (by simp [Value.ownBlock])).trans (hZ0 _ _ _)
  have z0 : w1.cell? ⟨w.heap.size + 1, 0, none⟩ = some (.int .i64 0) := by rw [cell_of_blk hZ]; rfl
  have y0 := frozen_blk hZ 0
  have z1 : w1.cell? ⟨w.heap.size + 1, 1, none⟩ = some (.int .i64 0) := by rw [cell_of_blk hZ]; rfl
  have y1 := frozen_blk hZ 1
  have z2 : w1.cell? ⟨w.heap.size + 1, 2, none⟩ = some (.string ⟨#[]⟩) := by rw [cell_of_blk hZ]; rfl
  have y2 := frozen_blk hZ 2
  have z3 : w1.cell? ⟨w.heap.size + 1, 3, none⟩ = some (.string ⟨#[]⟩) := by rw [cell_of_blk hZ]; rfl
  have y3 := frozen_blk hZ 3
  have z4 : w1.cell? ⟨w.heap.size + 1, 4, none⟩ = some (.string ⟨#[]⟩) := by rw [cell_of_blk hZ]; rfl
  have y4 := frozen_blk hZ 4
  have z5 : w1.cell? ⟨w.heap.size + 1, 5, none⟩ = some (.string ⟨#[]⟩) := by rw [cell_of_blk hZ]; rfl
  have y5 := frozen_blk hZ 5
  have z6 : w1.cell? ⟨w.heap.size + 1, 6, none⟩ = some (.string ⟨#[]⟩) := by rw [cell_of_blk hZ]; rfl
  have y6 := frozen_blk hZ 6
  have z7 : w1.cell? ⟨w.heap.size + 1, 7, none⟩ = some (.int .i64 0) := by rw [cell_of_blk hZ]; rfl
  have y7 := frozen_blk hZ 7
  have z8 : w1.cell? ⟨w.heap.size + 1, 8, none⟩ = some (.int .i64 0) := by rw [cell_of_blk hZ]; rfl
  have y8 := frozen_blk hZ 8
  have z9 : w1.cell? ⟨w.heap.size + 1, 9, none⟩ = some (.int .i64 0) := by rw [cell_of_blk hZ]; rfl
  have y9 := frozen_blk hZ 9
  have z10 : w1.cell? ⟨w.heap.size + 1, 10, none⟩ = some (.string ⟨#[]⟩) := by rw [cell_of_blk hZ]; rfl
  have y10 := frozen_blk hZ 10
  have z11 : w1.cell? ⟨w.heap.size + 1, 11, none⟩ = some (.slice none 0 0) := by rw [cell_of_blk hZ]; rfl
  have y11 := frozen_blk hZ 11
  go_wp2
  have h0 := (Below.heap_setCell w1 ⟨w.heap.size, 11, none⟩ (.slice vA e.lines.length vc) (w.heap.size + 1) (by simp)).trans hZ
  have h1 : ((w1.setCell ⟨w.heap.size, 11, none⟩ (.slice vA e.lines.length vc)).setCell ⟨w.heap.size + 1, 0, none⟩ (.int .i64 e.kind)).heap[w.heap.size + 1]? = some (.cells #[.int .i64 e.kind, .int .i64 0, .string ⟨#[]⟩, .string ⟨#[]⟩, .string ⟨#[]⟩, .string ⟨#[]⟩, .string ⟨#[]⟩, .int .i64 0, .int .i64 0, .int .i64 0, .string ⟨#[]⟩, .slice none 0 0] 25 (0, 0)) := heap_setCell_same (i := 0) h0 (.int .i64 e.kind)
  have h2 : (((w1.setCell ⟨w.heap.size, 11, none⟩ (.slice vA e.lines.length vc)).setCell ⟨w.heap.size + 1, 0, none⟩ (.int .i64 e.kind)).setCell ⟨w.heap.size + 1, 1, none⟩ (.int .i64 e.day)).heap[w.heap.size + 1]? = some (.cells #[.int .i64 e.kind, .int .i64 e.day, .string ⟨#[]⟩, .string ⟨#[]⟩, .string ⟨#[]⟩, .string ⟨#[]⟩, .string ⟨#[]⟩, .int .i64 0, .int .i64 0, .int .i64 0, .string ⟨#[]⟩, .slice none 0 0] 25 (0, 0)) := heap_setCell_same (i := 1) h1 (.int .i64 e.day)
  have h3 : ((((w1.setCell ⟨w.heap.size, 11, none⟩ (.slice vA e.lines.length vc)).setCell ⟨w.heap.size + 1, 0, none⟩ (.int .i64 e.kind)).setCell ⟨w.heap.size + 1, 1, none⟩ (.int .i64 e.day)).setCell ⟨w.heap.size + 1, 2, none⟩ (.string e.key)).heap[w.heap.size + 1]? = some (.cells #[.int .i64 e.kind, .int .i64 e.day, .string e.key, .string ⟨#[]⟩, .string ⟨#[]⟩, .string ⟨#[]⟩, .string ⟨#[]⟩, .int .i64 0, .int .i64 0, .int .i64 0, .string ⟨#[]⟩, .slice none 0 0] 25 (0, 0)) := heap_setCell_same (i := 2) h2 (.string e.key)
  have h4 : (((((w1.setCell ⟨w.heap.size, 11, none⟩ (.slice vA e.lines.length vc)).setCell ⟨w.heap.size + 1, 0, none⟩ (.int .i64 e.kind)).setCell ⟨w.heap.size + 1, 1, none⟩ (.int .i64 e.day)).setCell ⟨w.heap.size + 1, 2, none⟩ (.string e.key)).setCell ⟨w.heap.size + 1, 3, none⟩ (.string e.account)).heap[w.heap.size + 1]? = some (.cells #[.int .i64 e.kind, .int .i64 e.day, .string e.key, .string e.account, .string ⟨#[]⟩, .string ⟨#[]⟩, .string ⟨#[]⟩, .int .i64 0, .int .i64 0, .int .i64 0, .string ⟨#[]⟩, .slice none 0 0] 25 (0, 0)) := heap_setCell_same (i := 3) h3 (.string e.account)
  have h5 : ((((((w1.setCell ⟨w.heap.size, 11, none⟩ (.slice vA e.lines.length vc)).setCell ⟨w.heap.size + 1, 0, none⟩ (.int .i64 e.kind)).setCell ⟨w.heap.size + 1, 1, none⟩ (.int .i64 e.day)).setCell ⟨w.heap.size + 1, 2, none⟩ (.string e.key)).setCell ⟨w.heap.size + 1, 3, none⟩ (.string e.account)).setCell ⟨w.heap.size + 1, 4, none⟩ (.string e.other)).heap[w.heap.size + 1]? = some (.cells #[.int .i64 e.kind, .int .i64 e.day, .string e.key, .string e.account, .string e.other, .string ⟨#[]⟩, .string ⟨#[]⟩, .int .i64 0, .int .i64 0, .int .i64 0, .string ⟨#[]⟩, .slice none 0 0] 25 (0, 0)) := heap_setCell_same (i := 4) h4 (.string e.other)
  have h6 : (((((((w1.setCell ⟨w.heap.size, 11, none⟩ (.slice vA e.lines.length vc)).setCell ⟨w.heap.size + 1, 0, none⟩ (.int .i64 e.kind)).setCell ⟨w.heap.size + 1, 1, none⟩ (.int .i64 e.day)).setCell ⟨w.heap.size + 1, 2, none⟩ (.string e.key)).setCell ⟨w.heap.size + 1, 3, none⟩ (.string e.account)).setCell ⟨w.heap.size + 1, 4, none⟩ (.string e.other)).setCell ⟨w.heap.size + 1, 5, none⟩ (.string e.ref)).heap[w.heap.size + 1]? = some (.cells #[.int .i64 e.kind, .int .i64 e.day, .string e.key, .string e.account, .string e.other, .string e.ref, .string ⟨#[]⟩, .int .i64 0, .int .i64 0, .int .i64 0, .string ⟨#[]⟩, .slice none 0 0] 25 (0, 0)) := heap_setCell_same (i := 5) h5 (.string e.ref)
  have h7 : ((((((((w1.setCell ⟨w.heap.size, 11, none⟩ (.slice vA e.lines.length vc)).setCell ⟨w.heap.size + 1, 0, none⟩ (.int .i64 e.kind)).setCell ⟨w.heap.size + 1, 1, none⟩ (.int .i64 e.day)).setCell ⟨w.heap.size + 1, 2, none⟩ (.string e.key)).setCell ⟨w.heap.size + 1, 3, none⟩ (.string e.account)).setCell ⟨w.heap.size + 1, 4, none⟩ (.string e.other)).setCell ⟨w.heap.size + 1, 5, none⟩ (.string e.ref)).setCell ⟨w.heap.size + 1, 6, none⟩ (.string e.ref2)).heap[w.heap.size + 1]? = some (.cells #[.int .i64 e.kind, .int .i64 e.day, .string e.key, .string e.account, .string e.other, .string e.ref, .string e.ref2, .int .i64 0, .int .i64 0, .int .i64 0, .string ⟨#[]⟩, .slice none 0 0] 25 (0, 0)) := heap_setCell_same (i := 6) h6 (.string e.ref2)
  have h8 : (((((((((w1.setCell ⟨w.heap.size, 11, none⟩ (.slice vA e.lines.length vc)).setCell ⟨w.heap.size + 1, 0, none⟩ (.int .i64 e.kind)).setCell ⟨w.heap.size + 1, 1, none⟩ (.int .i64 e.day)).setCell ⟨w.heap.size + 1, 2, none⟩ (.string e.key)).setCell ⟨w.heap.size + 1, 3, none⟩ (.string e.account)).setCell ⟨w.heap.size + 1, 4, none⟩ (.string e.other)).setCell ⟨w.heap.size + 1, 5, none⟩ (.string e.ref)).setCell ⟨w.heap.size + 1, 6, none⟩ (.string e.ref2)).setCell ⟨w.heap.size + 1, 7, none⟩ (.int .i64 e.typ)).heap[w.heap.size + 1]? = some (.cells #[.int .i64 e.kind, .int .i64 e.day, .string e.key, .string e.account, .string e.other, .string e.ref, .string e.ref2, .int .i64 e.typ, .int .i64 0, .int .i64 0, .string ⟨#[]⟩, .slice none 0 0] 25 (0, 0)) := heap_setCell_same (i := 7) h7 (.int .i64 e.typ)
  have h9 : ((((((((((w1.setCell ⟨w.heap.size, 11, none⟩ (.slice vA e.lines.length vc)).setCell ⟨w.heap.size + 1, 0, none⟩ (.int .i64 e.kind)).setCell ⟨w.heap.size + 1, 1, none⟩ (.int .i64 e.day)).setCell ⟨w.heap.size + 1, 2, none⟩ (.string e.key)).setCell ⟨w.heap.size + 1, 3, none⟩ (.string e.account)).setCell ⟨w.heap.size + 1, 4, none⟩ (.string e.other)).setCell ⟨w.heap.size + 1, 5, none⟩ (.string e.ref)).setCell ⟨w.heap.size + 1, 6, none⟩ (.string e.ref2)).setCell ⟨w.heap.size + 1, 7, none⟩ (.int .i64 e.typ)).setCell ⟨w.heap.size + 1, 8, none⟩ (.int .i64 e.due)).heap[w.heap.size + 1]? = some (.cells #[.int .i64 e.kind, .int .i64 e.day, .string e.key, .string e.account, .string e.other, .string e.ref, .string e.ref2, .int .i64 e.typ, .int .i64 e.due, .int .i64 0, .string ⟨#[]⟩, .slice none 0 0] 25 (0, 0)) := heap_setCell_same (i := 8) h8 (.int .i64 e.due)
  have h10 : (((((((((((w1.setCell ⟨w.heap.size, 11, none⟩ (.slice vA e.lines.length vc)).setCell ⟨w.heap.size + 1, 0, none⟩ (.int .i64 e.kind)).setCell ⟨w.heap.size + 1, 1, none⟩ (.int .i64 e.day)).setCell ⟨w.heap.size + 1, 2, none⟩ (.string e.key)).setCell ⟨w.heap.size + 1, 3, none⟩ (.string e.account)).setCell ⟨w.heap.size + 1, 4, none⟩ (.string e.other)).setCell ⟨w.heap.size + 1, 5, none⟩ (.string e.ref)).setCell ⟨w.heap.size + 1, 6, none⟩ (.string e.ref2)).setCell ⟨w.heap.size + 1, 7, none⟩ (.int .i64 e.typ)).setCell ⟨w.heap.size + 1, 8, none⟩ (.int .i64 e.due)).setCell ⟨w.heap.size + 1, 9, none⟩ (.int .i64 e.amount)).heap[w.heap.size + 1]? = some (.cells #[.int .i64 e.kind, .int .i64 e.day, .string e.key, .string e.account, .string e.other, .string e.ref, .string e.ref2, .int .i64 e.typ, .int .i64 e.due, .int .i64 e.amount, .string ⟨#[]⟩, .slice none 0 0] 25 (0, 0)) := heap_setCell_same (i := 9) h9 (.int .i64 e.amount)
  have h11 : ((((((((((((w1.setCell ⟨w.heap.size, 11, none⟩ (.slice vA e.lines.length vc)).setCell ⟨w.heap.size + 1, 0, none⟩ (.int .i64 e.kind)).setCell ⟨w.heap.size + 1, 1, none⟩ (.int .i64 e.day)).setCell ⟨w.heap.size + 1, 2, none⟩ (.string e.key)).setCell ⟨w.heap.size + 1, 3, none⟩ (.string e.account)).setCell ⟨w.heap.size + 1, 4, none⟩ (.string e.other)).setCell ⟨w.heap.size + 1, 5, none⟩ (.string e.ref)).setCell ⟨w.heap.size + 1, 6, none⟩ (.string e.ref2)).setCell ⟨w.heap.size + 1, 7, none⟩ (.int .i64 e.typ)).setCell ⟨w.heap.size + 1, 8, none⟩ (.int .i64 e.due)).setCell ⟨w.heap.size + 1, 9, none⟩ (.int .i64 e.amount)).setCell ⟨w.heap.size + 1, 10, none⟩ (.string e.memo)).heap[w.heap.size + 1]? = some (.cells #[.int .i64 e.kind, .int .i64 e.day, .string e.key, .string e.account, .string e.other, .string e.ref, .string e.ref2, .int .i64 e.typ, .int .i64 e.due, .int .i64 e.amount, .string e.memo, .slice none 0 0] 25 (0, 0)) := heap_setCell_same (i := 10) h10 (.string e.memo)
  have h12 : (((((((((((((w1.setCell ⟨w.heap.size, 11, none⟩ (.slice vA e.lines.length vc)).setCell ⟨w.heap.size + 1, 0, none⟩ (.int .i64 e.kind)).setCell ⟨w.heap.size + 1, 1, none⟩ (.int .i64 e.day)).setCell ⟨w.heap.size + 1, 2, none⟩ (.string e.key)).setCell ⟨w.heap.size + 1, 3, none⟩ (.string e.account)).setCell ⟨w.heap.size + 1, 4, none⟩ (.string e.other)).setCell ⟨w.heap.size + 1, 5, none⟩ (.string e.ref)).setCell ⟨w.heap.size + 1, 6, none⟩ (.string e.ref2)).setCell ⟨w.heap.size + 1, 7, none⟩ (.int .i64 e.typ)).setCell ⟨w.heap.size + 1, 8, none⟩ (.int .i64 e.due)).setCell ⟨w.heap.size + 1, 9, none⟩ (.int .i64 e.amount)).setCell ⟨w.heap.size + 1, 10, none⟩ (.string e.memo)).setCell ⟨w.heap.size + 1, 11, none⟩ (.slice vA e.lines.length vc)).heap[w.heap.size + 1]? = some (.cells #[.int .i64 e.kind, .int .i64 e.day, .string e.key, .string e.account, .string e.other, .string e.ref, .string e.ref2, .int .i64 e.typ, .int .i64 e.due, .int .i64 e.amount, .string e.memo, .slice vA e.lines.length vc] 25 (0, 0)) := heap_setCell_same (i := 11) h11 (.slice vA e.lines.length vc)
  have hbel := (((((((((((((hB1.setCell (p := ⟨w.heap.size, 11, none⟩) (by simp) (.slice vA e.lines.length vc)).setCell (p := ⟨w.heap.size + 1, 0, none⟩) (by simp) (.int .i64 e.kind)).setCell (p := ⟨w.heap.size + 1, 1, none⟩) (by simp) (.int .i64 e.day)).setCell (p := ⟨w.heap.size + 1, 2, none⟩) (by simp) (.string e.key)).setCell (p := ⟨w.heap.size + 1, 3, none⟩) (by simp) (.string e.account)).setCell (p := ⟨w.heap.size + 1, 4, none⟩) (by simp) (.string e.other)).setCell (p := ⟨w.heap.size + 1, 5, none⟩) (by simp) (.string e.ref)).setCell (p := ⟨w.heap.size + 1, 6, none⟩) (by simp) (.string e.ref2)).setCell (p := ⟨w.heap.size + 1, 7, none⟩) (by simp) (.int .i64 e.typ)).setCell (p := ⟨w.heap.size + 1, 8, none⟩) (by simp) (.int .i64 e.due)).setCell (p := ⟨w.heap.size + 1, 9, none⟩) (by simp) (.int .i64 e.amount)).setCell (p := ⟨w.heap.size + 1, 10, none⟩) (by simp) (.string e.memo)).setCell (p := ⟨w.heap.size + 1, 11, none⟩) (by simp) (.slice vA e.lines.length vc))
  have hkp : ∀ k, k ≠ w.heap.size → k ≠ w.heap.size + 1 → (((((((((((((w1.setCell ⟨w.heap.size, 11, none⟩ (.slice vA e.lines.length vc)).setCell ⟨w.heap.size + 1, 0, none⟩ (.int .i64 e.kind)).setCell ⟨w.heap.size + 1, 1, none⟩ (.int .i64 e.day)).setCell ⟨w.heap.size + 1, 2, none⟩ (.string e.key)).setCell ⟨w.heap.size + 1, 3, none⟩ (.string e.account)).setCell ⟨w.heap.size + 1, 4, none⟩ (.string e.other)).setCell ⟨w.heap.size + 1, 5, none⟩ (.string e.ref)).setCell ⟨w.heap.size + 1, 6, none⟩ (.string e.ref2)).setCell ⟨w.heap.size + 1, 7, none⟩ (.int .i64 e.typ)).setCell ⟨w.heap.size + 1, 8, none⟩ (.int .i64 e.due)).setCell ⟨w.heap.size + 1, 9, none⟩ (.int .i64 e.amount)).setCell ⟨w.heap.size + 1, 10, none⟩ (.string e.memo)).setCell ⟨w.heap.size + 1, 11, none⟩ (.slice vA e.lines.length vc)).heap[k]? = w1.heap[k]? := fun k n1 n2 => by
    repeat (refine (Below.heap_setCell _ _ _ _ (by first | exact n1 | exact n2)).trans ?_)
    rfl
  (try simp only [Exit.inBlock, Exit.then])
  refine bodyPost_ret (results_cell_row rfl _ _ (w.heap.size + 1) 25 _ (0, 0) _ rfl h12 Tryz.underlying25 rfl (by kernel_rfl)) rfl ?_
  refine ⟨_, rfl, ownsRow_keep hown fun k e' => hkp k ?_ ?_, hbel⟩
  · rcases hat with h | h <;> (rw [h] at e'; first | cases e' | skip) <;> omega
  · rcases hat with h | h <;> (rw [h] at e'; first | cases e' | skip) <;> omega

theorem below_undrew {w w' : World} (h : Below w.drew.heap.size w.drew w') : Below w.heap.size w w' := ⟨h.os, h.tape, h.output, h.size, h.block⟩

theorem num_any (n : Int) (w : World) : Calls Tryz.prog 20 #[.int .i64 n] w fun en w' => en = .returned (.int .i64 n) ∧ w' = w := by
  go_enter Tryz.func20, Tryz.ntmps20
  go_wp2
  go_ret
  exact ⟨rfl, rfl⟩
end Go.Proofs.YtgocoofcelggcaaGreatDoor
