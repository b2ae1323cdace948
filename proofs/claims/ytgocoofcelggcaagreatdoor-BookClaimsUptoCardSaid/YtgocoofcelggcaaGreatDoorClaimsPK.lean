/- BookClaims in plain words: what is left of claims behind events that were taken; no program. -/
import Derived.Test.YtgocoofcelggcaaGreatDoorPack13
namespace Go.Proofs.YtgocoofcelggcaaGreatDoor
set_option linter.unusedVariables false
set_option linter.unusedSimpArgs false

/-- What an event that is taken allots of the claim k. -/
def allotOf (k : ByteArray) (a : EventV) : Int := if a.kind = 7 ∧ (a.ref = k ∨ a.ref2 = k) then a.amount else 0
def allotSum (k : ByteArray) (T : List EventV) : Int := (T.map (allotOf k)).sum
theorem allotSum_nil (k : ByteArray) : allotSum k [] = 0 := rfl
theorem allotSum_snoc (k : ByteArray) (T : List EventV) (a : EventV) : allotSum k (T ++ [a]) = allotSum k T + allotOf k a := by
  unfold allotSum
  rw [List.map_append, List.sum_append]
  simp

theorem claimOf_use (S : BookS) (k : ByteArray) (n : Int) (q : ByteArray) : ∀ (l : List ClaimV), ((useL k n l).find? fun x => decide (x.key = q)) = if q = k then (l.find? fun x => decide (x.key = q)).map (fun c => { c with used := c.used + n }) else l.find? fun x => decide (x.key = q)
  | [] => by simp [useL]
  | x :: l => by
    have ih := claimOf_use S k n q l
    unfold useL
    by_cases hx : x.key = k
    · rw [if_pos hx]
      by_cases hq : q = k
      · subst hq
        simp [hx]
      · have h1 : ¬ x.key = q := fun e => hq (e ▸ hx)
        rw [if_neg hq, List.find?_cons_of_neg (by simpa using h1), List.find?_cons_of_neg (by simpa using h1)]
    · rw [if_neg hx]
      by_cases hxq : x.key = q
      · have hq : ¬ q = k := fun e => hx (hxq.trans e)
        rw [if_neg hq, List.find?_cons_of_pos (by simpa using hxq), List.find?_cons_of_pos (by simpa using hxq)]
      · rw [List.find?_cons_of_neg (by simpa using hxq), ih, List.find?_cons_of_neg (by simpa using hxq)]
theorem claimOf_add (l : List ClaimV) (c : ClaimV) (q : ByteArray) (h : (l.find? fun x => decide (x.key = c.key)) = none) :
    ((l ++ [c]).find? fun x => decide (x.key = q)) = if q = c.key then some c else l.find? fun x => decide (x.key = q) := by
  rw [List.find?_append]
  by_cases hq : q = c.key
  · subst hq
    rw [if_pos rfl, h]
    simp
  · rw [if_neg hq]
    have : ([c].find? fun x => decide (x.key = q)) = none := by simp [Ne.symm hq]
    rw [this]
    simp

/-- What holds of claims behind events. -/
structure ClaimsOk (t : ToldS) : Prop where
  pos : ∀ a ∈ t.T, a.kind = 7 → 0 < a.amount
  made : ∀ k (hk : k < t.T.length), t.T[k].kind = 5 ∨ t.T[k].kind = 6 → ∃ c, claimOf t.S t.T[k].key = some c ∧ c.amount - c.used = t.T[k].amount - allotSum t.T[k].key (t.T.drop k) ∧ 0 ≤ c.amount - c.used ∧ t.T[k].amount ≤ maxA
  other : ∀ e ∈ t.T, e.kind ≠ 5 → e.kind ≠ 6 → e.key ≠ emptyB → claimOf t.S e.key = none
  key : ∀ e ∈ t.T, e.kind = 5 ∨ e.kind = 6 → e.key ∈ t.S.keys

theorem claim_fresh {S : BookS} (ho : OkS S) {k : ByteArray} (h : k ∉ S.keys) : claimOf S k = none := by
  unfold claimOf
  rw [List.find?_eq_none]
  intro x hx
  have := ho.claIn x hx
  simp only [decide_eq_true_eq]
  intro e
  exact h (e ▸ this)

theorem claims_new : ClaimsOk toldNew := ⟨fun a h => by simp [toldNew] at h, fun k hk => by simp [toldNew] at hk, fun a h => by simp [toldNew] at h, fun a h => by simp [toldNew] at h⟩

/-- The claims behind an event that is taken. -/
theorem claims_of {S : BookS} {x : EventV} (h : checkE S x = 0) : (applyS S x).claims = if x.kind = 5 then S.claims ++ [⟨x.key, x.account, x.day, x.due, x.amount, 0, false⟩] else if x.kind = 6 then S.claims ++ [⟨x.key, x.account, x.day, x.due, x.amount, 0, true⟩]
    else if x.kind = 7 then useL x.ref2 x.amount (useL x.ref x.amount S.claims) else S.claims := by
  rw [applyS_yes h]
  unfold keepS
  rcases (taken_of h).kinds with k | k | k | k | k | k | k | k <;> simp [k, tookS]

theorem allotOf_no {q : ByteArray} {x : EventV} (h : x.kind ≠ 7) : allotOf q x = 0 := by unfold allotOf; rw [if_neg (fun hh => h hh.1)]

theorem claimOf_applied {S : BookS} {x : EventV} (ho : OkS S) (h : checkE S x = 0) (q : ByteArray) :
    (x.kind = 5 ∨ x.kind = 6 → claimOf (applyS S x) q = if q = x.key then some ⟨x.key, x.account, x.day, x.due, x.amount, 0, decide (x.kind = 6)⟩ else claimOf S q) ∧
    (x.kind ≠ 5 → x.kind ≠ 6 → claimOf (applyS S x) q = (claimOf S q).map fun c => { c with used := c.used + allotOf q x }) := by
  have ht := taken_of h
  have hc := claims_of h
  constructor
  · intro hk
    have hf : (S.claims.find? fun y => decide (y.key = x.key)) = none := claim_fresh ho (ht.fresh (by unfold keyedB; rcases hk with hk | hk <;> simp [hk]))
    unfold claimOf
    rcases hk with hk | hk
    · rw [hc, if_pos hk]
      rw [claimOf_add _ _ _ hf]
      simp [hk]
    · rw [hc, if_neg (by omega), if_pos hk]
      rw [claimOf_add _ _ _ hf]
      simp [hk]
  · intro h5 h6
    by_cases h7 : x.kind = 7
    · have hr := ht.refuse
      have href : refuseE S x = mayAllotE S x := by unfold refuseE; simp [h7]
      rw [href] at hr
      obtain ⟨p, i, hp, hi, hpp, hip, _, _⟩ := allot_of hr
      have hne : x.ref ≠ x.ref2 := fun e => by
        rw [e] at hp
        rw [hp] at hi
        cases hi
        rw [hpp] at hip
        cases hip
      unfold claimOf at hp hi ⊢
      rw [hc, if_neg h5, if_neg h6, if_pos h7]
      rw [claimOf_use S, claimOf_use S]
      by_cases e2 : q = x.ref2
      · have e1 : ¬ q = x.ref := fun e => hne (e.symm.trans e2)
        have ha : allotOf q x = x.amount := by unfold allotOf; rw [if_pos ⟨h7, .inr e2.symm⟩]
        rw [if_pos e2, if_neg e1, ha]
      · by_cases e1 : q = x.ref
        · have ha : allotOf q x = x.amount := by unfold allotOf; rw [if_pos ⟨h7, .inl e1.symm⟩]
          rw [if_neg e2, if_pos e1, ha]
        · have ha : allotOf q x = 0 := by unfold allotOf; rw [if_neg]; rintro ⟨_, h | h⟩; exact e1 h.symm; exact e2 h.symm
          rw [if_neg e2, if_neg e1, ha]
          cases S.claims.find? fun x => decide (x.key = q) <;> simp
    · unfold claimOf
      rw [hc, if_neg h5, if_neg h6, if_neg h7, allotOf_no h7]
      cases S.claims.find? fun x => decide (x.key = q) <;> simp

theorem ClaimsOk.tell {t : ToldS} {x : EventV} (h : ClaimsOk t) (hk : ToldOk t) (hin : InEv x) : ClaimsOk (tellF t x) := by
  by_cases hc : checkE t.S x = 0
  · have htk := taken_of hc
    have ho := hk.ok.ok
    have hok' := (hk.tell hin).ok.ok
    have hap := fun q => claimOf_applied ho hc q
    rw [tellF_yes hc] at hok' ⊢
    have hkeys := apply_keys hc
    have hpos : ∀ a ∈ t.T ++ [x], a.kind = 7 → 0 < a.amount := fun a ha h7 => by
      rcases List.mem_append.1 ha with ha | ha
      · exact h.pos a ha h7
      · rw [List.mem_singleton] at ha
        subst ha
        have hf := htk.fields
        unfold fieldsB at hf
        simp [h7] at hf
        omega
    have hold : ∀ k (hk1 : k < t.T.length), t.T[k].kind = 5 ∨ t.T[k].kind = 6 → ∃ c, claimOf (applyS t.S x) t.T[k].key = some c ∧ c.amount - c.used = t.T[k].amount - allotSum t.T[k].key (t.T.drop k ++ [x]) ∧ t.T[k].amount ≤ maxA := by
      intro k hk1 hkind
      obtain ⟨c, h1, h2, h3, h4⟩ := h.made k hk1 hkind
      rw [allotSum_snoc]
      by_cases h56 : x.kind = 5 ∨ x.kind = 6
      · have hne : ¬ t.T[k].key = x.key := fun e => by
          have hm := h.key _ (List.getElem_mem hk1) hkind
          rw [e] at hm
          exact htk.fresh (by unfold keyedB; rcases h56 with h | h <;> simp [h]) hm
        refine ⟨c, by rw [(hap _).1 h56, if_neg hne]; exact h1, ?_, h4⟩
        rw [allotOf_no (by rcases h56 with h | h <;> omega)]
        omega
      · have h5 : x.kind ≠ 5 := fun e => h56 (.inl e)
        have h6 : x.kind ≠ 6 := fun e => h56 (.inr e)
        refine ⟨{ c with used := c.used + allotOf t.T[k].key x }, by rw [(hap _).2 h5 h6, h1]; rfl, ?_, h4⟩
        simp only
        omega
    have hnn : ∀ q c, claimOf (applyS t.S x) q = some c → 0 ≤ c.amount - c.used := fun q c hcl => by
      have := hok'.claAmt c (List.mem_of_find?_eq_some hcl)
      omega
    refine ⟨hpos, fun k hk1 hkind => ?_, fun e he h5 h6 hne => ?_, fun e he hkind => ?_⟩
    · by_cases hlt : k < t.T.length
      · have e1 : (t.T ++ [x])[k] = t.T[k] := List.getElem_append_left hlt
        simp only [e1] at hkind ⊢
        obtain ⟨c, c1, c2, c3⟩ := hold k hlt hkind
        exact ⟨c, c1, by rw [List.drop_append_of_le_length (by omega)]; exact c2, hnn _ c c1, c3⟩
      · have hkl : k = t.T.length := by simp at hk1; omega
        subst hkl
        have e1 : (t.T ++ [x])[t.T.length] = x := by simp
        simp only [e1] at hkind ⊢
        refine ⟨_, by rw [(hap _).1 hkind, if_pos rfl], ?_, ?_, hin.amount.2⟩
        · rw [List.drop_left, show ([x] : List EventV) = [] ++ [x] from rfl, allotSum_snoc, allotOf_no (by rcases hkind with h | h <;> omega), allotSum_nil]
          simp
        · have hf := htk.fields
          unfold fieldsB at hf
          rcases hkind with h | h <;> (simp [h] at hf; simp; omega)
    · rcases List.mem_append.1 he with he | he
      · have h0 := h.other e he h5 h6 hne
        by_cases h56 : x.kind = 5 ∨ x.kind = 6
        · have hm := hk.keys e he hne
          have hne' : ¬ e.key = x.key := fun ee => by
            rw [ee] at hm
            exact htk.fresh (by unfold keyedB; rcases h56 with h | h <;> simp [h]) hm
          rw [(hap _).1 h56, if_neg hne', h0]
        · rw [(hap _).2 (fun e => h56 (.inl e)) (fun e => h56 (.inr e)), h0]
          rfl
      · rw [List.mem_singleton] at he
        subst he
        rw [(hap _).2 h5 h6, claim_fresh ho (htk.fresh (key_keyed htk.ev hne))]
        rfl
    · show e.key ∈ (applyS t.S x).keys
      rw [hkeys]
      rcases List.mem_append.1 he with he | he
      · have := h.key e he hkind
        split
        · exact List.mem_append_left _ this
        · exact this
      · rw [List.mem_singleton] at he
        subst he
        rw [if_pos (by unfold keyedB; rcases hkind with h | h <;> simp [h])]
        simp
  · rw [tellF_no hc]
    exact h
theorem ClaimsOk.tells {l : List EventV} : ∀ {t : ToldS}, ClaimsOk t → ToldOk t → (∀ e ∈ l, InEv e) → ClaimsOk (tellsF t l) := by
  induction l with
  | nil => intro t h _ _; exact h
  | cons e l ih =>
    intro t h hk hin
    exact ih (h.tell hk (hin e (by simp))) (hk.tell (hin e (by simp))) fun x hx => hin x (by simp [hx])

/-- What is wanted on the way: no more than the amount, no less than what is left. -/
theorem allot_nonneg {k : ByteArray} {T : List EventV} (h : ∀ a ∈ T, a.kind = 7 → 0 < a.amount) : 0 ≤ allotSum k T := by
  unfold allotSum
  induction T with
  | nil => simp
  | cons a T ih =>
    have := ih fun b hb => h b (by simp [hb])
    simp only [List.map_cons, List.sum_cons]
    have h1 : 0 ≤ allotOf k a := by
      unfold allotOf
      split
      · rename_i hh
        have := h a (by simp) hh.1
        omega
      · omega
    omega
theorem want_range {t : ToldS} (h : ClaimsOk t) (k : Nat) (hk : k < t.T.length) (hkind : t.T[k].kind = 5 ∨ t.T[k].kind = 6) (m : Nat) :
    0 ≤ t.T[k].amount - allotSum t.T[k].key ((t.T.drop k).take m) ∧ t.T[k].amount - allotSum t.T[k].key ((t.T.drop k).take m) ≤ maxA := by
  obtain ⟨c, h1, h2, h3, h4⟩ := h.made k hk hkind
  have hp : ∀ a ∈ t.T.drop k, a.kind = 7 → 0 < a.amount := fun a ha => h.pos a (List.mem_of_mem_drop ha)
  have e1 : allotSum t.T[k].key (t.T.drop k) = allotSum t.T[k].key ((t.T.drop k).take m) + allotSum t.T[k].key ((t.T.drop k).drop m) := by
    unfold allotSum
    rw [← List.sum_append, ← List.map_append, List.take_append_drop]
  have n1 := allot_nonneg (k := t.T[k].key) (T := (t.T.drop k).take m) fun a ha => hp a (List.mem_of_mem_take ha)
  have n2 := allot_nonneg (k := t.T[k].key) (T := (t.T.drop k).drop m) fun a ha => hp a (List.mem_of_mem_drop ha)
  omega
end Go.Proofs.YtgocoofcelggcaaGreatDoor
