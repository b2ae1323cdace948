/- Two calls on a chart on accounts apart change places. No program. -/
import Derived.Test.YthbiepgpflpfoaaDoorLaw
namespace Go.Proofs.YthbiepgpflpfoaaDoor
open Go.RowKit
set_option linter.unusedVariables false
set_option linter.unusedSimpArgs false

/-- A call on another name does not meet this one. -/
structure Apart (m n : ByteArray) : Prop where
  mn : parentF m ≠ some n
  nm : parentF n ≠ some m
  ne : m ≠ n
theorem Apart.symm {m n : ByteArray} (h : Apart m n) : Apart n m := ⟨h.nm, h.mn, fun e => h.ne e.symm⟩

theorem find_bad {L : List Acct} (hv : Valid L) {n : ByteArray} (h : goodB n.data.toList = false) : findA L n = none := by
  cases hf : findA L n with
  | none => rfl
  | some a =>
    obtain ⟨ha, rfl⟩ := findA_some hf
    rw [hv.good a ha] at h
    cases h

theorem act_bad {L : List Acct} (hv : Valid L) (a : ActV) (h : goodB a.name.data.toList = false) : actL L a = L := by
  unfold actL
  split
  · unfold openL; rw [if_neg]; unfold openE; rw [if_pos h]; decide
  · split
    · unfold closeL; rw [if_neg]; unfold closeE; rw [find_bad hv h]; simp
    · rfl
theorem actE_bad {L M : List Acct} (hv : Valid L) (hM : Valid M) (a : ActV) (h : goodB a.name.data.toList = false) : actE L a = actE M a := by
  unfold actE
  split
  · unfold openE; rw [if_pos h, if_pos h]
  · split
    · unfold closeE; rw [find_bad hv h, find_bad hM h]
    · unfold mayE; rw [find_bad hv h, find_bad hM h]

theorem open_none {L : List Acct} (hv : Valid L) {a : ActV} (h : openE L a.name a.typ a.day = 0) : ∀ b ∈ L, b.name ≠ (openA L a.name a.typ a.day).name := find_none (open_fits hv h).none_

theorem find_other {L : List Acct} (hv : Valid L) (a : ActV) {n : ByteArray} (h : a.name ≠ n) : findA (actL L a) n = findA L n := by
  unfold actL
  split
  · unfold openL
    split
    · rename_i hE
      rw [find_insA (open_none hv hE), if_neg]
      exact h
    · rfl
  · split
    · unfold closeL
      split
      · rw [find_shut]
        cases hf : findA L n with
        | none => rfl
        | some b =>
          obtain ⟨_, rfl⟩ := findA_some hf
          simp [Ne.symm h]
      · rfl
    · rfl

theorem kids_other {L : List Acct} (hv : Valid L) (a : ActV) {n : ByteArray} (h : parentF a.name ≠ some n) : (kidsA (actL L a) n).all (·.closed) = (kidsA L n).all (·.closed) := by
  unfold actL
  split
  · unfold openL
    split
    · rename_i hE
      rw [kids_insA hv.rising, if_neg]
      exact h
    · rfl
  · split
    · unfold closeL
      split
      · have e : kidsA (shutA a.name L) n = shutA a.name (kidsA L n) := filter_shut (fun m => decide (parentF m = some n)) a.name L
        rw [e]
        unfold shutA
        rw [List.all_map]
        rw [Bool.eq_iff_iff, List.all_eq_true, List.all_eq_true]
        have key : ∀ b ∈ kidsA L n, (if b.name = a.name then { b with closed := true } else b : Acct) = b := fun b hb => by
          rw [if_neg]
          intro e
          have := (List.mem_filter.1 hb).2
          exact h (by rw [← e]; simpa using this)
        constructor
        · intro hh b hb
          have := hh b hb
          simp only [Function.comp, key b hb] at this
          exact this
        · intro hh b hb
          simp only [Function.comp, key b hb]
          exact hh b hb
      · rfl
    · rfl

theorem length_act (L : List Acct) (a : ActV) : (actL L a).length ≤ L.length + 1 := by
  unfold actL openL closeL shutA
  split
  · split
    · rw [length_insA]; exact Nat.le_refl _
    · omega
  · split
    · split
      · rw [List.length_map]; omega
      · omega
    · omega

theorem mayE_other {L : List Acct} (hv : Valid L) (a : ActV) {n : ByteArray} (d : Int) (h : a.name ≠ n) : mayE (actL L a) n d = mayE L n d := by
  unfold mayE; rw [find_other hv a h]

theorem actE_other {L : List Acct} (hv : Valid L) (hl : L.length ≤ 98) {a b : ActV} (h : Apart a.name b.name) : actE (actL L a) b = actE L b := by
  have h1 := find_other hv a h.ne
  have hl2 := length_act L a
  unfold actE
  split
  · unfold openE
    rw [h1]
    have e1 : (100 ≤ (actL L a).length) = False := by simp; omega
    have e2 : (100 ≤ L.length) = False := by simp; omega
    simp only [e1, e2, if_false]
    cases hp : parentF b.name with
    | none => rfl
    | some u =>
      have hu : a.name ≠ u := fun e => h.nm (by rw [hp, e])
      simp only [mayE_other hv a b.day hu]
  · split
    · rw [closeE_kids hv, closeE_kids (act_valid hv a), h1, kids_other hv a h.mn]
    · split
      · unfold mayE; rw [h1]
      · rfl

theorem find_self {L : List Acct} (hv : Valid L) (a : ActV) : findA (actL L a) a.name =
    if a.kind = 1 then (if actE L a = 0 then some (openA L a.name a.typ a.day) else findA L a.name)
    else if a.kind = 2 then (if actE L a = 0 then (findA L a.name).map (fun b => if b.name = a.name then { b with closed := true } else b) else findA L a.name)
    else findA L a.name := by
  unfold actL actE
  split
  · rename_i h1
    unfold openL
    split
    · rename_i hE
      rw [find_insA (open_none hv hE)]; exact if_pos rfl
    · rfl
  · split
    · unfold closeL
      split
      · rw [find_shut]
      · rfl
    · rfl

theorem openA_other {L : List Acct} (hv : Valid L) {a b : ActV} (h : Apart a.name b.name) : openA (actL L a) b.name b.typ b.day = openA L b.name b.typ b.day := by
  unfold openA
  cases hp : parentF b.name with
  | none => rfl
  | some u =>
    have hu : a.name ≠ u := fun e => h.nm (by rw [hp, e])
    simp only [find_other hv a hu]

/-- A rising list is what is found in it. -/
theorem rising_ext {A B : List Acct} (hA : Rising A) (hB : Rising B) (h : ∀ n, findA A n = findA B n) : A = B := by
  refine rising_unique ?_ hB hA
  rw [List.perm_ext_iff_of_nodup hA.nodup hB.nodup]
  intro a
  constructor
  · intro ha
    have := find_mem hA ha
    rw [h] at this
    exact (findA_some this).1
  · intro ha
    have := find_mem hB ha
    rw [← h] at this
    exact (findA_some this).1

theorem act_comm {L : List Acct} (hv : Valid L) (hl : L.length ≤ 98) {a b : ActV} (h : Apart a.name b.name) : actL (actL L a) b = actL (actL L b) a := by
  have va := act_valid hv a
  have vb := act_valid hv b
  refine rising_ext (act_valid va b).rising (act_valid vb a).rising fun n => ?_
  by_cases ha : a.name = n
  · subst ha
    rw [find_other va b (Ne.symm h.ne), find_self hv a, find_self vb a, find_other hv b (Ne.symm h.ne), actE_other hv hl h.symm, openA_other hv h.symm]
  · by_cases hb : b.name = n
    · subst hb
      rw [find_other vb a h.ne, find_self hv b, find_self va b, find_other hv a h.ne, actE_other hv hl h, openA_other hv h]
    · rw [find_other va b hb, find_other hv a ha, find_other vb a ha, find_other hv b hb]

/-- Two calls change places where neither name is right above the other; they are one only if they are no names. -/
theorem swap_acts {L : List Acct} (hv : Valid L) (hl : L.length ≤ 98) (a b : ActV) (h1 : parentF a.name ≠ some b.name) (h2 : parentF b.name ≠ some a.name) (h3 : a.name = b.name → goodB a.name.data.toList = false) :
    actE (actL L a) b = actE L b ∧ actE (actL L b) a = actE L a ∧ actL (actL L a) b = actL (actL L b) a := by
  by_cases hn : a.name = b.name
  · have hg := h3 hn
    have hg' := hg
    rw [hn] at hg'
    rw [act_bad hv a hg, act_bad hv b hg', act_bad hv a hg]
    exact ⟨rfl, rfl, rfl⟩
  · have hA : Apart a.name b.name := ⟨h1, h2, hn⟩
    exact ⟨actE_other hv hl hA, actE_other hv hl hA.symm, act_comm hv hl hA⟩
end Go.Proofs.YthbiepgpflpfoaaDoor
