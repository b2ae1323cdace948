/- What a chart's list of accounts is; the list told from the roots on is a shuffling of it. No program. -/
import Derived.Test.YthbiepgpflpfoaaDoorBelow
import Derived.Test.YthbiepgpflpfoaaDoorOrd
import Derived.Test.YthbiepgpflpfoaaDoorAdded
namespace Go.Proofs.YthbiepgpflpfoaaDoor
open Go.RowKit
set_option linter.unusedVariables false
set_option linter.unusedSimpArgs false

instance : DecidableEq Acct := fun a b =>
  decidable_of_iff (a.name = b.name ∧ a.typ = b.typ ∧ a.opened = b.opened ∧ a.closed = b.closed)
    ⟨fun h => by cases a; cases b; simp only at h; obtain ⟨h1, h2, h3, h4⟩ := h; subst h1 h2 h3 h4; rfl, fun h => by subst h; exact ⟨rfl, rfl, rfl, rfl⟩⟩

theorem good_size {n : ByteArray} (h : goodB n.data.toList = true) : n.size ≤ 102 := by
  unfold goodB at h
  simp only [Bool.and_eq_true, decide_eq_true_eq] at h
  have := h.1
  rwa [show n.data.toList.length = n.size from rfl] at this

theorem parent_some {n u : ByteArray} (h : parentF n = some u) : goodB n.data.toList = true ∧ ∃ i : Nat, i < n.size ∧ u = n.extract 0 i ∧ Lib.lastIndexByte n 58 = i := by
  unfold parentF at h
  split at h
  · rename_i hc
    refine ⟨hc.1, ?_⟩
    rcases Lib.lastIndexByte_spec n 58 with ⟨e, _⟩ | ⟨i, hi, e, _⟩
    · rw [e] at hc; omega
    · refine ⟨i, hi, ?_, e⟩
      rw [e] at h
      injection h with h
      exact h.symm
  · cases h

theorem extract0_list (n : ByteArray) (i : Nat) : (n.extract 0 i).data.toList = n.data.toList.take i := by
  rw [ByteArray.data_extract, Array.toList_extract]
  simp [List.extract]

theorem extract0_size (n : ByteArray) (i : Nat) (h : i ≤ n.size) : (n.extract 0 i).size = i := by
  rw [ByteArray.size_extract]
  omega

theorem parent_size {n u : ByteArray} (h : parentF n = some u) : u.size < n.size := by
  obtain ⟨_, i, hi, rfl, _⟩ := parent_some h
  rw [extract0_size n i (by omega)]
  exact hi

theorem cmpL_take : ∀ (l : List UInt8) (i : Nat), i < l.length → Lib.compareBytes (l.take i) l < 0
  | [], _, h => by simp at h
  | a :: r, 0, _ => by simp [Lib.compareBytes]
  | a :: r, i + 1, h => by
    have ih := cmpL_take r i (by simpa using h)
    simp only [List.take_succ_cons]
    unfold Lib.compareBytes
    simp [ih]

theorem parent_below {n u : ByteArray} (h : parentF n = some u) : cmpB u n < 0 := by
  obtain ⟨_, i, hi, rfl, _⟩ := parent_some h
  unfold cmpB
  rw [extract0_list]
  exact cmpL_take _ _ (by rw [show n.data.toList.length = n.size from rfl]; exact hi)

/-- What a list of a chart's accounts is. -/
structure Valid (L : List Acct) : Prop where
  rising : Rising L
  le : L.length ≤ 100
  good : ∀ a ∈ L, goodB a.name.data.toList = true
  up : ∀ a ∈ L, ∀ u, parentF a.name = some u → ∃ p ∈ L, p.name = u ∧ p.typ = a.typ ∧ p.opened ≤ a.opened ∧ (p.closed = true → a.closed = true)
  day : ∀ a ∈ L, 1 ≤ a.opened ∧ a.opened ≤ 3652059
  typ : ∀ a ∈ L, 1 ≤ a.typ ∧ a.typ ≤ 5

theorem valid_nil : Valid [] := ⟨List.Pairwise.nil, by simp, by simp, by simp, by simp, by simp⟩

theorem Valid.size {L : List Acct} (h : Valid L) {a : Acct} (ha : a ∈ L) : a.name.size ≤ 102 := good_size (h.good a ha)

theorem Rising.inj {L : List Acct} (h : Rising L) {a b : Acct} (ha : a ∈ L) (hb : b ∈ L) (hn : a.name = b.name) : a = b := by
  have h1 := find_mem h ha
  have h2 := find_mem h hb
  rw [hn, h2] at h1
  injection h1 with h1
  exact h1.symm

theorem Rising.nodup {L : List Acct} (h : Rising L) : L.Nodup := by
  refine List.Pairwise.imp ?_ h
  intro a b hab e
  subst e
  rw [cmp_self] at hab
  omega

/-- What may be laid into a valid list. -/
structure Fits (L : List Acct) (a : Acct) : Prop where
  none_ : findA L a.name = none
  room : L.length ≤ 99
  good : goodB a.name.data.toList = true
  up : ∀ u, parentF a.name = some u → ∃ p ∈ L, p.name = u ∧ p.typ = a.typ ∧ p.opened ≤ a.opened ∧ (p.closed = true → a.closed = true)
  day : 1 ≤ a.opened ∧ a.opened ≤ 3652059
  typ : 1 ≤ a.typ ∧ a.typ ≤ 5

theorem Fits.can {L : List Acct} {a : Acct} (h : Fits L a) (hv : Valid L) : CanAdd L a where
  rising := hv.rising
  none_ := h.none_
  room := h.room
  up := fun u hu => by obtain ⟨p, hp, e, _⟩ := h.up u hu; exact ⟨p, hp, e⟩
  nokid := fun b hb e => by
    obtain ⟨p, hp, e2, _⟩ := hv.up b hb _ e
    exact find_none h.none_ p hp e2
  self := fun e => by have := parent_size e; omega
  size := by have := good_size h.good; omega

theorem Fits.valid {L : List Acct} {a : Acct} (h : Fits L a) (hv : Valid L) : Valid (insA a L) where
  rising := rising_insA hv.rising (find_none h.none_)
  le := by rw [length_insA]; have := h.room; omega
  good := fun b hb => by rcases mem_insA.1 hb with rfl | hb; exact h.good; exact hv.good b hb
  up := fun b hb u hu => by
    rcases mem_insA.1 hb with rfl | hb
    · obtain ⟨p, hp, e⟩ := h.up u hu
      exact ⟨p, mem_insA.2 (.inr hp), e⟩
    · obtain ⟨p, hp, e⟩ := hv.up b hb u hu
      exact ⟨p, mem_insA.2 (.inr hp), e⟩
  day := fun b hb => by rcases mem_insA.1 hb with rfl | hb; exact h.day; exact hv.day b hb
  typ := fun b hb => by rcases mem_insA.1 hb with rfl | hb; exact h.typ; exact hv.typ b hb

/-- All that is below a list of accounts, and they. -/
def flatA (L l : List Acct) : List Acct := preL L 103 l

theorem preL_sub {L : List Acct} : ∀ (d : Nat) (l : List Acct), (∀ a ∈ l, a ∈ L) → ∀ x ∈ preL L d l, x ∈ L
  | 0, l, _, x, hx => by simp [preL] at hx
  | d + 1, l, hl, x, hx => by
    obtain ⟨a, ha, hx⟩ := List.mem_flatMap.1 hx
    rcases List.mem_cons.1 hx with rfl | hx
    · exact hl _ ha
    · exact preL_sub d _ (fun b hb => (List.mem_filter.1 hb).1) x hx

theorem nodup_filter {L : List Acct} (p : Acct → Bool) (h : L.Nodup) : (L.filter p).Nodup := List.Pairwise.filter p h

theorem Valid.kid {L : List Acct} (h : Valid L) : ∀ a ∈ L, ∀ b ∈ kidsA L a.name, a.name.size < b.name.size := fun a _ b hb => by
  have := (List.mem_filter.1 hb).2
  exact parent_size (by simpa using this)

theorem count_kids {L : List Acct} (h : Valid L) {x a : Acct} (hx : x ∈ L) (ha : a ∈ L) : (kidsA L a.name).count x = if parentF x.name = some a.name then 1 else 0 := by
  unfold kidsA
  rw [(nodup_filter _ h.rising.nodup).count]
  simp [hx]

/-- How often an account is told: as often as the list holds it, and as often as its parent is told. -/
theorem count_preL {L : List Acct} (h : Valid L) {x p : Acct} (hx : x ∈ L) (hp : p ∈ L) (hu : parentF x.name = some p.name) :
    ∀ (d : Nat) (l : List Acct), (∀ a ∈ l, a ∈ L) → (∀ a ∈ l, 102 < a.name.size + d) → (preL L d l).count x = l.count x + (preL L d l).count p
  | 0, l, hl, hB => by
    cases l with
    | nil => rfl
    | cons a r =>
      have h1 := hB a (by simp)
      have h2 := h.size (hl a (by simp))
      omega
  | d + 1, [], hl, hB => rfl
  | d + 1, a :: r, hl, hB => by
    have ih := count_preL h hx hp hu (d + 1) r (fun b hb => hl b (by simp [hb])) (fun b hb => hB b (by simp [hb]))
    have haL := hl a (by simp)
    have ihk := count_preL h hx hp hu d (kidsA L a.name) (fun b hb => (List.mem_filter.1 hb).1) fun b hb => by
      have h1 := hB a (by simp)
      have h2 := h.kid a haL b hb
      omega
    have e : preL L (d + 1) (a :: r) = a :: (preL L d (kidsA L a.name) ++ preL L (d + 1) r) := by
      show ((a :: r).flatMap fun a => a :: preL L d (kidsA L a.name)) = _
      rw [List.flatMap_cons]
      rfl
    rw [e, List.count_cons, List.count_append, List.count_cons, List.count_cons, List.count_append, ih, ihk, count_kids h hx haL]
    have hpa : parentF x.name = some a.name ↔ a = p := by
      rw [hu]
      constructor
      · intro e; injection e with e; exact h.rising.inj haL hp e.symm
      · rintro rfl; rfl
    by_cases hap : a = p
    · subst hap
      have : parentF x.name = some a.name := hu
      simp [this]
      omega
    · have hn : ¬ parentF x.name = some a.name := fun e => hap (hpa.1 e)
      rw [if_neg hn]
      have : (a == p) = false := by simpa using hap
      rw [this]
      simp
      omega

theorem count_root {L : List Acct} (h : Valid L) {x : Acct} (hx : x ∈ L) (hu : parentF x.name = none) :
    ∀ (d : Nat) (l : List Acct), (∀ a ∈ l, a ∈ L) → (∀ a ∈ l, 102 < a.name.size + d) → (preL L d l).count x = l.count x
  | 0, l, hl, hB => by
    cases l with
    | nil => rfl
    | cons a r =>
      have h1 := hB a (by simp)
      have h2 := h.size (hl a (by simp))
      omega
  | d + 1, [], hl, hB => rfl
  | d + 1, a :: r, hl, hB => by
    have ih := count_root h hx hu (d + 1) r (fun b hb => hl b (by simp [hb])) (fun b hb => hB b (by simp [hb]))
    have haL := hl a (by simp)
    have ihk := count_root h hx hu d (kidsA L a.name) (fun b hb => (List.mem_filter.1 hb).1) fun b hb => by
      have h1 := hB a (by simp)
      have h2 := h.kid a haL b hb
      omega
    have e : preL L (d + 1) (a :: r) = a :: (preL L d (kidsA L a.name) ++ preL L (d + 1) r) := by
      show ((a :: r).flatMap fun a => a :: preL L d (kidsA L a.name)) = _
      rw [List.flatMap_cons]
      rfl
    rw [e, List.count_cons, List.count_append, List.count_cons, ih, ihk, count_kids h hx haL, hu]
    simp

/-- From the roots on every account is told once. -/
theorem flat_perm {L : List Acct} (h : Valid L) : (flatA L (rootsA L)).Perm L := by
  have hroot : ∀ a ∈ rootsA L, a ∈ L := fun a ha => (List.mem_filter.1 ha).1
  have hB : ∀ a ∈ rootsA L, 102 < a.name.size + 103 := fun a _ => by omega
  rw [List.perm_iff_count]
  intro x
  by_cases hx : x ∈ L
  · rw [h.rising.nodup.count, if_pos hx]
    have key : ∀ n (x : Acct), x ∈ L → x.name.size = n → (flatA L (rootsA L)).count x = 1 := by
      intro n
      induction n using Nat.strongRecOn with
      | _ n ih =>
        intro x hx hn
        cases hu : parentF x.name with
        | none =>
          unfold flatA
          rw [count_root h hx hu 103 _ hroot hB]
          unfold rootsA
          rw [(nodup_filter _ h.rising.nodup).count]
          simp [hx, hu]
        | some u =>
          obtain ⟨p, hp, rfl, _⟩ := h.up x hx u hu
          have hlt := parent_size hu
          have := ih p.name.size (by omega) p hp rfl
          unfold flatA at this ⊢
          rw [count_preL h hx hp hu 103 _ hroot hB, this]
          unfold rootsA
          rw [(nodup_filter _ h.rising.nodup).count]
          simp [hu]
    exact key _ x hx rfl
  · rw [List.count_eq_zero.2 hx, List.count_eq_zero.2]
    intro hm
    exact hx (preL_sub 103 _ hroot x hm)

/-- A rising list is its own sorting. -/
theorem rising_unique {L l : List Acct} (hp : l.Perm L) (hL : Rising L) (hl : Rising l) : l = L := by
  unfold Rising at hL hl
  refine List.Perm.eq_of_pairwise (le := fun a b : Acct => cmpB a.name b.name < 0) ?_ hl hL hp
  intro a b _ _ h1 h2
  have := cmp_trans h1 h2
  rw [cmp_self] at this
  omega
end Go.Proofs.YthbiepgpflpfoaaDoor
