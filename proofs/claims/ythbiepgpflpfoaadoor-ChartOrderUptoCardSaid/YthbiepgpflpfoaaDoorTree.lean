/- The tree of a chart's accounts from the roots on; a name's path. No program. -/
import Derived.Test.YthbiepgpflpfoaaDoorLaw
namespace Go.Proofs.YthbiepgpflpfoaaDoor
open Go.RowKit
set_option linter.unusedVariables false
set_option linter.unusedSimpArgs false

def namesA (l : List Acct) : List ByteArray := l.map (·.name)
theorem names_nodup {L : List Acct} (h : Rising L) : (namesA L).Nodup := by
  unfold namesA List.Nodup
  rw [List.pairwise_map]
  refine List.Pairwise.imp ?_ h
  intro a b hab e
  exact cmp_ne hab e

/-- The list of names seen so far, n of them asked for their kids. -/
structure Bfs (L : List Acct) (left : List ByteArray) (n : Nat) : Prop where
  le : n ≤ left.length
  nodup : left.Nodup
  mem : ∀ x ∈ left, x ∈ namesA L
  roots : ∀ a ∈ L, parentF a.name = none → a.name ∈ left
  kids : ∀ a ∈ L, ∀ u, parentF a.name = some u → (a.name ∈ left ↔ u ∈ left.take n)

theorem bfs_start {L : List Acct} (hv : Valid L) : Bfs L (namesA (rootsA L)) 0 where
  le := Nat.zero_le _
  nodup := names_nodup (rising_filter _ hv.rising)
  mem := fun x hx => by
    obtain ⟨a, ha, rfl⟩ := List.mem_map.1 hx
    exact List.mem_map.2 ⟨a, (List.mem_filter.1 ha).1, rfl⟩
  roots := fun a ha hu => List.mem_map.2 ⟨a, List.mem_filter.2 ⟨ha, by simp [hu]⟩, rfl⟩
  kids := fun a ha u hu => by
    constructor
    · intro h
      obtain ⟨b, hb, e⟩ := List.mem_map.1 h
      obtain ⟨_, hb⟩ := List.mem_filter.1 hb
      have hb : parentF b.name = none := by simpa using hb
      have e : b.name = a.name := e
      rw [e, hu] at hb
      cases hb
    · intro h
      simp at h

theorem take_snoc_mem {α : Type} {l : List α} {n : Nat} (hn : n < l.length) (m : List α) (x : α) : x ∈ (l ++ m).take (n + 1) ↔ x ∈ l.take n ∨ x = l[n] := by
  rw [List.take_append_of_le_length (by omega), List.take_succ_eq_append_getElem hn, List.mem_append, List.mem_singleton]

theorem not_mem_take {α : Type} {l : List α} (h : l.Nodup) {n : Nat} (hn : n < l.length) : l[n] ∉ l.take n := by
  intro hm
  rw [List.mem_take_iff_getElem] at hm
  obtain ⟨i, hi, e⟩ := hm
  exact List.pairwise_iff_getElem.1 h i n (by omega) hn (by omega) e

theorem bfs_step {L : List Acct} (hv : Valid L) {left : List ByteArray} {n : Nat} (h : Bfs L left n) (hn : n < left.length) :
    Bfs L (left ++ namesA (kidsA L left[n])) (n + 1) where
  le := by rw [List.length_append]; omega
  nodup := by
    rw [List.nodup_append]
    refine ⟨h.nodup, names_nodup (rising_filter _ hv.rising), ?_⟩
    intro x hx y hy e
    subst e
    obtain ⟨a, ha, rfl⟩ := List.mem_map.1 hy
    obtain ⟨haL, hp⟩ := List.mem_filter.1 ha
    have hp : parentF a.name = some left[n] := by simpa using hp
    exact not_mem_take h.nodup hn ((h.kids a haL _ hp).1 hx)
  mem := fun x hx => by
    rcases List.mem_append.1 hx with hx | hx
    · exact h.mem x hx
    · obtain ⟨a, ha, rfl⟩ := List.mem_map.1 hx
      exact List.mem_map.2 ⟨a, (List.mem_filter.1 ha).1, rfl⟩
  roots := fun a ha hu => List.mem_append.2 (.inl (h.roots a ha hu))
  kids := fun a ha u hu => by
    rw [take_snoc_mem hn, List.mem_append, h.kids a ha u hu]
    constructor
    · rintro (h1 | h1)
      · exact .inl h1
      · obtain ⟨b, hb, e⟩ := List.mem_map.1 h1
        obtain ⟨_, hp⟩ := List.mem_filter.1 hb
        have hp : parentF b.name = some left[n] := by simpa using hp
        have e : b.name = a.name := e
        rw [e, hu] at hp
        injection hp with hp
        exact .inr hp
    · rintro (h1 | h1)
      · exact .inl h1
      · exact .inr (List.mem_map.2 ⟨a, List.mem_filter.2 ⟨ha, by rw [hu, h1]; simp⟩, rfl⟩)

theorem bfs_len {L : List Acct} {left : List ByteArray} {n : Nat} (h : Bfs L left n) : left.length ≤ L.length := by
  have := h.nodup.length_le_of_subset (l₂ := namesA L) h.mem
  unfold namesA at this
  rwa [List.length_map] at this

theorem bfs_end {L : List Acct} (hv : Valid L) {left : List ByteArray} (h : Bfs L left left.length) : left.length = L.length := by
  have hall : ∀ m (a : Acct), a ∈ L → a.name.size = m → a.name ∈ left := by
    intro m
    induction m using Nat.strongRecOn with
    | _ m ih =>
      intro a ha hm
      cases hu : parentF a.name with
      | none => exact h.roots a ha hu
      | some u =>
        obtain ⟨p, hp, rfl, _⟩ := hv.up a ha u hu
        have := parent_size hu
        rw [h.kids a ha _ hu, List.take_of_length_le (Nat.le_refl _)]
        exact ih p.name.size (by omega) p hp rfl
  have h1 := bfs_len h
  have h2 := (names_nodup hv.rising).length_le_of_subset (l₂ := left) fun x hx => by
    obtain ⟨a, ha, rfl⟩ := List.mem_map.1 hx
    exact hall _ a ha rfl
  unfold namesA at h2
  rw [List.length_map] at h2
  omega

/-- A name and all above it. -/
def pathF : Nat → ByteArray → List ByteArray
  | 0, _ => []
  | d + 1, n => n :: match parentF n with
    | none => []
    | some u => pathF d u

theorem path_more : ∀ (d e : Nat) (n : ByteArray), n.size < d → d ≤ e → pathF d n = pathF e n
  | 0, _, _, h, _ => by omega
  | d + 1, 0, _, _, h => by omega
  | d + 1, e + 1, n, h, h' => by
    unfold pathF
    cases hp : parentF n with
    | none => rfl
    | some u =>
      have := parent_size hp
      simp only
      rw [path_more d e u (by omega) (by omega)]

/-- Is a name another one, or below it? -/
def underF (a b : ByteArray) : Bool := goodB a.data.toList && goodB b.data.toList && (decide (a = b) || (b.data.toList ++ [58]).isPrefixOf a.data.toList)

theorem ba_ext {a b : ByteArray} (h : a.data.toList = b.data.toList) : a = b := by
  cases a; cases b
  simp only [ByteArray.mk.injEq]
  exact Array.toList_inj.1 h

theorem last_idx {n : ByteArray} : (Lib.lastIndexByte n 58 = -1 ∧ (58 : UInt8) ∉ n.data.toList) ∨ ∃ (i : Nat) (hi : i < n.data.toList.length), Lib.lastIndexByte n 58 = i ∧ n.data.toList[i] = 58 ∧ ∀ j (hj : j < n.data.toList.length), i < j → n.data.toList[j] ≠ 58 := by
  have key : ∀ j (hj : j < n.data.toList.length), ((n.data[j]!).toNat : Int) = 58 ↔ n.data.toList[j] = 58 := fun j hj => by
    have hj' : j < n.data.size := by simpa using hj
    rw [getElem!_pos n.data j hj', Array.getElem_toList, ← UInt8.toNat_inj]
    show _ ↔ _ = 58
    omega
  rcases Lib.lastIndexByte_spec n 58 with ⟨e, h⟩ | ⟨i, hi, e, hc, hl⟩
  · refine .inl ⟨e, fun hm => ?_⟩
    obtain ⟨k, hk, e2⟩ := List.getElem_of_mem hm
    exact h k (by simpa using hk) ((key k hk).2 e2)
  · have hi' : i < n.data.toList.length := by simpa using hi
    exact .inr ⟨i, hi', e, (key i hi').1 hc, fun j hj h1 e2 => hl j h1 (by simpa using hj) ((key j hj).2 e2)⟩

/-- A name that has one above it: that one, a colon, and what holds no colon. -/
theorem parent_cut {n u : ByteArray} (h : parentF n = some u) : ∃ r, n.data.toList = u.data.toList ++ 58 :: r ∧ (58 : UInt8) ∉ r := by
  obtain ⟨_, i, hi, rfl, e⟩ := parent_some h
  rcases last_idx (n := n) with ⟨e', _⟩ | ⟨j, hj, e', hc, hl⟩
  · rw [e'] at e; omega
  · have hji : j = i := by rw [e'] at e; omega
    subst hji
    refine ⟨n.data.toList.drop (j + 1), ?_, ?_⟩
    · rw [extract0_list]
      conv => rhs; rw [← hc, List.getElem_cons_drop, List.take_append_drop]
    · intro hm
      obtain ⟨k, hk, e2⟩ := List.getElem_of_mem hm
      rw [List.getElem_drop] at e2
      exact hl _ _ (by omega) e2

theorem parent_none {n : ByteArray} (hg : goodB n.data.toList = true) (h : parentF n = none) : (58 : UInt8) ∉ n.data.toList := by
  rcases last_idx (n := n) with ⟨_, h'⟩ | ⟨j, hj, e', hc, hl⟩
  · exact h'
  · unfold parentF at h
    rw [if_pos ⟨hg, by omega⟩] at h
    cases h

theorem path_prefix : ∀ (d : Nat) (n b : ByteArray), b ∈ pathF d n → b = n ∨ (b.data.toList ++ [58]) <+: n.data.toList
  | 0, n, b, h => by simp [pathF] at h
  | d + 1, n, b, h => by
    unfold pathF at h
    rcases List.mem_cons.1 h with h | h
    · exact .inl h
    · cases hp : parentF n with
      | none => rw [hp] at h; simp at h
      | some u =>
        rw [hp] at h
        obtain ⟨r, e, _⟩ := parent_cut hp
        right
        rcases path_prefix d u b h with rfl | ⟨t, h⟩
        · exact ⟨r, by rw [e]; simp⟩
        · exact ⟨t ++ 58 :: r, by rw [e, ← h]; simp⟩

theorem prefix_path {L : List Acct} (hv : Valid L) : ∀ (d : Nat) (n b : ByteArray), n.size < d → n ∈ namesA L → (b = n ∨ (b.data.toList ++ [58]) <+: n.data.toList) → b ∈ pathF d n
  | 0, n, b, h, _, _ => by omega
  | d + 1, n, b, hd, hn, h => by
    unfold pathF
    rcases h with rfl | ⟨t, ht⟩
    · exact List.mem_cons_self ..
    · apply List.mem_cons_of_mem
      obtain ⟨a, ha, rfl⟩ := List.mem_map.1 hn
      cases hp : parentF a.name with
      | none =>
        exact absurd (by rw [← ht]; simp) (parent_none (hv.good a ha) hp)
      | some u =>
        obtain ⟨p, hpL, rfl, _⟩ := hv.up a ha u hp
        have hsz := parent_size hp
        refine prefix_path hv d p.name b (by omega) (List.mem_map.2 ⟨p, hpL, rfl⟩) ?_
        obtain ⟨r, e, hr⟩ := parent_cut hp
        have he : b.data.toList ++ 58 :: t = p.name.data.toList ++ 58 :: r := by
          rw [← e, ← ht]; simp
        rcases Nat.lt_trichotomy b.data.toList.length p.name.data.toList.length with hl | hl | hl
        · right
          have := congrArg (List.take (b.data.toList.length + 1)) he
          rw [List.take_append_of_le_length (l₁ := p.name.data.toList) (by omega)] at this
          refine ⟨p.name.data.toList.drop (b.data.toList.length + 1), ?_⟩
          have e3 : List.take (b.data.toList.length + 1) (b.data.toList ++ 58 :: t) = b.data.toList ++ [58] := by
            rw [List.take_append, List.take_of_length_le (by omega)]
            simp
          rw [e3] at this
          rw [this, List.take_append_drop]
        · left
          exact ba_ext (List.append_inj_left he hl)
        · exfalso
          have h1 : (b.data.toList ++ 58 :: t)[b.data.toList.length]? = some 58 := by simp
          rw [he, List.getElem?_append_right (by omega)] at h1
          obtain ⟨k, hk⟩ : ∃ k, b.data.toList.length - p.name.data.toList.length = k + 1 := ⟨b.data.toList.length - p.name.data.toList.length - 1, by omega⟩
          rw [hk, List.getElem?_cons_succ] at h1
          exact hr (List.mem_of_getElem? h1)

theorem path_names {L : List Acct} (hv : Valid L) : ∀ (d : Nat) (n : ByteArray), n ∈ namesA L → ∀ b ∈ pathF d n, b ∈ namesA L
  | 0, n, _, b, h => by simp [pathF] at h
  | d + 1, n, hn, b, h => by
    unfold pathF at h
    rcases List.mem_cons.1 h with rfl | h
    · exact hn
    · obtain ⟨a, ha, rfl⟩ := List.mem_map.1 hn
      cases hp : parentF a.name with
      | none => rw [hp] at h; simp at h
      | some u =>
        rw [hp] at h
        obtain ⟨p, hpL, rfl, _⟩ := hv.up a ha u hp
        exact path_names hv d p.name (List.mem_map.2 ⟨p, hpL, rfl⟩) b h

/-- A name is under just those of its path. -/
theorem path_under {L : List Acct} (hv : Valid L) {a b : Acct} (ha : a ∈ L) (hb : b ∈ L) : (pathF 103 a.name).any (fun x => decide (x = b.name)) = underF a.name b.name := by
  have hsz := hv.size ha
  unfold underF
  rw [hv.good a ha, hv.good b hb, Bool.true_and, Bool.true_and, Bool.eq_iff_iff]
  simp only [decide_eq_true_eq, Bool.or_eq_true, List.isPrefixOf_iff_prefix, List.any_eq_true, exists_eq_right]
  constructor
  · intro h
    rcases path_prefix _ _ _ h with h | h
    · exact .inl h.symm
    · exact .inr h
  · rintro (h | h)
    · exact prefix_path hv 103 _ _ (by omega) (List.mem_map.2 ⟨a, ha, rfl⟩) (.inl h.symm)
    · exact prefix_path hv 103 _ _ (by omega) (List.mem_map.2 ⟨a, ha, rfl⟩) (.inr h)

/-- Along a path the types are one, and what stands above a closed account's... : closed goes down. -/
theorem path_types {L : List Acct} (hv : Valid L) : ∀ (d : Nat) (a b : Acct), a ∈ L → b ∈ L → b.name ∈ pathF d a.name → b.typ = a.typ ∧ (b.closed = true → a.closed = true)
  | 0, a, b, _, _, h => by simp [pathF] at h
  | d + 1, a, b, ha, hb, h => by
    unfold pathF at h
    rcases List.mem_cons.1 h with h | h
    · have : b = a := hv.rising.inj hb ha h
      subst this
      exact ⟨rfl, id⟩
    · cases hp : parentF a.name with
      | none => rw [hp] at h; simp at h
      | some u =>
        rw [hp] at h
        obtain ⟨p, hpL, rfl, h1, _, h3⟩ := hv.up a ha u hp
        obtain ⟨e1, e2⟩ := path_types hv d p b hpL hb h
        exact ⟨e1.trans h1, fun hc => h3 (e2 hc)⟩

/-- What stands ahead of the first colon. -/
def rootF (n : ByteArray) : ByteArray := ⟨(n.data.toList.takeWhile (fun c => decide (c ≠ 58))).toArray⟩

theorem first_of_mem : ∀ {l : List UInt8}, (58 : UInt8) ∈ l → ∃ s t, l = s ++ 58 :: t ∧ (58 : UInt8) ∉ s
  | [], h => by simp at h
  | a :: r, h => by
    by_cases ha : a = 58
    · exact ⟨[], r, by rw [ha]; rfl, by simp⟩
    · obtain ⟨s, t, e, hs⟩ := first_of_mem (l := r) (by
        rcases List.mem_cons.1 h with h | h
        · exact absurd h.symm ha
        · exact h)
      exact ⟨a :: s, t, by rw [e]; rfl, by
        intro hm
        rcases List.mem_cons.1 hm with hm | hm
        · exact ha hm.symm
        · exact hs hm⟩
theorem takeWhile_cut {m r : List UInt8} (h : (58 : UInt8) ∉ m) : (m ++ 58 :: r).takeWhile (fun c => decide (c ≠ 58)) = m := by
  rw [List.takeWhile_append_of_pos]
  · simp
  · intro c hc
    have : c ≠ 58 := fun e => h (e ▸ hc)
    simpa using this
theorem takeWhile_all {m : List UInt8} (h : (58 : UInt8) ∉ m) : m.takeWhile (fun c => decide (c ≠ 58)) = m := by
  induction m with
  | nil => rfl
  | cons a r ih =>
    have ha : a ≠ 58 := fun e => h (by rw [e]; simp)
    rw [List.takeWhile_cons, if_pos (by simpa using ha), ih (fun e => h (List.mem_cons_of_mem _ e))]

theorem root_of_parent {n u : ByteArray} (h : parentF n = some u) : rootF n = rootF u := by
  obtain ⟨r, e, _⟩ := parent_cut h
  unfold rootF
  rw [e]
  by_cases hm : (58 : UInt8) ∈ u.data.toList
  · obtain ⟨s, t, e2, hs⟩ : ∃ s t, u.data.toList = s ++ 58 :: t ∧ (58 : UInt8) ∉ s := first_of_mem hm
    rw [e2, List.append_assoc, List.cons_append, takeWhile_cut hs, takeWhile_cut hs]
  · rw [takeWhile_cut hm, takeWhile_all hm]

/-- A path ends with the root. -/
theorem path_last {L : List Acct} (hv : Valid L) : ∀ (d : Nat) (n : ByteArray), n.size < d → n ∈ namesA L → (pathF d n).getLast? = some (rootF n)
  | 0, n, h, _ => by omega
  | d + 1, n, hd, hn => by
    unfold pathF
    obtain ⟨a, ha, rfl⟩ := List.mem_map.1 hn
    cases hp : parentF a.name with
    | none =>
      have := parent_none (hv.good a ha) hp
      unfold rootF
      rw [takeWhile_all this]
      rfl
    | some u =>
      obtain ⟨p, hpL, rfl, _⟩ := hv.up a ha u hp
      have hsz := parent_size hp
      simp only
      rw [root_of_parent hp, List.getLast?_cons, path_last hv d p.name (by omega) (List.mem_map.2 ⟨p, hpL, rfl⟩)]
      rfl
end Go.Proofs.YthbiepgpflpfoaaDoor
