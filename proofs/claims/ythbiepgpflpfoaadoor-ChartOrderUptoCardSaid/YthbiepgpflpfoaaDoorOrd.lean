/- The order of names, and rising lists of accounts; no program. -/
import Derived.Test.YthbiepgpflpfoaaDoorChart
import Derived.Lib.Bytealg
namespace Go.Proofs.YthbiepgpflpfoaaDoor
open Go.RowKit
set_option linter.unusedVariables false
set_option linter.unusedSimpArgs false

/-- Two names by their bytes: below 0, 0, above 0. -/
def cmpB (a b : ByteArray) : Int := Lib.compareBytes a.data.toList b.data.toList

theorem cmpL_self : ∀ l : List UInt8, Lib.compareBytes l l = 0
  | [] => rfl
  | a :: l => by simp [Lib.compareBytes, cmpL_self l]
theorem cmpL_range : ∀ l m : List UInt8, Lib.compareBytes l m = -1 ∨ Lib.compareBytes l m = 0 ∨ Lib.compareBytes l m = 1
  | [], [] => by simp [Lib.compareBytes]
  | [], _ :: _ => by simp [Lib.compareBytes]
  | _ :: _, [] => by simp [Lib.compareBytes]
  | a :: l, b :: m => by
    unfold Lib.compareBytes
    split
    · simp
    · split
      · simp
      · exact cmpL_range l m
theorem cmpL_eq0 : ∀ l m : List UInt8, Lib.compareBytes l m = 0 → l = m
  | [], [] => by simp
  | [], _ :: _ => by simp [Lib.compareBytes]
  | _ :: _, [] => by simp [Lib.compareBytes]
  | a :: l, b :: m => by
    unfold Lib.compareBytes
    intro h
    split at h
    · simp at h
    · split at h
      · simp at h
      · rename_i h1 h2
        have e : a = b := by
          apply UInt8.toNat_inj.1
          simp [UInt8.lt_iff_toNat_lt] at h1 h2
          omega
        rw [e, cmpL_eq0 l m h]
theorem cmpL_swap : ∀ l m : List UInt8, Lib.compareBytes l m = - Lib.compareBytes m l
  | [], [] => by simp [Lib.compareBytes]
  | [], _ :: _ => by simp [Lib.compareBytes]
  | _ :: _, [] => by simp [Lib.compareBytes]
  | a :: l, b :: m => by
    have ih := cmpL_swap l m
    unfold Lib.compareBytes
    by_cases h1 : a < b
    · have h2 : ¬ b < a := by simp [UInt8.lt_iff_toNat_lt] at h1 ⊢; omega
      simp [h1, h2]
    · by_cases h2 : b < a
      · simp [h1, h2]
      · simp [h1, h2, ih]
theorem cmpL_trans : ∀ l m k : List UInt8, Lib.compareBytes l m < 0 → Lib.compareBytes m k < 0 → Lib.compareBytes l k < 0
  | l, [], _ => by cases l <;> simp [Lib.compareBytes]
  | [], _ :: _, [] => by simp [Lib.compareBytes]
  | [], _ :: _, _ :: _ => by simp [Lib.compareBytes]
  | _ :: _, _ :: _, [] => by simp [Lib.compareBytes]
  | a :: l, b :: m, c :: k => by
    have ih := cmpL_trans l m k
    intro h1 h2
    unfold Lib.compareBytes at h1 h2 ⊢
    simp only [UInt8.lt_iff_toNat_lt] at h1 h2 ⊢
    split at h1
    · split at h2
      · rw [if_pos (by omega)]; decide
      · split at h2
        · simp at h2
        · rw [if_pos (by omega)]; decide
    · split at h1
      · simp at h1
      · split at h2
        · rw [if_pos (by omega)]; decide
        · split at h2
          · simp at h2
          · rw [if_neg (by omega), if_neg (by omega)]
            exact ih h1 h2

theorem cmp_self (a : ByteArray) : cmpB a a = 0 := cmpL_self _
theorem cmp_eq0 {a b : ByteArray} (h : cmpB a b = 0) : a = b := by
  have := cmpL_eq0 _ _ h
  cases a with
  | mk x => cases b with
    | mk y => congr; exact Array.toList_inj.1 this
theorem cmp_swap (a b : ByteArray) : cmpB a b = - cmpB b a := cmpL_swap _ _
theorem cmp_trans {a b c : ByteArray} (h1 : cmpB a b < 0) (h2 : cmpB b c < 0) : cmpB a c < 0 := cmpL_trans _ _ _ h1 h2
theorem cmp_total {a b : ByteArray} (h : a ≠ b) : cmpB a b < 0 ∨ cmpB b a < 0 := by
  have h1 := cmp_swap a b
  have h0 : cmpB a b ≠ 0 := fun e => h (cmp_eq0 e)
  omega
theorem cmp_ne {a b : ByteArray} (h : cmpB a b < 0) : a ≠ b := fun e => by subst e; rw [cmp_self] at h; omega

/-- Rising by name. -/
def Rising (L : List Acct) : Prop := L.Pairwise fun x y => cmpB x.name y.name < 0

/-- One more into a rising list. -/
def insA (a : Acct) : List Acct → List Acct
  | [] => [a]
  | b :: r => if cmpB b.name a.name < 0 then b :: insA a r else a :: b :: r

theorem insA_cons (a b : Acct) (r : List Acct) : insA a (b :: r) = if cmpB b.name a.name < 0 then b :: insA a r else a :: b :: r := rfl
theorem mem_insA {a x : Acct} : ∀ {L : List Acct}, x ∈ insA a L ↔ x = a ∨ x ∈ L
  | [] => by simp [insA]
  | b :: r => by
    unfold insA
    split
    · simp [mem_insA (L := r)]
      constructor
      · rintro (h | h | h) <;> simp [h]
      · rintro (h | h | h) <;> simp [h]
    · simp
theorem length_insA (a : Acct) : ∀ L : List Acct, (insA a L).length = L.length + 1
  | [] => rfl
  | b :: r => by
    unfold insA
    split
    · simp [length_insA a r]
    · simp

theorem insA_low {a : Acct} : ∀ {L : List Acct}, (∀ b ∈ L, 0 ≤ cmpB b.name a.name) → insA a L = a :: L
  | [], _ => rfl
  | b :: r, h => by
    unfold insA
    rw [if_neg (by have := h b (by simp); omega)]

theorem rising_insA {a : Acct} : ∀ {L : List Acct}, Rising L → (∀ b ∈ L, b.name ≠ a.name) → Rising (insA a L)
  | [], _, _ => by simp [Rising, insA]
  | b :: r, h, hn => by
    obtain ⟨h1, h2⟩ := List.pairwise_cons.1 h
    unfold insA
    split
    · rename_i hb
      refine List.pairwise_cons.2 ⟨fun x hx => ?_, rising_insA h2 fun c hc => hn c (by simp [hc])⟩
      rcases mem_insA.1 hx with rfl | hx
      · exact hb
      · exact h1 x hx
    · rename_i hb
      have hab : cmpB a.name b.name < 0 := by
        rcases cmp_total (hn b (by simp)) with h | h
        · exact absurd h hb
        · exact h
      refine List.pairwise_cons.2 ⟨fun x hx => ?_, h⟩
      rcases List.mem_cons.1 hx with rfl | hx
      · exact hab
      · exact cmp_trans hab (h1 x hx)

theorem filter_insA (p : Acct → Bool) (a : Acct) : ∀ L : List Acct, Rising L → (insA a L).filter p = if p a then insA a (L.filter p) else L.filter p
  | [], _ => by
    by_cases hp : p a <;> simp [insA, hp]
  | b :: r, h => by
    obtain ⟨h1, h2⟩ := List.pairwise_cons.1 h
    have ih := filter_insA p a r h2
    rw [insA_cons]
    by_cases hb : cmpB b.name a.name < 0
    · rw [if_pos hb]
      by_cases hpb : p b
      · by_cases hp : p a
        · simp [hpb, hp, ih, insA_cons, hb]
        · simp [hpb, hp, ih]
      · by_cases hp : p a
        · simp [hpb, hp, ih]
        · simp [hpb, hp, ih]
    · rw [if_neg hb]
      have hlow : ∀ c ∈ (b :: r).filter p, 0 ≤ cmpB c.name a.name := fun c hc => by
        rcases List.mem_cons.1 (List.mem_filter.1 hc).1 with rfl | hc'
        · omega
        · rcases Int.lt_or_le (cmpB c.name a.name) 0 with hlt | hge
          · exact absurd (cmp_trans (h1 c hc') hlt) hb
          · exact hge
      by_cases hp : p a
      · rw [if_pos hp, insA_low hlow, List.filter_cons, if_pos hp]
      · rw [if_neg hp, List.filter_cons, if_neg hp]

theorem find_insA {a : Acct} {k : ByteArray} : ∀ {L : List Acct}, (∀ b ∈ L, b.name ≠ a.name) → findA (insA a L) k = if a.name = k then some a else findA L k
  | [], _ => by
    by_cases h : a.name = k <;> simp [findA, insA, h]
  | b :: r, hn => by
    have ih := find_insA (a := a) (k := k) (L := r) fun c hc => hn c (by simp [hc])
    have hb := hn b (by simp)
    unfold findA at ih ⊢
    rw [insA_cons]
    split
    · by_cases hbk : b.name = k
      · have : ¬ a.name = k := fun e => hb (by rw [hbk, e])
        simp [hbk, this]
      · simp only [List.find?_cons, hbk, decide_false]
        exact ih
    · by_cases h : a.name = k
      · simp [h]
      · simp [h]

theorem insA_at (a : Acct) : ∀ (L : List Acct) (i : Nat), i ≤ L.length → (∀ j (hj : j < L.length), j < i → cmpB L[j].name a.name < 0) → (∀ j (hj : j < L.length), i ≤ j → 0 ≤ cmpB L[j].name a.name) →
    insA a L = L.take i ++ a :: L.drop i
  | L, 0, _, _, h => by
    rw [insA_low]
    · simp
    · intro b hb
      obtain ⟨j, hj, rfl⟩ := List.getElem_of_mem hb
      exact h j hj (Nat.zero_le _)
  | [], i + 1, hi, _, _ => by simp at hi
  | b :: r, i + 1, hi, h1, h2 => by
    have hb : cmpB b.name a.name < 0 := h1 0 (by simp) (by omega)
    rw [insA_cons, if_pos hb]
    rw [insA_at a r i (by simpa using hi) (fun j hj hlt => h1 (j + 1) (by simpa using hj) (by omega)) (fun j hj hle => h2 (j + 1) (by simpa using hj) (by omega))]
    simp

theorem find_mem {L : List Acct} {a : Acct} (hr : Rising L) (ha : a ∈ L) : findA L a.name = some a := by
  unfold findA
  induction L with
  | nil => simp at ha
  | cons b r ih =>
    obtain ⟨h1, h2⟩ := List.pairwise_cons.1 hr
    rcases List.mem_cons.1 ha with rfl | ha
    · simp
    · have : ¬ b.name = a.name := cmp_ne (h1 a ha)
      simp [this, ih h2 ha]
theorem find_none {L : List Acct} {k : ByteArray} (h : findA L k = none) : ∀ b ∈ L, b.name ≠ k := by
  intro b hb
  have := List.find?_eq_none.1 h b hb
  simpa using this
theorem rising_filter {L : List Acct} (p : Acct → Bool) (h : Rising L) : Rising (L.filter p) := h.filter p
theorem rising_get {L : List Acct} (h : Rising L) {i j : Nat} (hj : j < L.length) (hij : i < j) : cmpB (L[i]'(by omega)).name L[j].name < 0 := List.pairwise_iff_getElem.1 h i j (by omega) hj hij
end Go.Proofs.YthbiepgpflpfoaaDoor
