/- What calls on a chart do to its list of accounts: in plain words. No program. -/
import Derived.Test.YthbiepgpflpfoaaDoorClose
import Derived.Test.YthbiepgpflpfoaaDoorOpen
namespace Go.Proofs.YthbiepgpflpfoaaDoor
open Go.RowKit
set_option linter.unusedVariables false
set_option linter.unusedSimpArgs false

theorem mem_flat_self {L l : List Acct} {a : Acct} (h : a ∈ l) : a ∈ flatA L l := List.mem_flatMap.2 ⟨a, h, List.mem_cons_self ..⟩

/-- What is told below a list whose accounts are closed is closed. -/
theorem flat_closed {L : List Acct} (hv : Valid L) : ∀ (d : Nat) (l : List Acct), (∀ a ∈ l, a ∈ L) → (∀ a ∈ l, a.closed = true) → ∀ x ∈ preL L d l, x.closed = true
  | 0, l, _, _, x, hx => by simp [preL] at hx
  | d + 1, l, hl, hc, x, hx => by
    obtain ⟨a, ha, hx⟩ := List.mem_flatMap.1 hx
    rcases List.mem_cons.1 hx with rfl | hx
    · exact hc _ ha
    · refine flat_closed hv d (kidsA L a.name) (fun b hb => (List.mem_filter.1 hb).1) (fun b hb => ?_) x hx
      obtain ⟨hbL, hbp⟩ := List.mem_filter.1 hb
      obtain ⟨p, hp, e, _, _, h3⟩ := hv.up b hbL a.name (by simpa using hbp)
      have : p = a := hv.rising.inj hp (hl a ha) e
      exact h3 (this ▸ hc a ha)

theorem flat_all {L : List Acct} (hv : Valid L) (n : ByteArray) : (flatA L (kidsA L n)).all (·.closed) = (kidsA L n).all (·.closed) := by
  rw [Bool.eq_iff_iff, List.all_eq_true, List.all_eq_true]
  constructor
  · intro h x hx
    exact h x (mem_flat_self hx)
  · intro h x hx
    exact flat_closed hv 103 _ (fun b hb => (List.mem_filter.1 hb).1) h x hx

theorem closeE_kids {L : List Acct} (hv : Valid L) (name : ByteArray) : closeE L name = match findA L name with
    | none => 61
    | some a => if a.closed then 63 else if (kidsA L name).all (·.closed) then 0 else 65 := by
  unfold closeE
  cases hf : findA L name with
  | none => rfl
  | some a =>
    obtain ⟨ha, rfl⟩ := findA_some hf
    simp only [flat_all hv]

theorem rising_shut {L : List Acct} (n : ByteArray) (h : Rising L) : Rising (shutA n L) := by
  unfold Rising shutA at *
  rw [List.pairwise_map]
  refine h.imp ?_
  intro a b hab
  have e : ∀ c : Acct, (if c.name = n then { c with closed := true } else c).name = c.name := fun c => by split <;> rfl
  rw [e, e]
  exact hab

theorem mem_shut_of {n : ByteArray} {L : List Acct} {b : Acct} (h : b ∈ L) : (if b.name = n then { b with closed := true } else b) ∈ shutA n L := List.mem_map.2 ⟨b, h, rfl⟩

theorem close_valid {L : List Acct} (hv : Valid L) (name : ByteArray) : Valid (closeL L name) := by
  unfold closeL
  split
  · rename_i hE
    rw [closeE_kids hv] at hE
    cases hf : findA L name with
    | none => rw [hf] at hE; simp at hE
    | some a =>
      rw [hf] at hE
      simp only at hE
      obtain ⟨ha, rfl⟩ := findA_some hf
      have hk : (kidsA L a.name).all (·.closed) = true := by
        split at hE
        · cases hE
        · split at hE
          · assumption
          · cases hE
      rw [List.all_eq_true] at hk
      refine ⟨rising_shut _ hv.rising, by unfold shutA; simpa using hv.le, fun x hx => ?_, fun x hx u hu => ?_, fun x hx => ?_, fun x hx => ?_⟩
      · obtain ⟨b, hb, e, _⟩ := mem_shut hx
        rw [e]; exact hv.good b hb
      · obtain ⟨b, hb, e1, e2, e3, e4⟩ := mem_shut hx
        rw [e1] at hu
        obtain ⟨p, hp, rfl, h1, h2, h3⟩ := hv.up b hb u hu
        refine ⟨_, mem_shut_of (n := a.name) hp, by split <;> rfl, by rw [e2, ← h1]; split <;> rfl, by rw [e3]; refine Int.le_trans (Int.le_of_eq ?_) h2; split <;> rfl, fun hc => ?_⟩
        rw [e4]
        by_cases hba : b.name = a.name
        · rw [if_pos hba]
        · rw [if_neg hba]
          by_cases hpa : p.name = a.name
          · exact hk b (List.mem_filter.2 ⟨hb, by rw [hu, hpa]; simp⟩)
          · rw [if_neg hpa] at hc
            exact h3 hc
      · obtain ⟨b, hb, _, _, e, _⟩ := mem_shut hx
        rw [e]; exact hv.day b hb
      · obtain ⟨b, hb, _, e, _, _⟩ := mem_shut hx
        rw [e]; exact hv.typ b hb
  · exact hv

/-- One act: a call's kind and what it is handed. -/
structure ActV where
  kind : Int
  typ : Int
  day : Int
  name : ByteArray

def actE (L : List Acct) (a : ActV) : Int := if a.kind = 1 then openE L a.name a.typ a.day else if a.kind = 2 then closeE L a.name else if a.kind = 3 then mayE L a.name a.day else 0
def actL (L : List Acct) (a : ActV) : List Acct := if a.kind = 1 then openL L a.name a.typ a.day else if a.kind = 2 then closeL L a.name else L
def playL (L : List Acct) (ac : List ActV) : List Acct := ac.foldl actL L

theorem act_valid {L : List Acct} (hv : Valid L) (a : ActV) : Valid (actL L a) := by
  unfold actL
  split
  · exact open_valid hv _ _ _
  · split
    · exact close_valid hv _
    · exact hv
theorem play_valid : ∀ (ac : List ActV) {L : List Acct}, Valid L → Valid (playL L ac)
  | [], _, h => h
  | a :: r, _, h => play_valid r (act_valid h a)
theorem playL_take (L : List Acct) (ac : List ActV) (k : Nat) (h : k < ac.length) : playL L (ac.take (k + 1)) = actL (playL L (ac.take k)) ac[k] := by
  unfold playL
  rw [List.take_succ_eq_append_getElem h, List.foldl_append]
  rfl

/-- A call that is refused changes nothing. -/
theorem act_refused (L : List Acct) (a : ActV) (h : actE L a ≠ 0 ∨ a.kind = 3) : actL L a = L := by
  unfold actE at h
  unfold actL openL closeL
  split
  · rename_i h1
    rw [if_pos h1] at h
    rw [if_neg]
    intro e
    rcases h with h | h
    · exact h e
    · omega
  · rename_i h1
    rw [if_neg h1] at h
    split
    · rename_i h2
      rw [if_pos h2] at h
      rw [if_neg]
      intro e
      rcases h with h | h
      · exact h e
      · omega
    · rfl
end Go.Proofs.YthbiepgpflpfoaaDoor
