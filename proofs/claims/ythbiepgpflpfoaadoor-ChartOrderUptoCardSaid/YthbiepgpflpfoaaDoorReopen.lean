/- A chart's accounts opened anew in whatever order that puts each behind its parent, then closed from behind: the same list. No program. -/
import Derived.Test.YthbiepgpflpfoaaDoorComm
import Derived.Test.YthbiepgpflpfoaaDoorTree
namespace Go.Proofs.YthbiepgpflpfoaaDoor
open Go.RowKit
set_option linter.unusedVariables false
set_option linter.unusedSimpArgs false

/-- An account as it was opened. -/
def opn (a : Acct) : Acct := { a with closed := false }

theorem insA_perm (a : Acct) : ∀ L : List Acct, (insA a L).Perm (a :: L)
  | [] => List.Perm.refl _
  | b :: r => by
    rw [insA_cons]
    split
    · exact ((insA_perm a r).cons b).trans (List.Perm.swap a b r)
    · exact List.Perm.refl _

theorem rising_opn {L : List Acct} (h : Rising L) : Rising (L.map opn) := by
  unfold Rising at *
  rw [List.pairwise_map]
  exact h

/-- M: the accounts that are open again; l: those that are left. -/
structure Reop (L M l : List Acct) : Prop where
  mv : Valid M
  perm : (M ++ l.map opn).Perm (L.map opn)

theorem Reop.start (L : List Acct) : Reop L [] L := ⟨valid_nil, List.Perm.refl _⟩

theorem Reop.mem_left {L M l : List Acct} (h : Reop L M l) {a : Acct} (ha : a ∈ l) : opn a ∈ L.map opn := h.perm.subset (List.mem_append_right _ (List.mem_map.2 ⟨a, ha, rfl⟩))
theorem Reop.mem_open {L M l : List Acct} (h : Reop L M l) {x : Acct} (hx : x ∈ M) : ∃ a ∈ L, x = opn a := by
  obtain ⟨a, ha, e⟩ := List.mem_map.1 (h.perm.subset (List.mem_append_left _ hx))
  exact ⟨a, ha, e.symm⟩
theorem Reop.len {L M l : List Acct} (h : Reop L M l) : M.length + l.length = L.length := by
  have := h.perm.length_eq
  simpa using this
theorem opn_name (a : Acct) : (opn a).name = a.name := rfl

theorem Reop.left_of {L M l : List Acct} (h : Reop L M l) {a : Acct} (ha : a ∈ l) : ∃ b ∈ L, b.name = a.name ∧ b.typ = a.typ ∧ b.opened = a.opened := by
  obtain ⟨b, hb, e⟩ := List.mem_map.1 (h.mem_left ha)
  exact ⟨b, hb, by have := congrArg Acct.name e; exact this, by have := congrArg Acct.typ e; exact this, by have := congrArg Acct.opened e; exact this⟩

theorem Reop.here {L M l : List Acct} (h : Reop L M l) {b : Acct} (hb : b ∈ L) : opn b ∈ M ∨ ∃ a ∈ l, a.name = b.name := by
  have hm : opn b ∈ M ++ l.map opn := h.perm.symm.subset (List.mem_map.2 ⟨b, hb, rfl⟩)
  rcases List.mem_append.1 hm with hm | hm
  · exact .inl hm
  · obtain ⟨a, ha, e⟩ := List.mem_map.1 hm
    exact .inr ⟨a, ha, by have := congrArg Acct.name e; exact this⟩

theorem Reop.apart {L M l : List Acct} (h : Reop L M l) (hL : Rising L) {a x : Acct} (ha : a ∈ l) (hx : x ∈ M) : x.name ≠ a.name := by
  intro e
  have hn : ((M ++ l.map opn).map (·.name)).Nodup := by
    have h1 : ((M ++ l.map opn).map (·.name)).Perm ((L.map opn).map (·.name)) := h.perm.map _
    refine h1.symm.nodup ?_
    exact names_nodup (rising_opn hL)
  rw [List.map_append, List.nodup_append] at hn
  exact hn.2.2 _ (List.mem_map.2 ⟨x, hx, rfl⟩) _ (List.mem_map.2 ⟨opn a, List.mem_map.2 ⟨a, ha, rfl⟩, rfl⟩) e

/-- What may be opened next. -/
def Next (M : List Acct) (a : Acct) : Prop := parentF a.name = none ∨ ∃ u, parentF a.name = some u ∧ (findA M u).isSome = true

theorem min_size {l : List Acct} (h : l ≠ []) : ∃ a ∈ l, ∀ b ∈ l, a.name.size ≤ b.name.size := by
  induction l with
  | nil => exact absurd rfl h
  | cons x r ih =>
    by_cases hr : r = []
    · subst hr
      exact ⟨x, by simp, fun b hb => by simp at hb; subst hb; exact Nat.le_refl _⟩
    · obtain ⟨a, ha, hm⟩ := ih hr
      by_cases hx : x.name.size ≤ a.name.size
      · exact ⟨x, by simp, fun b hb => by
          rcases List.mem_cons.1 hb with rfl | hb
          · exact Nat.le_refl _
          · exact Nat.le_trans hx (hm b hb)⟩
      · exact ⟨a, by simp [ha], fun b hb => by
          rcases List.mem_cons.1 hb with rfl | hb
          · omega
          · exact hm b hb⟩

theorem Reop.next {L M l : List Acct} (h : Reop L M l) (hv : Valid L) (hl : l ≠ []) : ∃ i, ∃ hi : i < l.length, Next M l[i] := by
  obtain ⟨a, ha, hmin⟩ := min_size hl
  obtain ⟨i, hi, rfl⟩ := List.getElem_of_mem ha
  refine ⟨i, hi, ?_⟩
  cases hp : parentF l[i].name with
  | none => exact .inl hp
  | some u =>
    right
    refine ⟨u, hp, ?_⟩
    obtain ⟨b, hb, hn, _⟩ := h.left_of ha
    obtain ⟨p, hpL, rfl, _⟩ := hv.up b hb u (by rw [hn]; exact hp)
    rcases h.here hpL with hm | ⟨c, hc, e⟩
    · have := find_mem h.mv.rising hm
      rw [opn_name] at this
      rw [this]; rfl
    · have h1 := hmin c hc
      have h2 := parent_size hp
      rw [e] at h1
      omega

/-- What is opened is opened. -/
theorem Reop.opens {L M l : List Acct} (h : Reop L M l) (hv : Valid L) {i : Nat} (hi : i < l.length) (hN : Next M l[i]) :
    openE M l[i].name (if (parentF l[i].name).isSome then 0 else l[i].typ) l[i].opened = 0 ∧ openA M l[i].name (if (parentF l[i].name).isSome then 0 else l[i].typ) l[i].opened = opn l[i] := by
  obtain ⟨b, hb, e1, e2, e3⟩ := h.left_of (List.getElem_mem hi)
  obtain ⟨a, haa⟩ : ∃ a, a = l[i] := ⟨_, rfl⟩
  have ham : a ∈ l := haa ▸ List.getElem_mem hi
  rw [← haa] at hN e1 e2 e3 ⊢
  have hg := hv.good b hb
  have hd := hv.day b hb
  have ht := hv.typ b hb
  rw [e1] at hg
  rw [e2] at ht
  rw [e3] at hd
  have hnone : findA M a.name = none := by
    unfold findA
    rw [List.find?_eq_none]
    intro x hx
    simpa using h.apart hv.rising ham hx
  have hlen : M.length < 100 := by have := h.len; have := hv.le; omega
  have hup : ∀ u, parentF a.name = some u → ∃ p ∈ M, findA M u = some p ∧ p.closed = false ∧ p.opened ≤ a.opened ∧ p.typ = a.typ := fun u hu => by
    rcases hN with hN | ⟨u', hu', hs⟩
    · rw [hN] at hu; cases hu
    · rw [hu] at hu'
      injection hu' with hu'
      subst hu'
      cases hf : findA M u with
      | none => rw [hf] at hs; cases hs
      | some p =>
        obtain ⟨hpM, rfl⟩ := findA_some hf
        obtain ⟨q, hq, rfl⟩ := h.mem_open hpM
        obtain ⟨p', hp', n1, n2, n3, _⟩ := hv.up b hb q.name (by rw [e1]; exact hu)
        have : p' = q := hv.rising.inj hp' hq n1
        subst this
        exact ⟨_, hpM, rfl, rfl, by rw [← e3]; exact n3, by rw [← e2]; exact n2⟩
  constructor
  · unfold openE
    rw [if_neg (by rw [hg]; decide), hnone]
    cases hp : parentF a.name with
    | none =>
      simp only [Option.isSome_none]
      rw [if_neg (by simp; omega), if_neg (by simp), if_neg (by omega), if_neg (by simp; omega)]
    | some u =>
      obtain ⟨p, hpM, hf, hc, ho, _⟩ := hup u hp
      simp only [Option.isSome_some, Option.isSome_none]
      rw [if_neg (by simp; omega), if_neg (by simp), if_neg (by omega)]
      simp only [if_true]
      unfold mayE
      rw [hf]
      simp only [hc]
      rw [if_neg (by simp), if_neg (by omega)]
  · unfold openA
    cases hp : parentF a.name with
    | none => rfl
    | some u =>
      obtain ⟨p, hpM, hf, hc, ho, hty⟩ := hup u hp
      simp only [hf, Option.getD_some, hty]
      rfl

theorem erase_perm {α : Type} (l : List α) (i : Nat) (hi : i < l.length) : l.Perm (l[i] :: (l.take i ++ l.drop (i + 1))) := by
  have h : l = l.take i ++ l[i] :: l.drop (i + 1) := by rw [List.getElem_cons_drop, List.take_append_drop]
  conv => lhs; rw [h]
  exact List.perm_middle

theorem Reop.step {L M l : List Acct} (h : Reop L M l) (hv : Valid L) {i : Nat} (hi : i < l.length) (hN : Next M l[i]) :
    Reop L (openL M l[i].name (if (parentF l[i].name).isSome then 0 else l[i].typ) l[i].opened) (l.take i ++ l.drop (i + 1)) := by
  obtain ⟨hE, hA⟩ := h.opens hv hi hN
  refine ⟨open_valid h.mv _ _ _, ?_⟩
  unfold openL
  rw [if_pos hE, hA]
  refine List.Perm.trans ?_ h.perm
  have h1 : (insA (opn l[i]) M ++ (l.take i ++ l.drop (i + 1)).map opn).Perm ((opn l[i] :: M) ++ (l.take i ++ l.drop (i + 1)).map opn) := (insA_perm _ _).append_right _
  have h2 : (l.map opn).Perm (opn l[i] :: (l.take i ++ l.drop (i + 1)).map opn) := by
    have := (erase_perm l i hi).map opn
    simpa using this
  refine h1.trans (List.Perm.trans ?_ (List.Perm.append_left M h2.symm))
  exact (List.perm_middle (l₁ := M)).symm

theorem Reop.done {L M : List Acct} (h : Reop L M []) (hv : Valid L) : M = L.map opn := by
  refine rising_unique ?_ (rising_opn hv.rising) h.mv.rising
  simpa using h.perm

/-- Closed from behind: n are still as they were opened. -/
def closedFrom (L : List Acct) (n : Nat) : List Acct := (L.take n).map opn ++ L.drop n

theorem closedFrom_all (L : List Acct) : closedFrom L L.length = L.map opn := by simp [closedFrom]
theorem closedFrom_none (L : List Acct) : closedFrom L 0 = L := by simp [closedFrom]

theorem closedFrom_succ (L : List Acct) (n : Nat) (h : n < L.length) : closedFrom L (n + 1) = (L.take n).map opn ++ opn L[n] :: L.drop (n + 1) := by
  unfold closedFrom
  rw [List.take_succ_eq_append_getElem h, List.map_append, List.append_assoc]
  rfl
theorem closedFrom_here (L : List Acct) (n : Nat) (h : n < L.length) : closedFrom L n = (L.take n).map opn ++ L[n] :: L.drop (n + 1) := by
  unfold closedFrom
  rw [List.getElem_cons_drop]

theorem close_step {L : List Acct} (hv : Valid L) {n : Nat} (h : n < L.length) (hm : Valid (closedFrom L (n + 1))) :
    (L[n].closed = true → closeE (closedFrom L (n + 1)) L[n].name = 0 ∧ closeL (closedFrom L (n + 1)) L[n].name = closedFrom L n) ∧ (L[n].closed = false → closedFrom L (n + 1) = closedFrom L n) := by
  constructor
  · intro hc
    have hmem : opn L[n] ∈ closedFrom L (n + 1) := by rw [closedFrom_succ L n h]; simp
    have hf : findA (closedFrom L (n + 1)) L[n].name = some (opn L[n]) := find_mem hm.rising hmem
    have hE : closeE (closedFrom L (n + 1)) L[n].name = 0 := by
      rw [closeE_kids hm, hf]
      simp only [show (opn L[n]).closed = false from rfl]
      rw [if_neg (by simp), if_pos]
      rw [List.all_eq_true]
      intro x hx
      obtain ⟨hxm, hxp⟩ := List.mem_filter.1 hx
      have hxp : parentF x.name = some L[n].name := by simpa using hxp
      rw [closedFrom_succ L n h] at hxm
      have hlow : ∀ y ∈ L.take n, cmpB y.name L[n].name < 0 := fun y hy => by
        obtain ⟨j, hj, rfl⟩ := List.getElem_of_mem hy
        have hj' : j < n := by simp at hj; omega
        rw [List.getElem_take]
        exact rising_get hv.rising h hj'
      have hpb := parent_below hxp
      rcases List.mem_append.1 hxm with hx1 | hx1
      · obtain ⟨y, hy, rfl⟩ := List.mem_map.1 hx1
        have := cmp_trans (hlow y hy) hpb
        rw [opn_name, cmp_self] at this
        omega
      · rcases List.mem_cons.1 hx1 with rfl | hx1
        · rw [opn_name] at hpb
          rw [cmp_self] at hpb
          omega
        · have hxL : x ∈ L := List.mem_of_mem_drop hx1
          obtain ⟨p, hp, e, _, _, h3⟩ := hv.up x hxL _ hxp
          have : p = L[n] := hv.rising.inj hp (List.getElem_mem h) e
          exact h3 (this ▸ hc)
    refine ⟨hE, ?_⟩
    unfold closeL
    rw [if_pos hE, closedFrom_succ L n h, closedFrom_here L n h]
    unfold shutA
    rw [List.map_append, List.map_cons]
    have hne : ∀ j (hj : j < L.length), j ≠ n → L[j].name ≠ L[n].name := fun j hj hjn e => by
      rcases Nat.lt_or_gt_of_ne hjn with hl | hl
      · have := rising_get hv.rising h hl
        rw [e, cmp_self] at this; omega
      · have := rising_get hv.rising hj hl
        rw [e, cmp_self] at this; omega
    congr 1
    · rw [List.map_map]
      apply List.map_congr_left
      intro y hy
      obtain ⟨j, hj, rfl⟩ := List.getElem_of_mem hy
      have hj' : j < n := by simp at hj; omega
      simp only [Function.comp, List.getElem_take]
      rw [if_neg]
      exact hne j (by omega) (by omega)
    · congr 1
      · rw [if_pos (opn_name _)]
        unfold opn
        rw [← hc]
      · conv => rhs; rw [← List.map_id (L.drop (n + 1))]
        apply List.map_congr_left
        intro y hy
        obtain ⟨j, hj, rfl⟩ := List.getElem_of_mem hy
        rw [List.getElem_drop]
        have hj' : n + 1 + j < L.length := by simp at hj; omega
        rw [if_neg (hne (n + 1 + j) hj' (by omega))]
        rfl
  · intro hc
    rw [closedFrom_succ L n h, closedFrom_here L n h]
    congr 2
    unfold opn
    rw [← hc]

/-- A name is under the one right above it. -/
theorem under_parent {a b : ByteArray} (ha : goodB a.data.toList = true) (hb : goodB b.data.toList = true) (h : parentF a = some b) : underF a b = true := by
  obtain ⟨r, e, _⟩ := parent_cut h
  unfold underF
  rw [ha, hb]
  simp only [Bool.true_and, Bool.or_eq_true, decide_eq_true_eq, List.isPrefixOf_iff_prefix]
  right
  exact ⟨r, by rw [e]; simp⟩

/-- Two calls on accounts of which neither is under the other change places. -/
theorem swap_far {L : List Acct} (hv : Valid L) (hl : L.length ≤ 98) (a b : ActV) (h1 : underF a.name b.name = false) (h2 : underF b.name a.name = false) :
    actE (actL L a) b = actE L b ∧ actE (actL L b) a = actE L a ∧ actL (actL L a) b = actL (actL L b) a := by
  cases ga : goodB a.name.data.toList with
  | false =>
    rw [act_bad hv a ga, act_bad (act_valid hv b) a ga]
    exact ⟨rfl, actE_bad (act_valid hv b) hv a ga, rfl⟩
  | true =>
    cases gb : goodB b.name.data.toList with
    | false =>
      rw [act_bad hv b gb, act_bad (act_valid hv a) b gb]
      exact ⟨actE_bad (act_valid hv a) hv b gb, rfl, rfl⟩
    | true =>
      refine swap_acts hv hl a b (fun e => ?_) (fun e => ?_) (fun e => ?_)
      · rw [under_parent ga gb e] at h1; cases h1
      · rw [under_parent gb ga e] at h2; cases h2
      · unfold underF at h1
        rw [ga, gb, e] at h1
        simp at h1
end Go.Proofs.YthbiepgpflpfoaaDoor
