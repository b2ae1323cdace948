/- add over charts: the chart of one account more. -/
import Derived.Test.YthbiepgpflpfoaaDoorAddAny
namespace Go.Proofs.YthbiepgpflpfoaaDoor
open Go.RowKit
set_option linter.unusedVariables false
set_option linter.unusedSimpArgs false

/-- An account may be laid into a list: nothing of its name is there, its parent is. -/
structure CanAdd (L : List Acct) (a : Acct) : Prop where
  rising : Rising L
  none_ : findA L a.name = none
  room : L.length ≤ 99
  up : ∀ u, parentF a.name = some u → ∃ p ∈ L, p.name = u
  nokid : ∀ b ∈ L, parentF b.name ≠ some a.name
  self : parentF a.name ≠ some a.name
  size : a.name.size ≤ 140737488355328

theorem CR.cb_mb {w : World} {F : Nat → Prop} {cb mb : Nat} {L : List Acct} {rv : Value} {nb : ByteArray → Nat} {kv : ByteArray → Value} {ps : List (ByteArray × Value)}
    (h : CR w F cb L mb rv nb kv ps) : cb ≠ mb := by
  intro e
  obtain ⟨es, c, h1, _⟩ := h.hM
  have := h.hC
  rw [e, h1] at this
  injection this with this
  cases this
theorem CR.nb_mb {w : World} {F : Nat → Prop} {cb mb : Nat} {L : List Acct} {rv : Value} {nb : ByteArray → Nat} {kv : ByteArray → Value} {ps : List (ByteArray × Value)}
    (h : CR w F cb L mb rv nb kv ps) {a : Acct} (ha : a ∈ L) : nb a.name ≠ mb := by
  intro e
  obtain ⟨es, c, h1, _⟩ := h.hM
  have := h.hN a ha
  rw [e, h1] at this
  injection this with this
  cases this
theorem CR.cb_nb {w : World} {F : Nat → Prop} {cb mb : Nat} {L : List Acct} {rv : Value} {nb : ByteArray → Nat} {kv : ByteArray → Value} {ps : List (ByteArray × Value)}
    (h : CR w F cb L mb rv nb kv ps) {a : Acct} (ha : a ∈ L) : cb ≠ nb a.name := by
  intro e
  have h1 := h.hN a ha
  have := h.hC
  rw [e, h1] at this
  injection this with this
  injection this with this
  have := congrArg Array.size this
  simp at this

/-- A row's block is of its element's type. -/
theorem own_ne {w : World} {B e size n b : Nat} {v : Value} {xs : List Value} {t : TypeId} {cs : Array Value} (h : w.ownsRow B e size v n xs) (hb : w.heap[b]? = some (.cells cs t (0, 0))) (ht : t ≠ e) : v.ownBlock ≠ some b := by
  rcases h.2 with ⟨rfl, _⟩ | ⟨g, cap, cur, rfl, _, hg, _⟩
  · simp [Value.ownBlock]
  · intro e1
    simp [Value.ownBlock] at e1
    subst e1
    rw [hg] at hb
    injection hb with hb
    injection hb with h1 h2 h3
    exact ht h2.symm
theorem own_ne_map {w : World} {B e size n b : Nat} {v : Value} {xs : List Value} {ps : List (ByteArray × Value)} (h : w.ownsRow B e size v n xs) (hb : StrMap w b ps) : v.ownBlock ≠ some b := by
  obtain ⟨es, c, hb, _⟩ := hb
  rcases h.2 with ⟨rfl, _⟩ | ⟨g, cap, cur, rfl, _, hg, _⟩
  · simp [Value.ownBlock]
  · intro e1
    simp [Value.ownBlock] at e1
    subst e1
    rw [hg] at hb
    injection hb with hb
    cases hb

theorem kids_insA {L : List Acct} (hr : Rising L) (a : Acct) (n : ByteArray) : kidsA (insA a L) n = if parentF a.name = some n then insA a (kidsA L n) else kidsA L n := by
  unfold kidsA
  rw [filter_insA _ a L hr]
  simp
theorem roots_insA {L : List Acct} (hr : Rising L) (a : Acct) : rootsA (insA a L) = if parentF a.name = none then insA a (rootsA L) else rootsA L := by
  unfold rootsA
  rw [filter_insA _ a L hr]
  simp

/-- Where names are not the new one's, the pointers stay. -/
theorem ptrs_same (l : List Acct) (a : Acct) (nb : ByteArray → Nat) (b : Nat) (h : ∀ x ∈ l, x.name ≠ a.name) :
    (l.map fun x => ptrV (if x.name = a.name then b else nb x.name)) = l.map fun x => ptrV (nb x.name) :=
  List.map_congr_left fun x hx => by rw [if_neg (h x hx)]

theorem CR.add_root {w w' : World} {F : Nat → Prop} {cb mb : Nat} {L : List Acct} {rv : Value} {nb : ByteArray → Nat} {kv : ByteArray → Value} {ps : List (ByteArray × Value)}
    (h : CR w F cb L mb rv nb kv ps) {a : Acct} (ha : CanAdd L a) (hp : parentF a.name = none) {o : Obj} (ho : ∀ x : World, x.heap[mb]? = some o → StrMap x mb (ps ++ [(a.name, ptrV (w.heap.size + 1))]))
    (hm : AddMem w w' mb cb 1 rv (rootsA L) a nb o) : MutPost F cb (insA a L) (.tuple #[]) w (.returned (.tuple #[])) w' := by
  obtain ⟨v', hown, hat, hblk, hmb, hnew, hset, hos, htape, hout, hsz⟩ := hm
  have hne : ∀ b ∈ L, b.name ≠ a.name := find_none ha.none_
  have hK' : ∀ b ∈ L, kidsA (insA a L) b.name = kidsA L b.name := fun b hb => by rw [kids_insA ha.rising, hp]; simp
  have hKa : kidsA (insA a L) a.name = [] := by
    rw [kids_insA ha.rising, hp]
    simp only [reduceCtorEq, if_false]
    unfold kidsA
    rw [List.filter_eq_nil_iff]
    intro b hb
    simpa using ha.nokid b hb
  have nK : ∀ b ∈ L, ∀ k, (kv b.name).ownBlock = some k → w'.heap[k]? = w.heap[k]? := fun b hb k hk => by
    refine hblk k ((h.hK b hb).lt k hk).2 (fun e => own_ne_map (h.hK b hb) h.hM (by rw [hk, e])) (fun e => own_ne (h.hK b hb) h.hC (by decide) (by rw [hk, e])) (fun e => h.dR b hb k hk e.symm)
  have ltK : ∀ b ∈ L, ∀ k, (kv b.name).ownBlock = some k → k < w.heap.size := fun b hb k hk => ((h.hK b hb).lt k hk).2
  have ltR : ∀ k, rv.ownBlock = some k → k < w.heap.size := fun k hk => (h.hR.lt k hk).2
  refine ⟨rfl, fun k => F k ∨ (w.heap.size ≤ k ∧ k < w'.heap.size), ⟨mb, v', fun n => if n = a.name then w.heap.size + 1 else nb n, fun n => if n = a.name then .slice none 0 0 else kv n, ps ++ [(a.name, ptrV (w.heap.size + 1))], ?_⟩, ?_, fun _ h => h⟩
  · refine { hC := hset _ _ h.hC, hM := ho _ hmb, hps := ?_, hlen := by simp [length_insA, h.hlen], le := by rw [length_insA]; have := ha.room; omega, hN := ?_, hK := ?_, hR := ?_, fC := .inl h.fC, fM := .inl h.fM, fN := ?_, fK := ?_, fR := ?_, inj := ?_, dK := ?_, dR := ?_ }
    · intro k
      rw [getP_append, h.hps k, find_insA hne]
      by_cases hk : a.name = k
      · subst hk
        simp [ha.none_, getP]
      · simp only [if_neg hk, getP, if_neg (Ne.symm hk), Option.or_none]
        cases hf : findA L k with
        | none => rfl
        | some b =>
          have := hne b (findA_some hf).1
          simp [this]
    · intro b hb
      rcases mem_insA.1 hb with rfl | hb
      · simpa using hnew
      · rw [if_neg (hne b hb), if_neg (hne b hb)]
        have hn := h.hN b hb
        rw [hblk _ (heap_lt hn) (h.nb_mb hb) (Ne.symm (h.cb_nb hb)) (fun e => own_ne h.hR hn (by decide) e.symm)]
        exact hn
    · intro b hb
      rcases mem_insA.1 hb with rfl | hb
      · rw [if_pos rfl, hKa]
        exact World.ownsRow_nil _ _ _ _
      · rw [if_neg (hne b hb), hK' b hb, ptrs_same (kidsA L b.name) a nb _ fun x hx => hne x (List.mem_filter.1 hx).1]
        exact ownsRow_keep (h.hK b hb) (nK b hb)
    · rw [roots_insA ha.rising, if_pos hp]
      exact hown
    · intro b hb
      rcases mem_insA.1 hb with rfl | hb
      · rw [if_pos rfl]; right; omega
      · rw [if_neg (hne b hb)]; exact .inl (h.fN b hb)
    · intro b hb k hk
      rcases mem_insA.1 hb with rfl | hb
      · simp [Value.ownBlock] at hk
      · rw [if_neg (hne b hb)] at hk; exact .inl (h.fK b hb k hk)
    · intro k hk
      rcases hat with e | ⟨j, e, hj⟩
      · exact .inl (h.fR k (e ▸ hk))
      · right
        have := (hown.lt k hk).2
        rw [e] at hk; injection hk with hk
        omega
    · intro b hb c hc
      replace hb := mem_insA.1 hb
      replace hc := mem_insA.1 hc
      rcases hb with rfl | hb <;> rcases hc with rfl | hc
      · intro _; rfl
      · rw [if_pos rfl, if_neg (hne c hc)]
        intro e; have := heap_lt (h.hN c hc); omega
      · rw [if_pos rfl, if_neg (hne b hb)]
        intro e; have := heap_lt (h.hN b hb); omega
      · rw [if_neg (hne b hb), if_neg (hne c hc)]
        exact h.inj b hb c hc
    · intro b hb c hc hbc k hk
      replace hb := mem_insA.1 hb
      replace hc := mem_insA.1 hc
      rcases hb with rfl | hb <;> rcases hc with rfl | hc
      · exact absurd rfl hbc
      · simp [Value.ownBlock] at hk
      · rw [if_pos rfl]; simp [Value.ownBlock]
      · rw [if_neg (hne b hb)] at hk
        rw [if_neg (hne c hc)]
        exact h.dK b hb c hc hbc k hk
    · intro b hb k hk
      rcases mem_insA.1 hb with rfl | hb
      · simp [Value.ownBlock] at hk
      · rw [if_neg (hne b hb)] at hk
        rcases hat with e | ⟨j, e, hj⟩
        · rw [e]; exact h.dR b hb k hk
        · rw [e]; have := ltK b hb k hk
          intro e; injection e with e; omega
  · refine ⟨hos, htape, hout, by omega, fun k hk hn => hblk k hk (fun e => hn (e ▸ h.fM)) (fun e => hn (e ▸ h.fC)) (fun e => hn (h.fR k e.symm))⟩

theorem CR.add_kid {w w' : World} {F : Nat → Prop} {cb mb : Nat} {L : List Acct} {rv : Value} {nb : ByteArray → Nat} {kv : ByteArray → Value} {ps : List (ByteArray × Value)}
    (h : CR w F cb L mb rv nb kv ps) {a p : Acct} (ha : CanAdd L a) (hpL : p ∈ L) (hp : parentF a.name = some p.name) {o : Obj} (ho : ∀ x : World, x.heap[mb]? = some o → StrMap x mb (ps ++ [(a.name, ptrV (w.heap.size + 1))]))
    (hm : AddMem w w' mb (nb p.name) 4 (kv p.name) (kidsA L p.name) a nb o) : MutPost F cb (insA a L) (.tuple #[]) w (.returned (.tuple #[])) w' := by
  obtain ⟨v', hown, hat, hblk, hmb, hnew, hset, hos, htape, hout, hsz⟩ := hm
  have hne : ∀ b ∈ L, b.name ≠ a.name := find_none ha.none_
  have hpa : p.name ≠ a.name := hne p hpL
  have hK' : ∀ b ∈ L, b.name ≠ p.name → kidsA (insA a L) b.name = kidsA L b.name := fun b hb hbp => by rw [kids_insA ha.rising, hp, if_neg]; intro e; injection e with e; exact hbp e.symm
  have hKp : kidsA (insA a L) p.name = insA a (kidsA L p.name) := by rw [kids_insA ha.rising, if_pos hp]
  have hKa : kidsA (insA a L) a.name = [] := by
    rw [kids_insA ha.rising, if_neg ha.self]
    unfold kidsA
    rw [List.filter_eq_nil_iff]
    intro b hb
    simpa using ha.nokid b hb
  have nK : ∀ b ∈ L, b.name ≠ p.name → ∀ k, (kv b.name).ownBlock = some k → w'.heap[k]? = w.heap[k]? := fun b hb hbp k hk => by
    refine hblk k ((h.hK b hb).lt k hk).2 (fun e => own_ne_map (h.hK b hb) h.hM (by rw [hk, e])) (fun e => own_ne (h.hK b hb) (h.hN p hpL) (by decide) (by rw [hk, e])) (fun e => h.dK b hb p hpL hbp k hk e.symm)
  have ltK : ∀ b ∈ L, ∀ k, (kv b.name).ownBlock = some k → k < w.heap.size := fun b hb k hk => ((h.hK b hb).lt k hk).2
  have ltR : ∀ k, rv.ownBlock = some k → k < w.heap.size := fun k hk => (h.hR.lt k hk).2
  have nR : ∀ k, rv.ownBlock = some k → w'.heap[k]? = w.heap[k]? := fun k hk => by
    refine hblk k (ltR k hk) (fun e => own_ne_map h.hR h.hM (by rw [hk, e])) (fun e => own_ne h.hR (h.hN p hpL) (by decide) (by rw [hk, e])) (fun e => h.dR p hpL k e.symm hk)
  refine ⟨rfl, fun k => F k ∨ (w.heap.size ≤ k ∧ k < w'.heap.size), ⟨mb, rv, fun n => if n = a.name then w.heap.size + 1 else nb n, fun n => if n = a.name then .slice none 0 0 else if n = p.name then v' else kv n, ps ++ [(a.name, ptrV (w.heap.size + 1))], ?_⟩, ?_, fun _ h => h⟩
  · refine { hC := ?_, hM := ho _ hmb, hps := ?_, hlen := by simp [length_insA, h.hlen], le := by rw [length_insA]; have := ha.room; omega, hN := ?_, hK := ?_, hR := ?_, fC := .inl h.fC, fM := .inl h.fM, fN := ?_, fK := ?_, fR := ?_, inj := ?_, dK := ?_, dR := ?_ }
    · rw [hblk cb (heap_lt h.hC) h.cb_mb (h.cb_nb hpL) (fun e => own_ne (h.hK p hpL) h.hC (by decide) e.symm)]
      exact h.hC
    · intro k
      rw [getP_append, h.hps k, find_insA hne]
      by_cases hk : a.name = k
      · subst hk
        simp [ha.none_, getP]
      · simp only [if_neg hk, getP, if_neg (Ne.symm hk), Option.or_none]
        cases hf : findA L k with
        | none => rfl
        | some b =>
          have := hne b (findA_some hf).1
          simp [this]
    · intro b hb
      rcases mem_insA.1 hb with rfl | hb
      · simpa using hnew
      · have hn := h.hN b hb
        rw [if_neg (hne b hb), if_neg (hne b hb)]
        by_cases hbp : b.name = p.name
        · rw [if_pos hbp]
          have hbn : nb b.name = nb p.name := by rw [hbp]
          rw [hbn] at hn ⊢
          exact hset _ _ hn
        · rw [if_neg hbp, hblk _ (heap_lt hn) (h.nb_mb hb) (fun e => hbp (h.inj b hb p hpL e)) (fun e => own_ne (h.hK p hpL) hn (by decide) e.symm)]
          exact hn
    · intro b hb
      rcases mem_insA.1 hb with rfl | hb
      · rw [if_pos rfl, hKa]
        exact World.ownsRow_nil _ _ _ _
      · rw [if_neg (hne b hb)]
        by_cases hbp : b.name = p.name
        · rw [if_pos hbp, hbp, hKp]
          exact hown
        · rw [if_neg hbp, hK' b hb hbp, ptrs_same (kidsA L b.name) a nb _ fun x hx => hne x (List.mem_filter.1 hx).1]
          exact ownsRow_keep (h.hK b hb) (nK b hb hbp)
    · rw [roots_insA ha.rising, hp]
      simp only [reduceCtorEq, if_false]
      rw [ptrs_same (rootsA L) a nb _ fun x hx => hne x (List.mem_filter.1 hx).1]
      exact ownsRow_keep h.hR nR
    · intro b hb
      rcases mem_insA.1 hb with rfl | hb
      · rw [if_pos rfl]; right; omega
      · rw [if_neg (hne b hb)]; exact .inl (h.fN b hb)
    · intro b hb k hk
      rcases mem_insA.1 hb with rfl | hb
      · simp [Value.ownBlock] at hk
      · rw [if_neg (hne b hb)] at hk
        by_cases hbp : b.name = p.name
        · rw [if_pos hbp] at hk
          rcases hat with e | ⟨j, e, hj⟩
          · exact .inl (h.fK p hpL k (e ▸ hk))
          · right
            have := (hown.lt k hk).2
            rw [e] at hk; injection hk with hk
            omega
        · rw [if_neg hbp] at hk; exact .inl (h.fK b hb k hk)
    · intro k hk; exact .inl (h.fR k hk)
    · intro b hb c hc
      replace hb := mem_insA.1 hb
      replace hc := mem_insA.1 hc
      rcases hb with rfl | hb <;> rcases hc with rfl | hc
      · intro _; rfl
      · rw [if_pos rfl, if_neg (hne c hc)]
        intro e; have := heap_lt (h.hN c hc); omega
      · rw [if_pos rfl, if_neg (hne b hb)]
        intro e; have := heap_lt (h.hN b hb); omega
      · rw [if_neg (hne b hb), if_neg (hne c hc)]
        exact h.inj b hb c hc
    · intro b hb c hc hbc k hk
      replace hb := mem_insA.1 hb
      replace hc := mem_insA.1 hc
      rcases hb with rfl | hb <;> rcases hc with rfl | hc
      · exact absurd rfl hbc
      · simp [Value.ownBlock] at hk
      · rw [if_pos rfl]; simp [Value.ownBlock]
      · rw [if_neg (hne b hb)] at hk
        rw [if_neg (hne c hc)]
        by_cases hbp : b.name = p.name
        · have hcp : c.name ≠ p.name := fun e => hbc (by rw [hbp, e])
          rw [if_pos hbp] at hk
          rw [if_neg hcp]
          rcases hat with e | ⟨j, e, hj⟩
          · exact h.dK p hpL c hc (Ne.symm hcp) k (e ▸ hk)
          · rw [e] at hk; injection hk with hk
            intro e1
            have := ltK c hc k e1
            omega
        · rw [if_neg hbp] at hk
          by_cases hcp : c.name = p.name
          · rw [if_pos hcp]
            rcases hat with e | ⟨j, e, hj⟩
            · rw [e]; exact h.dK b hb p hpL hbp k hk
            · rw [e]
              have := ltK b hb k hk
              intro e1; injection e1 with e1; omega
          · rw [if_neg hcp]; exact h.dK b hb c hc hbc k hk
    · intro b hb k hk
      rcases mem_insA.1 hb with rfl | hb
      · simp [Value.ownBlock] at hk
      · rw [if_neg (hne b hb)] at hk
        by_cases hbp : b.name = p.name
        · rw [if_pos hbp] at hk
          rcases hat with e | ⟨j, e, hj⟩
          · exact h.dR p hpL k (e ▸ hk)
          · rw [e] at hk; injection hk with hk
            intro e1
            have := ltR k e1
            omega
        · rw [if_neg hbp] at hk; exact h.dR b hb k hk
  · refine ⟨hos, htape, hout, by omega, fun k hk hn => hblk k hk (fun e => hn (e ▸ h.fM)) (fun e => hn (e ▸ h.fN p hpL)) (fun e => hn (h.fK p hpL k e.symm))⟩
end Go.Proofs.YthbiepgpflpfoaaDoor
