/- ChartOrder: two charts and a list that shrinks, in memory. -/
import Derived.Test.YthbiepgpflpfoaaDoorTwin
import Derived.Test.YthbiepgpflpfoaaDoorReopen
import Derived.Maps.AppendAt
import Derived.Laws.OwnMore
namespace Go.Proofs.YthbiepgpflpfoaaDoor
open Go.RowKit Go.Shelf
set_option linter.unusedVariables false
set_option linter.unusedSimpArgs false

/-- What a call on one chart leaves: the kept blocks as they were. -/
structure Kept (K : Nat → Prop) (w w' : World) : Prop where
  size : w.heap.size ≤ w'.heap.size
  same : ∀ x, K x → x < w.heap.size → w'.heap[x]? = w.heap[x]?
theorem Kept.below {K : Nat → Prop} {w w' : World} (h : Below w.heap.size w w') : Kept K w w' := ⟨h.size, fun x _ hx => h.block x hx⟩
theorem Kept.reads {K : Nat → Prop} {w w' : World} {v : Value} {R : List Acct} (h : Kept K w w') (hr : KReads K w v R) : KReads K w' v R := hr.keep h.size h.same
theorem Kept.row {K : Nat → Prop} {w w' : World} {B e size n : Nat} {v : Value} {xs : List Value} (h : Kept K w w') (hr : w.ownsRow B e size v n xs) (hK : ∀ k, v.ownBlock = some k → K k) : w'.ownsRow B e size v n xs :=
  ownsRow_keep hr fun k e => h.same k (hK k e) (hr.lt k e).2

theorem kept_cell {K : Nat → Prop} {w w' : World} {b i : Nat} (h : Kept K w w') (hK : K b) (hb : b < w.heap.size) : w'.cell? ⟨b, i, none⟩ = w.cell? ⟨b, i, none⟩ := by
  simp [World.cell?, h.same b hK hb]

theorem twin_mut {w wr w' : World} {K Fc Fd : Nat → Prop} {cb db : Nat} {M L' : List Acct} {x : Value} {e : Ending}
    (h2 : ChartAt wr Fd db M) (h3 : ∀ x, Fc x → ¬ Fd x ∧ ¬ K x ∧ w.heap.size ≤ x ∧ x < wr.heap.size) (h4 : ∀ x, Fd x → ¬ K x ∧ w.heap.size ≤ x ∧ x < wr.heap.size) (hkin : ∀ x, K x → x < wr.heap.size) (hbel : Below w.heap.size w wr)
    (hm : MutPost Fc cb L' x wr e w') : e = .returned x ∧ Twin w w' K cb db L' M ∧ Kept K wr w' := by
  obtain ⟨he, F', m1, m2, m3⟩ := hm
  have hs := m2.size
  refine ⟨he, ⟨⟨_, Fd, m1.cut, h2.ch m2 fun x hx hc => (h3 x hc).1 hx, ?_, ?_⟩, ?_, ?_⟩, hs, fun x hk hx => m2.block x hx fun hc => (h3 x hc).2.1 hk⟩
  · rintro x ⟨hx, hl⟩
    rcases m3 x hx with hc | hc
    · obtain ⟨p, q, r, s⟩ := h3 x hc
      exact ⟨p, q, r, hl⟩
    · refine ⟨fun hd => by have := (h4 x hd).2.2; omega, fun hk => by have := hkin x hk; omega, ?_, hl⟩
      have := hbel.size; omega
  · intro x hx
    obtain ⟨p, q, r⟩ := h4 x hx
    exact ⟨p, q, by omega⟩
  · intro x hx
    have := hkin x hx; omega
  · exact hbel.trans (m2.toBelow hbel.size fun x hx => (h3 x hx).2.2.1)

theorem twin_open {w wr : World} {K : Nat → Prop} {cb db : Nat} {L M : List Acct} (h : Twin w wr K cb db L M) (hv : Valid M) (name : ByteArray) (typ day : Int) (hsz : name.size ≤ 140737488355328) :
    Calls Tryd.prog 12 #[.pointer (some ⟨db, 0, none⟩), .string name, .int .i64 typ, .int .i64 day] wr fun e w' => e = .returned (.int .i64 (openE M name typ day)) ∧ Twin w w' K cb db L (openL M name typ day) ∧ Kept K wr w' := by
  obtain ⟨Fc, Fd, h1, h2, h3, h4⟩ := h.swap.ex
  refine (Open_any h1 hv name typ day hsz).mono fun e w' hm => ?_
  obtain ⟨a, b, c⟩ := twin_mut h2 h3 h4 h.kin h.bel hm
  exact ⟨a, b.swap, c⟩
theorem twin_close {w wr : World} {K : Nat → Prop} {cb db : Nat} {L M : List Acct} (h : Twin w wr K cb db L M) (hv : Valid M) (name : ByteArray) :
    Calls Tryd.prog 13 #[.pointer (some ⟨db, 0, none⟩), .string name] wr fun e w' => e = .returned (.int .i64 (closeE M name)) ∧ Twin w w' K cb db L (closeL M name) ∧ Kept K wr w' := by
  obtain ⟨Fc, Fd, h1, h2, h3, h4⟩ := h.swap.ex
  refine (Close_any h1 hv name).mono fun e w' hm => ?_
  obtain ⟨a, b, c⟩ := twin_mut h2 h3 h4 h.kin h.bel hm
  exact ⟨a, b.swap, c⟩
theorem twin_find {w wr : World} {K : Nat → Prop} {cb db : Nat} {L M : List Acct} (h : Twin w wr K cb db L M) (name : ByteArray) :
    Calls Tryd.prog 11 #[.pointer (some ⟨db, 0, none⟩), .string name] wr fun e w' => e = .returned (.tuple #[accV ((findA M name).getD noA), .bool (findA M name).isSome]) ∧ Below wr.heap.size wr w' := by
  obtain ⟨Fc, Fd, h1, h2, h3, h4⟩ := h.ex
  exact Find_any h2 name
theorem Twin.below' {w wr w' : World} {K : Nat → Prop} {cb db : Nat} {L M : List Acct} (h : Twin w wr K cb db L M) (hb : Below wr.heap.size wr w') : Twin w w' K cb db L M := (h.below hb).forget fun x hx => .inl hx

/-- The state of ChartOrder's first loop: 'all' (v3), 'left' (v). -/
structure OrdAt (w : World) (lo hi bs : Nat) (wr : World) (cb db : Nat) (L M l : List Acct) (v3 v : Value) : Prop where
  twin : Twin w wr (fun x => (lo ≤ x ∧ x < hi) ∨ v.ownBlock = some x) cb db L M
  all : KReads (fun x => lo ≤ x ∧ x < hi) wr v3 L
  row : wr.ownsRow bs 35 4 v l.length (cellsA l)
  reop : Reop L M l

theorem OrdAt.below {w : World} {lo hi bs : Nat} {wr w' : World} {cb db : Nat} {L M l : List Acct} {v3 v : Value} (h : OrdAt w lo hi bs wr cb db L M l v3 v) (hb : Below wr.heap.size wr w') : OrdAt w lo hi bs w' cb db L M l v3 v :=
  ⟨h.twin.below' hb, h.all.below hb, ownsRow_keep h.row fun k e => hb.block k (h.row.lt k e).2, h.reop⟩

theorem cellsA_append (l m : List Acct) : cellsA (l ++ m) = cellsA l ++ cellsA m := by unfold cellsA; rw [List.flatMap_append]

/-- 'append(left[:i], left[i+1:]...)'. -/
theorem OrdAt.shrink {w : World} {lo hi bs : Nat} {wr : World} {cb db : Nat} {L M l : List Acct} {v3 : Value} {g n cap : Nat} (hlen : L.length ≤ 100)
    (ht : Twin w wr (fun x => (lo ≤ x ∧ x < hi) ∨ (Value.slice (some ⟨g, 0, none⟩) n cap).ownBlock = some x) cb db L M) (ha : KReads (fun x => lo ≤ x ∧ x < hi) wr v3 L)
    (hr : wr.ownsRow bs 35 4 (.slice (some ⟨g, 0, none⟩) n cap) n (cellsA l)) (hn : n = l.length) (hl : l.length ≤ 100) (i : Nat) (hi' : i < l.length) (hhi : bs ≤ wr.heap.size) (hwh : w.heap.size ≤ hi) (hhb : hi ≤ bs) :
    ∃ v' w', (Builtin.append_ #[29, 29] 29 #[.slice (some ⟨g, 0, none⟩) i cap, .slice (if cap = i + 1 then some ⟨g, 0, none⟩ else some ⟨g, (i + 1) * 4, none⟩) (n - (i + 1)) (cap - (i + 1))]).run Tryd.prog wr = .ok v' w' ∧
      Twin w w' (fun x => (lo ≤ x ∧ x < hi) ∨ v'.ownBlock = some x) cb db L M ∧ KReads (fun x => lo ≤ x ∧ x < hi) w' v3 L ∧ w'.ownsRow bs 35 4 v' (l.take i ++ l.drop (i + 1)).length (cellsA (l.take i ++ l.drop (i + 1))) := by
  obtain ⟨i0, hin, hz0, hz1, hz2⟩ := info_parts info_acc
  rcases hr.2 with ⟨e, _⟩ | ⟨g2, cap2, cur, e, hg, hcur, hnc, hcm, hcs, htk⟩
  · cases e
  injection e with e1 _ e3
  injection e1 with e1
  injection e1 with e1
  subst e1 e3
  have hown : wr.ownsRow bs 35 4 (.slice (some ⟨g, 0, none⟩) i cap) i (cellsA (l.take i)) := by
    refine ⟨by rw [cellsA_len, List.length_take]; omega, .inr ⟨g, cap, cur, rfl, hg, hcur, by omega, hcm, hcs, ?_⟩⟩
    have h1 : cur.toList.take (n * 4) = cellsA l := htk
    have h2 : cellsA (l.take i) = (cellsA l).take (i * 4) := by
      have e := cellsA_append (l.take i) (l.drop i)
      rw [List.take_append_drop] at e
      have h3 : (cellsA (l.take i)).length = i * 4 := by rw [cellsA_len, List.length_take]; omega
      rw [e, ← h3, List.take_left]
    rw [h2, ← h1, List.take_take, Nat.min_eq_left (Nat.mul_le_mul_right 4 (by omega : i ≤ n))]
  obtain ⟨ad, had, hadc⟩ : ∃ ad : Addr, (if cap = i + 1 then some (⟨g, 0, none⟩ : Addr) else some ⟨g, (i + 1) * 4, none⟩) = some ad ∧ (ad = ⟨g, (i + 1) * 4, none⟩ ∨ n = i + 1) := by
    by_cases hc : cap = i + 1
    · exact ⟨_, if_pos hc, .inr (by omega)⟩
    · exact ⟨_, if_neg hc, .inl rfl⟩
  rw [had]
  have hnews : ∀ j u, (cellsA (l.drop (i + 1)))[j]? = some u → wr.cell? (ad.add j) = some u := fun j u hu => by
    rcases hadc with rfl | hadc
    case inr =>
      have := (List.getElem?_eq_some_iff.1 hu).1
      rw [cellsA_len, List.length_drop] at this
      omega
    have h2 : cellsA (l.drop (i + 1)) = (cellsA l).drop ((i + 1) * 4) := by
      have e := cellsA_append (l.take (i + 1)) (l.drop (i + 1))
      rw [List.take_append_drop] at e
      have h3 : (cellsA (l.take (i + 1))).length = (i + 1) * 4 := by rw [cellsA_len, List.length_take]; omega
      rw [e, ← h3, List.drop_left]
    rw [h2, List.getElem?_drop] at hu
    have := hr.cells (g := g) rfl _ u hu
    rw [Addr.add_lit] at this ⊢
    simpa using this
  have hl2 : (cellsA (l.drop (i + 1))).length = (n - (i + 1)) * 4 := by rw [cellsA_len, List.length_drop, hn]
  obtain ⟨v', w', hrun, r1, r2, _, r4⟩ := run_append_own_at (P := Tryd.prog) wr bs 29 29 35 i0 (.agg #[.string ByteArray.empty, .int .i64 0, .int .i64 0, .bool false]) 4 40 Tryd.underlying29 hin hz0 hz1 hz2 rfl (by decide) _ i (cellsA (l.take i)) hown ad (n - (i + 1)) (cap - (i + 1)) (cellsA (l.drop (i + 1))) hl2 hnews (by
      intro u hu
      unfold cellsA at hu
      obtain ⟨x, _, hx⟩ := List.mem_flatMap.1 hu
      unfold encA at hx
      simp at hx
      rcases hx with rfl | rfl | rfl | rfl <;> rfl) (by unfold maxLen; omega) (by omega) hhi
  refine ⟨v', w', hrun, ?_, ?_, ?_⟩
  · obtain ⟨Fc, Fd, h1, h2, h3, h4⟩ := ht.ex
    have hgK : ∀ x, (Value.slice (some ⟨g, 0, none⟩) n cap).ownBlock = some x ↔ x = g := fun x => by
      simp [Value.ownBlock]; exact eq_comm
    have hgF : ∀ x, Fc x → x ≠ g := fun x hx e => (h3 x hx).2.1 (.inr ((hgK x).2 e))
    have hgD : ∀ x, Fd x → x ≠ g := fun x hx e => (h4 x hx).1 (.inr ((hgK x).2 e))
    have hblk : ∀ x, x < wr.heap.size → x ≠ g → w'.heap[x]? = wr.heap[x]? := fun x hx hne => r2.block x hx (by simp [Value.ownBlock, hne])
    have hsz := r2.size
    have hob : ∀ x, v'.ownBlock = some x → x = g ∨ x = wr.heap.size := fun x hx => by
      rcases r4 with h | h
      · left
        rw [hx] at h
        simp [Value.ownBlock] at h
        exact h
      · right
        rw [hx] at h
        injection h
    refine ⟨⟨Fc, Fd, h1.keep fun k hf hk => hblk k hk (hgF k hf), h2.keep fun k hf hk => hblk k hk (hgD k hf), fun x hx => ?_, fun x hx => ?_⟩, fun x hx => ?_, ?_⟩
    · obtain ⟨a, b, c, d⟩ := h3 x hx
      refine ⟨a, fun hk => ?_, c, by omega⟩
      rcases hk with hk | hk
      · exact b (.inl hk)
      · rcases hob x hk with e | e
        · exact hgF x hx e
        · omega
    · obtain ⟨b, c, d⟩ := h4 x hx
      refine ⟨fun hk => ?_, c, by omega⟩
      rcases hk with hk | hk
      · exact b (.inl hk)
      · rcases hob x hk with e | e
        · exact hgD x hx e
        · omega
    · rcases hx with hx | hx
      · have := ht.kin x (.inl hx); omega
      · exact (r1.lt x hx).2
    · refine ht.bel.grown r2 ht.bel.size fun k hk => ?_
      have : k = g := by simpa [Value.ownBlock] using hk.symm
      omega
  · refine ha.keep r2.size fun x hk hx => r2.block x hx ?_
    have : g ≠ x := by omega
    simp [Value.ownBlock, Ne.symm this]
  · have e : i + (n - (i + 1)) = (l.take i ++ l.drop (i + 1)).length := by rw [List.length_append, List.length_take, List.length_drop]; omega
    rw [cellsA_append, ← e]
    exact r1

/-- 'append([]api.Account{}, all...)'. -/
theorem copy_all {W : World} {base B : Nat} {v3 : Value} {L : List Acct} (hb : base ≤ W.heap.size) (hr : AccRow B W L v3) (hl : L.length ≤ 100) :
    ∃ v' w', (Builtin.append_ #[29, 29] 29 #[.slice (some ⟨W.heap.size, 0, none⟩) 0 0, v3]).run Tryd.prog (W.alloc (.cells #[] 35)) = .ok v' w' ∧
      w'.ownsRow base 35 4 v' L.length (cellsA L) ∧ Below W.heap.size W w' ∧ ∀ k, v'.ownBlock = some k → W.heap.size ≤ k := by
  obtain ⟨i0, hin, hz0, hz1, hz2⟩ := info_parts info_acc
  have hown : (W.alloc (.cells #[] 35)).ownsRow base 35 4 (.slice (some ⟨W.heap.size, 0, none⟩) 0 0) 0 [] := World.ownsRow_made W #[] 0 hb (by unfold maxLen; omega) rfl
  have hA0 : Below W.heap.size W (W.alloc (.cells #[] 35)) := (Below.refl _ _).alloc (Nat.le_refl _) _
  cases hr with
  | nil h =>
    subst h
    exact ⟨_, _, run_append_owned_none (P := Tryd.prog) _ base 29 29 35 i0 4 Tryd.underlying29 hin _ 0 [] hown, hown, hA0, fun k hk => by simp [Value.ownBlock] at hk; omega⟩
  | row b c hB hrow =>
    have hnews : ∀ j u, (cellsA L)[j]? = some u → (W.alloc (.cells #[] 35)).cell? ((⟨b, 0, none⟩ : Addr).add j) = some u := fun j u hu => by
      have hj : j < L.length * 4 := by have := (List.getElem?_eq_some_iff.1 hu).1; rwa [cellsA_len] at this
      obtain ⟨q, r, hr4, rfl⟩ : ∃ q r, r < 4 ∧ j = q * 4 + r := ⟨j / 4, j % 4, by omega, by omega⟩
      have hq : q < L.length := by omega
      rw [cellsA_get L q hq r hr4] at hu
      rw [Addr.add_lit, hA0.cell (p := ⟨b, 0 + (q * 4 + r), none⟩) hrow.lt, Nat.zero_add]
      have h4 : r = 0 ∨ r = 1 ∨ r = 2 ∨ r = 3 := by omega
      unfold encA at hu
      rcases h4 with rfl | rfl | rfl | rfl
      · simp at hu; rw [← hu]; exact hrow.c0 q hq
      · simp at hu; rw [← hu]; exact hrow.c1 q hq
      · simp at hu; rw [← hu]; exact hrow.c2 q hq
      · simp at hu; rw [← hu]; exact hrow.c3 q hq
    obtain ⟨v', w', hrun, r1, r2, _, r4⟩ := run_append_own_at (P := Tryd.prog) (W.alloc (.cells #[] 35)) base 29 29 35 i0 (.agg #[.string ByteArray.empty, .int .i64 0, .int .i64 0, .bool false]) 4 40 Tryd.underlying29 hin hz0 hz1 hz2 rfl (by decide) _ 0 [] hown ⟨b, 0, none⟩ L.length c (cellsA L) (cellsA_len L) hnews (by
      intro u hu
      unfold cellsA at hu
      obtain ⟨x, _, hx⟩ := List.mem_flatMap.1 hu
      unfold encA at hx
      simp at hx
      rcases hx with rfl | rfl | rfl | rfl <;> rfl) (by unfold maxLen; omega) (by omega) (by simp; omega)
    refine ⟨v', w', hrun, by simpa using r1, hA0.grown r2 (by simp) fun k hk => ?_, fun k hk => ?_⟩
    · simp [Value.ownBlock] at hk; omega
    · rcases r4 with h | h
      · rw [hk] at h; simp [Value.ownBlock] at h; omega
      · rw [hk] at h; simp at h; omega
end Go.Proofs.YthbiepgpflpfoaaDoor
