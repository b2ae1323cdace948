/- slices.Insert of one node's address into a list of them that the program owns: three roads. -/
import Derived.Test.YthbiepgpflpfoaaDoorBase
import Derived.Test.YthbiepgpflpfoaaDoorMem
import Derived.Shelf.Spec.SlicesInsertGrow
import Derived.Maps.AppendAt
import Derived.Deep.RegionLaw
namespace Go.Proofs.YthbiepgpflpfoaaDoor
open Go.RowKit
set_option linter.unusedVariables false
set_option linter.unusedSimpArgs false

theorem info_ptr : (Tryd.prog.info? 65).map (fun i => (i.zero, i.size, i.bytes)) = some (some (.pointer none), 1, 8) := by kernel_rfl

theorem shape_setCells (b : Nat) : ∀ (vs : List Value) (o : Nat) (w : World) (cur : Array Value) (e : TypeId), w.heap[b]? = some (.cells cur e (0, 0)) →
    ∃ cur', (w.setCells b o vs).heap[b]? = some (.cells cur' e (0, 0)) ∧ cur'.size = cur.size
  | [], o, w, cur, e, h => ⟨cur, h, rfl⟩
  | v :: r, o, w, cur, e, h => by
    obtain ⟨c, h1, h2⟩ := shape_setCells b r (o + 1) _ _ e (heap_setCell_same h v (i := o))
    exact ⟨c, h1, by rw [h2]; simp⟩
theorem grown_setCells (b : Nat) : ∀ (vs : List Value) (o : Nat) (w : World), w.grownBy (w.setCells b o vs) (some b)
  | [], o, w => World.grownBy.refl w _
  | v :: r, o, w => World.grownBy.trans (b := w.setCell ⟨b, o, none⟩ v) ⟨rfl, rfl, rfl, by simp [World.setCell], fun k hk hn => Below.heap_setCell _ _ _ _ (fun e => hn (by rw [e]))⟩ (grown_setCells b r (o + 1) _)

theorem own_of_cells {w : World} {g e n cap : Nat} {cur : Array Value} {xs : List Value} (hb : w.heap[g]? = some (.cells cur e (0, 0))) (hs : cur.size = cap) (hn : n ≤ cap) (hm : cap ≤ maxLen) (hl : xs.length = n)
    (hc : ∀ j u, xs[j]? = some u → w.cell? ⟨g, j, none⟩ = some u) : w.ownsRow 0 e 1 (.slice (some ⟨g, 0, none⟩) n cap) n xs := by
  refine ⟨by omega, .inr ⟨g, cap, cur, rfl, Nat.zero_le _, hb, hn, hm, by omega, ?_⟩⟩
  apply List.ext_getElem?
  intro j
  rw [List.getElem?_take]
  by_cases hj : j < n * 1
  · rw [if_pos hj]
    have hjx : j < xs.length := by omega
    have h := hc j _ (List.getElem?_eq_getElem hjx)
    rw [cell_of_row w g j cur e (0, 0) hb] at h
    rw [List.getElem?_eq_getElem hjx, ← h]
    simp
  · rw [if_neg hj, List.getElem?_eq_none (by omega)]

structure InsPost (w : World) (v : Value) (n : Nat) (ys : List Value) (e : Ending) (w' : World) : Prop where
  ex : ∃ v', e = .returned v' ∧ w'.ownsRow 0 65 1 v' n ys ∧ w.grownBy w' v.ownBlock ∧ (v'.ownBlock = v.ownBlock ∨ ∃ k, v'.ownBlock = some k ∧ w.heap.size ≤ k)

set_option maxRecDepth 100000 in
set_option maxHeartbeats 2000000 in
theorem Insert_end (v : Value) (n vb : Nat) (xs : List Value) (x : Value) (w : World) (hn : n ≤ 100) (hown : w.ownsRow 0 65 1 v n xs) (hx : w.heap[vb]? = some (.cells #[x] 65 (0, 0))) (h1 : x.oneCell' = true) :
    Calls Tryd.prog 59 #[v, .int .i64 n, .slice (some ⟨vb, 0, none⟩) 1 1] w (InsPost w v (n + 1) (xs ++ [x])) := by
  obtain ⟨i0, hi, hz0, hz1, hz2⟩ := info_parts info_ptr
  have hxc : ∀ j u, [x][j]? = some u → w.cell? ((⟨vb, 0, none⟩ : Addr).add j) = some u := fun j u hu => by
    have hj : j = 0 := by
      rcases j with _ | j
      · rfl
      · simp at hu
    subst hj
    simp at hu
    subst hu
    show w.cell? ⟨vb, 0, none⟩ = _
    rw [cell_of_row w vb 0 _ _ _ hx]; rfl
  have HX := Lib.hid hx
  have HXC := Lib.hid hxc
  clear hx hxc
  obtain ⟨A, c, rfl, hc0⟩ : ∃ A c, v = .slice A n c ∧ (n = c ∨ ∃ a, A = some a ∧ n ≤ c) := by
    rcases hown.2 with ⟨rfl, rfl⟩ | ⟨g, cap, cur, rfl, _, _, hnc, _⟩
    · exact ⟨none, 0, rfl, .inl rfl⟩
    · exact ⟨_, cap, rfl, .inr ⟨_, rfl, hnc⟩⟩
  have hcn : n ≤ c := by rcases hc0 with h | ⟨_, _, h⟩ <;> omega
  have hcm : c ≤ 9223372036854775807 := by
    rcases hown.2 with ⟨h, _⟩ | ⟨g, cap, cur, h, _, _, _, h2, _⟩
    · injection h; omega
    · injection h with _ _ h; subst h; unfold maxLen at h2; omega
  have HO := Lib.hid hown
  clear hown hc0
  by_cases hcap : c = n
  · subst hcap
    go_enter Tryd.func59, Tryd.ntmps59
    go_wp2_with (at_builtin; refine wpList_append_own_at _ rfl (.tmp 23) (.tmp 24) 57 rfl 0 65 i0 (.pointer none) 1 8 Tryd.underlying57 hi hz0 hz1 hz2 rfl (by decide) _ _ _ rfl HO.out ⟨vb, 0, none⟩ 1 1 [x] rfl rfl ?c1 ?c2 ?c3 ?c4 ?c5 ?_)
    case c1 => exact HXC.out
    case c2 => intro u hu; simp at hu; subst hu; exact h1
    case c3 => unfold maxLen; omega
    case c4 => omega
    case c5 => omega
    intro v' w1 hown' hg _ hat
    have HO' := Lib.hid hown'
    have HG := Lib.hid hg
    have HA := Lib.hid hat
    clear hown' hg hat
    go_wp2
    go_ret
    exact ⟨v', rfl, HO'.out, HG.out, HA.out.imp id fun h => ⟨_, h, Nat.le_refl _⟩⟩
  · have hcap' : ¬ n = c := fun e => hcap e.symm
    go_enter Tryd.func59, Tryd.ntmps59
    go_wp2_with (at_builtin; refine wpList_append_own_at _ rfl (.tmp 23) (.tmp 24) 57 rfl 0 65 i0 (.pointer none) 1 8 Tryd.underlying57 hi hz0 hz1 hz2 rfl (by decide) _ _ _ rfl HO.out ⟨vb, 0, none⟩ 1 1 [x] rfl rfl ?c1 ?c2 ?c3 ?c4 ?c5 ?_)
    case c1 => exact HXC.out
    case c2 => intro u hu; simp at hu; subst hu; exact h1
    case c3 => unfold maxLen; omega
    case c4 => omega
    case c5 => omega
    intro v' w1 hown' hg _ hat
    have HO' := Lib.hid hown'
    have HG := Lib.hid hg
    have HA := Lib.hid hat
    clear hown' hg hat
    go_wp2
    go_ret
    exact ⟨v', rfl, HO'.out, HG.out, HA.out.imp id fun h => ⟨_, h, Nat.le_refl _⟩⟩

theorem blk_cells {w : World} {b : Nat} {cs : Array Value} {t : TypeId} (h : w.heap[b]? = some (.cells cs t (0, 0))) (j : Nat) : w.cell? ⟨b, j, none⟩ = cs[j]? ∧ w.frozen? ⟨b, j, none⟩ = false :=
  ⟨cell_of_row w b j cs t (0, 0) h, by simp [World.frozen?, h]⟩

set_option maxRecDepth 100000 in
set_option maxHeartbeats 4000000 in
theorem Insert_shift (g n c i vb : Nat) (cur : Array Value) (x : Value) (w : World) (hi : i < n) (hn : n ≤ 100) (hroom : n + 1 ≤ c) (hc63 : c ≤ maxLen)
    (hcur : w.heap[g]? = some (.cells cur 65 (0, 0))) (hsz : cur.size = c) (hx : w.heap[vb]? = some (.cells #[x] 65 (0, 0))) (h1 : x.oneCell' = true) (hgv : vb ≠ g)
    (h1c : ∀ u ∈ cur.toList.take n, u.oneCell' = true) :
    Calls Tryd.prog 59 #[.slice (some ⟨g, 0, none⟩) n c, .int .i64 i, .slice (some ⟨vb, 0, none⟩) 1 1] w fun e w' =>
      e = .returned (.slice (some ⟨g, 0, none⟩) (n + 1) c) ∧ w' = (w.drew.setCells g (i + 1) ((cur.toList.take n).drop i)).setCells g i [x] := by
  unfold maxLen at hc63
  have hz2 : ¬ ((i : Int) = (n : Int)) := by omega
  have hsz1 : (Tryd.prog.info? 65).map (·.size) = some 1 := by
    obtain ⟨i0, hi0, h0, h1, h2⟩ := info_parts info_ptr
    rw [hi0]; simp [h1]
  obtain ⟨cs, hcs⟩ : ∃ cs, cs = cur.toList.take n := ⟨_, rfl⟩
  rw [← hcs] at h1c ⊢
  have hcl : cs.length = n := by rw [hcs]; simp; omega
  have hcc : ∀ j u, cs[j]? = some u → w.cell? ⟨g, j, none⟩ = some u := fun j u hu => by
    rw [(blk_cells hcur j).1]
    rw [hcs, List.getElem?_take] at hu
    split at hu
    · simpa using hu
    · cases hu
  have hsp : ∀ j, j < c → (w.cell? ⟨g, j, none⟩).isSome = true := fun j hj => by rw [(blk_cells hcur j).1, Array.getElem?_eq_getElem (by omega)]; rfl
  have hfz : ∀ j, w.frozen? ⟨g, j, none⟩ = false := fun j => (blk_cells hcur j).2
  have hov : ∀ lb cb, (callFunc 69 #[.slice (some ⟨vb, 0, none⟩) 1 1, .slice (some ⟨g, i + 1, none⟩) lb cb]).run Tryd.prog w = .ok (.value (.bool false)) w := fun lb cb => by
    rw [run_callFunc_extern Tryd.func69 (by kernel_rfl) (by kernel_rfl) (by kernel_rfl) (e := Extern.SlicesOverlaps.overlaps #[57, 57] #[4]) (by kernel_rfl),
      Lib.run_overlaps_apart w 57 4 65 Tryd.underlying57 1 Tryd.sizeOf65 ⟨vb, 0, none⟩ ⟨g, i + 1, none⟩ 1 1 lb cb hgv 65 65 1 c (by simp [World.shape?, hx]) (by simp [World.shape?, hcur, hsz]) (by omega) (blk_cells hx 0).2 (blk_cells hx 1).2]
    rfl
  have hdl : (cs.drop i).length = n - i := by rw [List.length_drop, hcl]
  have hw1 : IntKind.i64.wrap ((i : Int) + 1) = (i : Int) + 1 := by rw [IntKind.wrap_i64]; omega
  have hb1 : (0 : Int) ≤ (i : Int) + 1 := by omega
  have hin : i ≤ n := by omega
  have htn : ((i : Int) + 1).toNat = i + 1 := by omega
  have hb2 : ¬ (c = i + 1) := by omega
  have hb3 : (i : Int) ≤ (n : Int) + 1 := by omega
  have hb4 : ¬ (c = i) := by omega
  have hcp1 : ∀ ty dc sc, (Builtin.copy_ #[57, 57] ty #[.slice (some ⟨g, i + 1, none⟩) (n - i) dc, .slice (some ⟨g, i, none⟩) (n + 1 - i) sc]).run Tryd.prog w.drew = .ok (goInt (cs.drop i).length) (w.drew.setCells g (i + 1) (cs.drop i)) := fun ty dc sc =>
    run_copy_cells w.drew _ _ ty 65 g (i + 1) (n - i) dc ⟨g, i, none⟩ (n + 1 - i) sc (cs.drop i) Tryd.underlying57 hsz1 (by rw [hdl]; simp only [Nat.min_def]; split <;> omega)
      (fun j v hj => by rw [Addr.add_lit]; exact hcc (i + j) v (by rwa [List.getElem?_drop] at hj))
      (fun j hj => hsp _ (by omega)) (fun j hj => hfz _) (fun v hv => h1c v (List.mem_of_mem_drop hv))
  obtain ⟨W1, hW1⟩ : ∃ W1, W1 = w.drew.setCells g (i + 1) (cs.drop i) := ⟨_, rfl⟩
  have hsp1 : ∀ k, k < c → (W1.cell? ⟨g, k, none⟩).isSome = true := fun k hk => by
    rw [hW1]
    exact isSome_setCells g (cs.drop i) (i + 1) w.drew (fun j hj => hsp (i + 1 + j) (by rw [hdl] at hj; omega)) _ (hsp k hk)
  have hcp2 : ∀ ty dc, (Builtin.copy_ #[57, 57] ty #[.slice (some ⟨g, i, none⟩) (n + 1 - i) dc, .slice (some ⟨vb, 0, none⟩) 1 1]).run Tryd.prog W1 = .ok (goInt [x].length) (W1.setCells g i [x]) := fun ty dc =>
    run_copy_cells W1 _ _ ty 65 g i (n + 1 - i) dc ⟨vb, 0, none⟩ 1 1 [x] Tryd.underlying57 hsz1 (by simp only [Nat.min_def, List.length_cons, List.length_nil]; split <;> omega)
      (fun j v hj => by
        rw [Addr.add_lit, hW1, World.cell?_setCells_out g _ _ _ _ (fun h _ => absurd h hgv)]
        show w.cell? _ = _
        rw [(blk_cells hx _).1]
        simpa using hj)
      (fun j hj => hsp1 _ (by simp at hj; omega))
      (fun j hj => by rw [hW1, World.frozen?_setCells]; exact hfz _) (fun v hv => by simp at hv; subst hv; exact h1)
  subst hW1
  clear hcs hcl hcc hsp hfz hdl hsp1 hx hcur h1c
  go_enter Tryd.func59, Tryd.ntmps59
  go_wp2_with (simp only [hov])
  go_region_law (refine step_copy_runI rfl _ _ 57 57 rfl _ _ (by simp [Act.eval, Act.put]) (by simp [Act.eval, Act.put]) (hcp1 _ _ _) ?_)
  go_wp2_with (at_builtin; refine wpList_copy_runI _ rfl _ _ 57 57 rfl _ _ rfl rfl (hcp2 _ _) ?_)
  go_ret
  exact ⟨rfl, rfl⟩

set_option maxRecDepth 100000 in
set_option maxHeartbeats 4000000 in
theorem Insert_grow (g n i vb : Nat) (cur : Array Value) (x : Value) (w : World) (hi : i < n) (hn : n ≤ 100)
    (hcur : w.heap[g]? = some (.cells cur 65 (0, 0))) (hsz : cur.size = n) (hx : w.heap[vb]? = some (.cells #[x] 65 (0, 0))) (h1 : x.oneCell' = true)
    (h1c : ∀ u ∈ cur.toList.take n, u.oneCell' = true) :
    Calls Tryd.prog 59 #[.slice (some ⟨g, 0, none⟩) n n, .int .i64 i, .slice (some ⟨vb, 0, none⟩) 1 1] w fun e w' =>
      ∃ ROW : Array Value, ∃ G : Nat, ROW.size = G ∧ n + 1 ≤ G ∧ G ≤ maxLen ∧ ROW.toList.take i = (cur.toList.take n).take i ∧ e = .returned (.slice (some ⟨w.heap.size, 0, none⟩) (n + 1) G) ∧
      w' = ((((w.alloc (.cells ROW 65)).drew).setCells w.heap.size i [x]).drew).setCells w.heap.size (i + 1) ((cur.toList.take n).drop i) := by
  obtain ⟨i0, hi0, hz0, hzs, hzb⟩ := info_parts info_ptr
  have hz2 : ¬ ((i : Int) = (n : Int)) := by omega
  have hz3 : (n : Int) < (n : Int) + 1 := by omega
  have hsz1 : (Tryd.prog.info? 65).map (·.size) = some 1 := by rw [hi0]; simp [hzs]
  obtain ⟨cs, hcs⟩ : ∃ cs, cs = cur.toList.take n := ⟨_, rfl⟩
  rw [← hcs] at h1c ⊢
  have hcl : cs.length = n := by rw [hcs]; simp; omega
  have hcc : ∀ j u, cs[j]? = some u → w.cell? ⟨g, j, none⟩ = some u := fun j u hu => by
    rw [(blk_cells hcur j).1]
    rw [hcs, List.getElem?_take] at hu
    split at hu
    · simpa using hu
    · cases hu
  have hbw : g < w.heap.size := heap_lt hcur
  have hvw : vb < w.heap.size := heap_lt hx
  have hkk : (n : Int) + 1 - (i : Int) = ((n + 1 - i : Nat) : Int) := by omega
  have hik : i + (n + 1 - i) = n + 1 := by omega
  have hold : (Builtin.firstCells i0.size i (.slice (some ⟨g, 0, none⟩) i n)).run Tryd.prog w.drew = .ok (cs.take i).toArray w.drew := by
    rw [hzs]
    exact run_firstCells_some w.drew 1 i ⟨g, 0, none⟩ i n (cs.take i) (by rw [List.length_take]; omega) (fun j v hj => by
      rw [Addr.add_lit]
      rw [List.getElem?_take] at hj
      split at hj
      · show w.cell? _ = _
        rw [Nat.zero_add]; exact hcc j v hj
      · cases hj)
  obtain ⟨G, hG⟩ : ∃ G, G = grownCap w (n + 1) n 65 := ⟨_, rfl⟩
  obtain ⟨ROW, hROW⟩ : ∃ ROW : Array Value, ROW = (cs.take i).toArray ++ Builtin.zeroCells (Value.pointer none).cells (n + 1 - i) ++ Builtin.zeroCells (Value.pointer none).cells (G - (n + 1)) := ⟨_, rfl⟩
  have hrz : ∀ ty, (Builtin.append_ #[57, 3] ty #[.slice (some ⟨g, 0, none⟩) i n, .int .i64 ((n : Int) + 1 - (i : Int))]).run Tryd.prog w =
      .ok (.slice (some ⟨w.heap.size, 0, none⟩) (n + 1) G) (w.drew.alloc (.cells ROW 65)) := fun ty => by
    have h := Lib.run_append_grow_zeros w 57 3 ty 65 i0 _ .i64 .i64 Tryd.underlying57 Tryd.underlying3 hi0 hz0 (some ⟨g, 0, none⟩) i n (cs.take i) hold (n + 1 - i) (by omega) (by omega) (by omega) (by omega) (by rw [hzb]; omega) (by rw [hzb, hik]; exact growslice_fits (by omega) (by omega))
    rw [hik] at h
    rw [hkk, hROW, hG]
    exact h
  have hGn : n + 1 ≤ G := by rw [hG]; exact grownCap_ge w _ _ _
  have hG63 : G ≤ maxLen := by
    have := grownCap_le_maxLen w (n + 1) n 65 (by unfold maxLen; omega)
    rw [← hG] at this
    exact this
  have hRl : ROW.size = G := by
    rw [hROW]
    simp [Builtin.zeroCells, Value.cells]
    omega
  have hRt : ROW.toList.take i = cs.take i := by
    have hli : (cs.take i).length = i := by rw [List.length_take]; omega
    rw [hROW]
    simp only [Array.toList_append, List.append_assoc]
    rw [List.take_append_of_le_length (by simp only [hli]; exact Nat.le_refl _), List.take_take, Nat.min_self]
  obtain ⟨W1, hW1⟩ : ∃ W1, W1 = w.drew.alloc (.cells ROW 65) := ⟨_, rfl⟩
  have hN : ∀ j, j < n + 1 → (W1.cell? ⟨w.heap.size, j, none⟩).isSome = true := fun j hj => by
    rw [hW1, World.cell?_alloc_at (w := w.drew) ROW _ w.heap.size j rfl, Array.getElem?_eq_getElem (by omega)]; rfl
  have hNf : ∀ j, W1.frozen? ⟨w.heap.size, j, none⟩ = false := fun j => by rw [hW1]; exact World.frozen?_alloc_at (w := w.drew) ROW _ w.heap.size j rfl
  have hOb : ∀ j v, w.cell? ⟨g, j, none⟩ = some v → W1.cell? ⟨g, j, none⟩ = some v := fun j v h => by rw [hW1, World.cell?_alloc_past (w := w.drew) _ g j hbw]; exact h
  have hOv : ∀ j v, w.cell? ⟨vb, j, none⟩ = some v → W1.cell? ⟨vb, j, none⟩ = some v := fun j v h => by rw [hW1, World.cell?_alloc_past (w := w.drew) _ vb j hvw]; exact h
  have hcpA : ∀ (W : World), (∀ x, W.cell? x = W1.cell? x) → (∀ x, W.frozen? x = W1.frozen? x) → ∀ ty dc, (Builtin.copy_ #[57, 57] ty #[.slice (some ⟨w.heap.size, i, none⟩) (n + 1 - i) dc, .slice (some ⟨vb, 0, none⟩) 1 1]).run Tryd.prog W = .ok (goInt [x].length) (W.setCells w.heap.size i [x]) := fun W hWc hWf ty dc =>
    run_copy_cells W _ _ ty 65 w.heap.size i (n + 1 - i) dc ⟨vb, 0, none⟩ 1 1 [x] Tryd.underlying57 hsz1 (by simp only [Nat.min_def, List.length_cons, List.length_nil]; split <;> omega)
      (fun j v hj => by
        rw [Addr.add_lit, hWc]
        refine hOv _ v ?_
        rw [(blk_cells hx _).1, Nat.zero_add]
        simpa using hj)
      (fun j hj => by rw [hWc]; exact hN _ (by simp at hj; omega)) (fun j hj => by rw [hWf]; exact hNf _) (fun v hv => by simp at hv; subst hv; exact h1)
  have hG63' : G ≤ 9223372036854775807 := by unfold maxLen at hG63; omega
  have hGi : ¬ (G = i) := by omega
  have hGim : ¬ (G = i + 1) := by omega
  have hci : ¬ (n = i) := by omega
  have hbN : g ≠ w.heap.size := by omega
  have hdl : (cs.drop i).length = n - i := by rw [List.length_drop, hcl]
  have hcpB : ∀ (W : World), (∀ y, W.cell? y = (W1.setCells w.heap.size i [x]).cell? y) → (∀ y, W.frozen? y = (W1.setCells w.heap.size i [x]).frozen? y) → ∀ ty dc sc, (Builtin.copy_ #[57, 57] ty #[.slice (some ⟨w.heap.size, i + 1, none⟩) (n - i) dc, .slice (some ⟨g, i, none⟩) (n - i) sc]).run Tryd.prog W = .ok (goInt (cs.drop i).length) (W.setCells w.heap.size (i + 1) (cs.drop i)) := fun W hWc hWf ty dc sc =>
    run_copy_cells W _ _ ty 65 w.heap.size (i + 1) (n - i) dc ⟨g, i, none⟩ (n - i) sc (cs.drop i) Tryd.underlying57 hsz1 (by rw [hdl]; simp only [Nat.min_def]; split <;> omega)
      (fun j v hj => by
        rw [Addr.add_lit, hWc, World.cell?_setCells_out _ _ _ _ _ (fun h _ => absurd h hbN)]
        exact hOb _ v (hcc (i + j) v (by rwa [List.getElem?_drop] at hj)))
      (fun j hj => by rw [hWc]; exact isSome_setCells _ [x] i W1 (fun t ht => hN (i + t) (by simp at ht; omega)) _ (hN _ (by rw [hdl] at hj; omega)))
      (fun j hj => by rw [hWf, World.frozen?_setCells]; exact hNf _) (fun v hv => h1c v (List.mem_of_mem_drop hv))
  subst hW1
  have hE1 : ∀ y, ((w.alloc (.cells ROW 65)).drew).cell? y = (w.drew.alloc (.cells ROW 65)).cell? y := fun x => rfl
  have hE2 : ∀ y, ((w.alloc (.cells ROW 65)).drew).frozen? y = (w.drew.alloc (.cells ROW 65)).frozen? y := fun x => rfl
  have hF1 : ∀ y, (((w.alloc (.cells ROW 65)).drew.setCells w.heap.size i [x]).drew).cell? y = ((w.drew.alloc (.cells ROW 65)).setCells w.heap.size i [x]).cell? y := fun x => rfl
  have hF2 : ∀ y, (((w.alloc (.cells ROW 65)).drew.setCells w.heap.size i [x]).drew).frozen? y = ((w.drew.alloc (.cells ROW 65)).setCells w.heap.size i [x]).frozen? y := fun x => rfl
  have hA := hcpA _ hE1 hE2
  have hB := hcpB _ hF1 hF2
  have hw1 : IntKind.i64.wrap ((i : Int) + 1) = (i : Int) + 1 := by rw [IntKind.wrap_i64]; omega
  have hb1 : (0 : Int) ≤ (i : Int) + 1 := by omega
  have hin : i ≤ n := by omega
  have htn : ((i : Int) + 1).toNat = i + 1 := by omega
  have hb3 : (i : Int) ≤ (n : Int) := by omega
  have HRL := Lib.hid hRl
  have HRT := Lib.hid hRt
  have HG63 := Lib.hid hG63
  clear hkk hik hold hROW hG hRl hRt hcpA hcpB hN hNf hOb hOv hE1 hE2 hF1 hF2 hcs hcc hcl hdl hx hcur h1c hsz hG63
  go_enter Tryd.func59, Tryd.ntmps59
  go_wp2_with (first
    | (at_builtin; refine Lib.wpList_append_run _ rfl _ _ _ _ rfl _ _ rfl rfl _ _ (hrz _) ?_)
    | (at_builtin; refine wpList_copy_runI _ rfl _ _ 57 57 rfl _ _ rfl rfl (hA _ _) ?_))
  go_region_law (refine step_copy_runI rfl _ _ 57 57 rfl (.slice (some ⟨w.heap.size, i + 1, none⟩) (n - i) (G - (i + 1))) (.slice (some ⟨g, i, none⟩) (n - i) (n - i)) (by simp [Act.eval, Act.put]) (by simp [Act.eval, Act.put]) (hB 3 (G - (i + 1)) (n - i)) ?_)
  go_wp2
  go_ret
  exact ⟨ROW, G, HRL.out, hGn, HG63.out, HRT.out, rfl, rfl⟩

theorem take_eq_cells {cur : Array Value} {n : Nat} {xs : List Value} (h : cur.toList.take n = xs) : xs.length ≤ cur.size := by
  rw [← h]; simp; omega

theorem ins_get (xs : List Value) (x : Value) (i : Nat) (hi : i ≤ xs.length) (j : Nat) (u : Value) (h : (xs.take i ++ x :: xs.drop i)[j]? = some u) :
    (j < i ∧ (xs.take i)[j]? = some u) ∨ (j = i ∧ u = x) ∨ (∃ t, j = i + 1 + t ∧ (xs.drop i)[t]? = some u) := by
  have hl : (xs.take i).length = i := by rw [List.length_take]; omega
  by_cases h1 : j < i
  · rw [List.getElem?_append_left (by omega)] at h
    exact .inl ⟨h1, h⟩
  · rw [List.getElem?_append_right (by omega), hl] at h
    by_cases h2 : j = i
    · subst h2
      simp at h
      exact .inr (.inl ⟨rfl, h.symm⟩)
    · obtain ⟨t, rfl⟩ : ∃ t, j = i + 1 + t := ⟨j - i - 1, by omega⟩
      rw [show i + 1 + t - i = t + 1 by omega, List.getElem?_cons_succ] at h
      exact .inr (.inr ⟨t, rfl, h⟩)

/-- slices.Insert of one address at place i into a row that is owned. -/
theorem Insert_any (v : Value) (n i vb : Nat) (xs : List Value) (x : Value) (w : World) (hn : n ≤ 100) (hi : i ≤ n) (hown : w.ownsRow 0 65 1 v n xs) (hx : w.heap[vb]? = some (.cells #[x] 65 (0, 0))) (h1 : x.oneCell' = true)
    (hne : v.ownBlock ≠ some vb) (h1c : ∀ u ∈ xs, u.oneCell' = true) :
    Calls Tryd.prog 59 #[v, .int .i64 i, .slice (some ⟨vb, 0, none⟩) 1 1] w (InsPost w v (n + 1) (xs.take i ++ x :: xs.drop i)) := by
  have hxl : xs.length = n := by have := hown.1; omega
  by_cases hin : i = n
  · subst hin
    rw [List.take_of_length_le (by omega), List.drop_eq_nil_of_le (by omega)]
    exact Insert_end v i vb xs x w hn hown hx h1
  · rcases hown.2 with ⟨rfl, rfl⟩ | ⟨g, cap, cur, rfl, _, hg, hnc, hcm, hcs, htk⟩
    · exact absurd (Nat.le_zero.1 hi) hin
    · rw [Nat.mul_one] at hcs htk
      have hgv : vb ≠ g := fun e => hne (by rw [e]; rfl)
      have hcells : ∀ j u, xs[j]? = some u → w.cell? ⟨g, j, none⟩ = some u := fun j u hu => by
        have := hown.cells (g := g) rfl j u hu
        rwa [show (⟨g, 0, none⟩ : Addr).add j = ⟨g, j, none⟩ from by unfold Addr.add; split <;> simp_all] at this
      by_cases hroom : n + 1 ≤ cap
      · refine (Insert_shift g n cap i vb cur x w (by omega) hn hroom hcm hg hcs hx h1 hgv (by rw [htk]; exact h1c)).mono ?_
        rintro e w' ⟨rfl, rfl⟩
        rw [htk]
        obtain ⟨c1, hc1, hs1⟩ := shape_setCells g (xs.drop i) (i + 1) w.drew cur _ hg
        obtain ⟨c2, hc2, hs2⟩ := shape_setCells g [x] i _ c1 _ hc1
        have hsome : ∀ j, j < cap → (w.drew.cell? ⟨g, j, none⟩).isSome = true := fun j hj => by
          show (w.cell? _).isSome = true
          rw [(blk_cells hg j).1, Array.getElem?_eq_getElem (by omega)]; rfl
        have hdl : (xs.drop i).length = n - i := by rw [List.length_drop]; omega
        have hsome1 : ∀ j, j < cap → ((w.drew.setCells g (i + 1) (xs.drop i)).cell? ⟨g, j, none⟩).isSome = true := fun j hj =>
          isSome_setCells g (xs.drop i) (i + 1) w.drew (fun t ht => hsome _ (by omega)) j (hsome j hj)
        refine ⟨_, rfl, own_of_cells hc2 (by omega) hroom hcm (by simp; omega) ?_, World.grownBy.trans (World.grownBy.trans (b := w.drew) ⟨rfl, rfl, rfl, Nat.le_refl _, fun _ _ _ => rfl⟩ (grown_setCells g _ _ _)) (grown_setCells g _ _ _), .inl rfl⟩
        intro j u hu
        rcases ins_get xs x i (by omega) j u hu with ⟨hj, h⟩ | ⟨rfl, rfl⟩ | ⟨t, rfl, h⟩
        · rw [World.cell?_setCells_out g [x] i _ _ (fun _ _ => .inl hj), World.cell?_setCells_out g _ _ _ _ (fun _ _ => .inl (show j < i + 1 by omega))]
          rw [List.getElem?_take, if_pos hj] at h
          exact hcells j u h
        · exact World.cell?_setCells_in g [u] j _ (fun t ht => hsome1 _ (by simp at ht; omega)) 0 (by simp)
        · have htl : t < (xs.drop i).length := by
            rcases Nat.lt_or_ge t (xs.drop i).length with h' | h'
            · exact h'
            · rw [List.getElem?_eq_none h'] at h; cases h
          rw [World.cell?_setCells_out g [x] i _ _ (fun _ _ => .inr (by simp)), World.cell?_setCells_in g (xs.drop i) (i + 1) w.drew (fun s hs => hsome _ (by omega)) t htl]
          rw [List.getElem?_eq_getElem htl] at h
          exact h
      · obtain rfl : cap = n := by omega
        refine (Insert_grow g cap i vb cur x w (by omega) hn hg hcs hx h1 (by rw [htk]; exact h1c)).mono ?_
        rintro e w' ⟨ROW, G, hRs, hnG, hGm, hRt, rfl, rfl⟩
        rw [htk] at hRt ⊢
        have hb0 : ((w.alloc (.cells ROW 65)).drew).heap[w.heap.size]? = some (.cells ROW 65 (0, 0)) := heap_alloc_new w _
        obtain ⟨c1, hc1, hs1⟩ := shape_setCells w.heap.size [x] i _ ROW _ hb0
        have hc1' : ((((w.alloc (.cells ROW 65)).drew).setCells w.heap.size i [x]).drew).heap[w.heap.size]? = some (.cells c1 65 (0, 0)) := hc1
        obtain ⟨c2, hc2, hs2⟩ := shape_setCells w.heap.size (xs.drop i) (i + 1) _ c1 _ hc1'
        have hsome : ∀ j, j < G → (((w.alloc (.cells ROW 65)).drew).cell? ⟨w.heap.size, j, none⟩).isSome = true := fun j hj => by
          rw [(blk_cells hb0 j).1, Array.getElem?_eq_getElem (by omega)]; rfl
        have hdl : (xs.drop i).length = cap - i := by rw [List.length_drop]; omega
        have hsome1 : ∀ j, j < G → (((((w.alloc (.cells ROW 65)).drew).setCells w.heap.size i [x]).drew).cell? ⟨w.heap.size, j, none⟩).isSome = true := fun j hj =>
          isSome_setCells w.heap.size [x] i _ (fun t ht => hsome _ (by simp at ht; omega)) j (hsome j hj)
        have gr : w.grownBy (((((w.alloc (.cells ROW 65)).drew).setCells w.heap.size i [x]).drew).setCells w.heap.size (i + 1) (xs.drop i)) (some g) := by
          have a1 : w.grownBy ((w.alloc (.cells ROW 65)).drew) (some g) := by
            have := World.grownBy_alloc w (.cells ROW 65) (some g)
            exact ⟨this.os, this.tape, this.output, this.size, this.block⟩
          have a2 := grown_setCells w.heap.size [x] i ((w.alloc (.cells ROW 65)).drew)
          have a3 := grown_setCells w.heap.size (xs.drop i) (i + 1) ((((w.alloc (.cells ROW 65)).drew).setCells w.heap.size i [x]).drew)
          refine ⟨?_, ?_, ?_, ?_, fun k hk hn => ?_⟩
          · exact a3.os.trans (a2.os.trans a1.os)
          · exact a3.tape.trans (a2.tape.trans a1.tape)
          · exact a3.output.trans (a2.output.trans a1.output)
          · exact Nat.le_trans a1.size (Nat.le_trans a2.size a3.size)
          · have hks : k < ((w.alloc (.cells ROW 65)).drew).heap.size := by simp; omega
            have hkn : some k ≠ some w.heap.size := fun e => by injection e with e; omega
            exact (a3.block k (Nat.lt_of_lt_of_le hks a2.size) hkn).trans ((a2.block k hks hkn).trans (a1.block k hk hn))
        refine ⟨_, rfl, own_of_cells hc2 (by omega) hnG hGm (by simp; omega) ?_, gr, .inr ⟨_, rfl, Nat.le_refl _⟩⟩
        intro j u hu
        rcases ins_get xs x i (by omega) j u hu with ⟨hj, h⟩ | ⟨rfl, rfl⟩ | ⟨t, rfl, h⟩
        · rw [World.cell?_setCells_out _ _ _ _ _ (fun _ _ => .inl (show j < i + 1 by omega))]
          show (((w.alloc (.cells ROW 65)).drew).setCells w.heap.size i [x]).cell? _ = _
          rw [World.cell?_setCells_out _ [x] i _ _ (fun _ _ => .inl hj), (blk_cells hb0 j).1]
          rw [← hRt, List.getElem?_take, if_pos hj] at h
          simpa using h
        · rw [World.cell?_setCells_out _ _ _ _ _ (fun _ _ => .inl (show j < j + 1 by omega))]
          exact World.cell?_setCells_in w.heap.size [u] j _ (fun t ht => hsome _ (by simp at ht; omega)) 0 (by simp)
        · have htl : t < (xs.drop i).length := by
            rcases Nat.lt_or_ge t (xs.drop i).length with h' | h'
            · exact h'
            · rw [List.getElem?_eq_none h'] at h; cases h
          rw [World.cell?_setCells_in w.heap.size (xs.drop i) (i + 1) _ (fun s hs => hsome1 _ (by omega)) t htl]
          rw [List.getElem?_eq_getElem htl] at h
          exact h
end Go.Proofs.YthbiepgpflpfoaaDoor
