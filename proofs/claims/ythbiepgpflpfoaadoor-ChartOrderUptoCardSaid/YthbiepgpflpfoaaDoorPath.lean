/- Path, Root, Under. -/
import Derived.Test.YthbiepgpflpfoaaDoorTree
import Derived.Test.YthbiepgpflpfoaaDoorParent
import Derived.Test.YthbiepgpflpfoaaDoorKids
namespace Go.Proofs.YthbiepgpflpfoaaDoor
open Go.RowKit Go.Shelf
set_option linter.unusedVariables false
set_option linter.unusedSimpArgs false

theorem cut_colon (l : List UInt8) : (Lib.cut l [58]).1 = l.takeWhile (fun c => decide (c ≠ 58)) := by
  have key : ∀ l : List UInt8, (Lib.index l [58] = -1 ∧ l.takeWhile (fun c => decide (c ≠ 58)) = l) ∨ ∃ i : Nat, Lib.index l [58] = i ∧ l.take i = l.takeWhile (fun c => decide (c ≠ 58)) := by
    intro l
    induction l with
    | nil => exact .inl ⟨rfl, rfl⟩
    | cons b r ih =>
      by_cases hb : b = 58
      · subst hb
        exact .inr ⟨0, by simp [Lib.index], by simp⟩
      · have hp : ([58] : List UInt8).isPrefixOf (b :: r) = false := by
          simp [List.isPrefixOf, Ne.symm hb]
        have ht : (b :: r).takeWhile (fun c => decide (c ≠ 58)) = b :: r.takeWhile (fun c => decide (c ≠ 58)) := by simp [List.takeWhile_cons, hb]
        have hi : Lib.index (b :: r) [58] = if Lib.index r [58] == -1 then -1 else Lib.index r [58] + 1 := by
          rw [Lib.index, hp]
          simp
        rw [ht, hi]
        rcases ih with ⟨h1, h2⟩ | ⟨i, h1, h2⟩
        · left
          rw [h1, h2]
          exact ⟨by simp, rfl⟩
        · right
          refine ⟨i + 1, ?_, by simp [h2]⟩
          rw [h1, if_neg (by simp)]
          rfl
  unfold Lib.cut
  rcases key l with ⟨h1, h2⟩ | ⟨i, h1, h2⟩
  · rw [h1, if_neg (by omega), h2]
  · rw [h1, if_pos (by omega), ← h2]
    simp

def rootG (s : ByteArray) : ByteArray := if goodB s.data.toList then rootF s else ⟨#[]⟩
def pathG (s : ByteArray) : List ByteArray := if goodB s.data.toList then pathF 103 s else []

theorem Root_any (s : ByteArray) (w : World) (hs : s.size ≤ 140737488355328) (hm : ∃ m, w.cell? ⟨0, 0, none⟩ = some (.int .i64 m)) (h0 : 0 < w.heap.size) :
    Calls Tryd.prog 20 #[.string s] w fun e w' => e = .returned (.string (rootG s)) ∧ Below w.heap.size w w' := by
  have hg := Good_any s w (by unfold maxLen; omega)
  unfold rootG
  cases hb : goodB s.data.toList with
  | false =>
    rw [hb] at hg
    clear hb
    go_enter Tryd.func20, Tryd.ntmps20
    go_wp2_with (go_at_call 27; refine hg.mono ?_; rintro e w' ⟨rfl, hbel⟩)
    go_ret
    exact ⟨rfl, hbel⟩
  | true =>
    have hsz := good_size hb
    rw [hb] at hg
    clear hb
    have hc : ∀ W, Below w.heap.size w W → Calls Tryd.prog 31 #[.string s, .string ⟨#[58]⟩] W fun e w' => ∃ b r, e = .returned (.tuple #[.string (rootF s), .string b, .bool r]) ∧ Below W.heap.size W w' := fun W hb => by
      obtain ⟨m, hm⟩ := hm
      refine (Tryd.strings_Cut s ⟨#[58]⟩ m W (by omega) ((hb.cell (p := ⟨0, 0, none⟩) h0).trans hm)).mono ?_
      rintro e w' ⟨rfl, n, rfl⟩
      refine ⟨⟨(Lib.cut s.data.toList [58]).2.1.toArray⟩, (Lib.cut s.data.toList [58]).2.2, ?_, ⟨rfl, rfl, rfl, Nat.le_refl _, fun _ _ => rfl⟩⟩
      show Ending.returned (.tuple #[.string ⟨(Lib.cut s.data.toList [58]).1.toArray⟩, _, _]) = _
      rw [cut_colon]
      rfl
    clear hm
    simp only [if_true]
    go_enter Tryd.func20, Tryd.ntmps20
    go_wp2_with (first
      | (go_at_call 27; refine hg.mono ?_; rintro e w1 ⟨rfl, hb1⟩; have hc1 := hc w1 hb1)
      | (go_at_call 31; refine hc1.mono ?_; rintro e w2 ⟨b, r, rfl, hb2⟩))
    go_ret
    exact ⟨rfl, hb1.trans (hb2.mono hb1.size)⟩

theorem hasPrefix_join (a b : ByteArray) : Lib.hasPrefix a.data.toList (b ++ ⟨#[58]⟩ : ByteArray).data.toList = (b.data.toList ++ [58]).isPrefixOf a.data.toList := by
  unfold Lib.hasPrefix
  congr 1

theorem Under_any (a b : ByteArray) (w : World) (ha : a.size ≤ 140737488355328) (hb : b.size ≤ 140737488355328) :
    Calls Tryd.prog 15 #[.string a, .string b] w fun e w' => e = .returned (.bool (underF a b)) ∧ Below w.heap.size w w' := by
  have hg1 := Good_any a w (by unfold maxLen; omega)
  have hg2 := fun W => Good_any b W (by unfold maxLen; omega)
  have hp := fun W => Tryd.strings_HasPrefix a (b ++ ⟨#[58]⟩) W
  simp only [hasPrefix_join] at hp
  unfold underF
  cases h1 : goodB a.data.toList with
  | false =>
    rw [h1] at hg1
    clear h1 hp hg2
    go_enter Tryd.func15, Tryd.ntmps15
    go_wp2_with (go_at_call 27; refine hg1.mono ?_; rintro e w1 ⟨rfl, hb1⟩)
    go_ret
    exact ⟨rfl, hb1⟩
  | true =>
    rw [h1] at hg1
    clear h1
    cases h2 : goodB b.data.toList with
    | false =>
      simp only [h2] at hg2
      clear h2 hp
      go_enter Tryd.func15, Tryd.ntmps15
      go_wp2_with (first
        | (go_at_call 27; refine hg1.mono ?_; clear hg1; rintro e w1 ⟨rfl, hb1⟩)
        | (go_at_call 27; refine (hg2 _).mono ?_; rintro e w2 ⟨rfl, hb2⟩))
      go_ret
      exact ⟨rfl, hb1.trans (hb2.mono hb1.size)⟩
    | true =>
      simp only [h2] at hg2
      clear h2
      by_cases hab : a = b
      · subst hab
        rw [decide_eq_true rfl]
        clear hp
        go_enter Tryd.func15, Tryd.ntmps15
        go_wp2_with (first
          | (go_at_call 27; refine hg1.mono ?_; clear hg1; rintro e w1 ⟨rfl, hb1⟩)
          | (go_at_call 27; refine (hg2 _).mono ?_; rintro e w2 ⟨rfl, hb2⟩))
        go_ret
        exact ⟨rfl, hb1.trans (hb2.mono hb1.size)⟩
      · rw [decide_eq_false hab]
        obtain ⟨R, hR⟩ : ∃ R, R = (b.data.toList ++ [58]).isPrefixOf a.data.toList := ⟨_, rfl⟩
        simp only [← hR] at hp ⊢
        clear hR
        have ec : (a.toList == b.toList) = false := by
          rw [beq_eq_false_iff_ne]
          intro e
          exact hab (ByteArray.ext (by simpa [ByteArray.toList_eq] using e))
        clear hab
        go_enter Tryd.func15, Tryd.ntmps15
        go_wp2_with (first
          | (go_at_call 27; refine hg1.mono ?_; clear hg1; rintro e w1 ⟨rfl, hb1⟩)
          | (go_at_call 27; refine (hg2 _).mono ?_; rintro e w2 ⟨rfl, hb2⟩)
          | (go_at_call 30; refine (hp _).mono ?_; rintro e w3 ⟨rfl, hw3⟩; subst hw3))
        go_simp
        go_wp2
        go_ret
        exact ⟨by simp, hb1.trans (hb2.mono hb1.size)⟩

theorem path_len : ∀ (d : Nat) (n : ByteArray), (pathF d n).length ≤ d
  | 0, n => by simp [pathF]
  | d + 1, n => by
    unfold pathF
    cases parentF n with
    | none => simp
    | some u => have := path_len d u; simp; omega

def restOf : Option ByteArray → List ByteArray
  | none => []
  | some u => pathF 103 u

theorem restOf_some (u : ByteArray) : restOf (some u) = pathF 103 u := by simp only [restOf]

/-- Between two rounds of Path. -/
structure PathInv (w : World) (s : ByteArray) (v up is : Value) (wr : World) (pre : List ByteArray) (o : Option ByteArray) : Prop where
  row : wr.ownsRow w.heap.size 9 1 v pre.length (pre.map Value.string)
  upv : up = .string (o.getD ⟨#[]⟩)
  isv : is = .bool o.isSome
  eq : pre ++ restOf o = pathF 103 s
  lt : ∀ u, o = some u → u.size ≤ 101
  bel : Below w.heap.size w wr

theorem own_one {w1 w2 : World} {base : Nat} (s : ByteArray) (t : TypeId) (hb : base ≤ w1.heap.size) (h : Below (w1.alloc (.cells #[.string s] t)).heap.size (w1.alloc (.cells #[.string s] t)) w2) :
    w2.ownsRow base t 1 (.slice (some ⟨w1.heap.size, 0, none⟩) 1 1) [s].length ([s].map Value.string) :=
  ⟨rfl, .inr ⟨w1.heap.size, 1, #[.string s], rfl, hb, (h.block _ (by simp)).trans (World.alloc_heap_new w1 _), Nat.le_refl _, by unfold maxLen; omega, rfl, rfl⟩⟩
def upSize (up is : Value) : Nat := match up, is with
  | .string u, .bool true => u.size + 1
  | _, _ => 0

theorem path_unfold {u : ByteArray} (h : u.size ≤ 102) : pathF 103 u = u :: restOf (parentF u) := by
  conv => lhs; unfold pathF
  cases hp : parentF u with
  | none => rfl
  | some x =>
    have := parent_size hp
    simp only
    rw [path_more 102 103 x (by omega) (by omega)]
    rfl

set_option maxRecDepth 100000 in
set_option maxHeartbeats 1000000 in
theorem Path_any (s : ByteArray) (w : World) (hs : s.size ≤ 140737488355328) :
    Calls Tryd.prog 19 #[.string s] w fun e w' => ∃ v, e = .returned v ∧ w'.ownsRow w.heap.size 9 1 v (pathG s).length ((pathG s).map Value.string) ∧ Below w.heap.size w w' := by
  have hg := Good_any s w (by unfold maxLen; omega)
  unfold pathG
  cases hb : goodB s.data.toList with
  | false =>
    rw [hb] at hg
    clear hb
    go_enter Tryd.func19, Tryd.ntmps19
    go_wp2_with (go_at_call 27; refine hg.mono ?_; rintro e w' ⟨rfl, hbel⟩)
    go_ret
    exact ⟨_, rfl, World.ownsRow_nil _ _ _ _, hbel⟩
  | true =>
    obtain ⟨i0, hi, hz0, hz1, hz2⟩ := info_parts info_str
    have hsz := good_size hb
    rw [hb] at hg
    clear hb
    simp only [if_true]
    have hpar := fun (u : ByteArray) (h : u.size ≤ 102) (W : World) => Parent_any u W (by omega)
    have hp0 := fun W => hpar s hsz W
    have HPAR := Lib.hid hpar
    clear hpar
    have hpf := path_unfold hsz
    have HPF := Lib.hid hpf
    clear hpf
    have hlt0 : ∀ u, parentF s = some u → u.size ≤ 101 := fun u hu => by have := parent_size hu; omega
    have HLT := Lib.hid hlt0
    clear hlt0
    go_enter Tryd.func19, Tryd.ntmps19
    go_wp2_with (first
      | (go_at_call 27; refine hg.mono ?_; rintro e w1 ⟨rfl, hb1⟩; have HB1 := Lib.hid hb1; clear hb1)
      | (go_at_call 10; refine (hp0 _).mono ?_; rintro e w2 ⟨rfl, hb2⟩; have HB2 := Lib.hid hb2; clear hb2))
    go_loopw [3, 4, 5] (fun v up is wr => ∃ pre o, PathInv w s v up is wr pre o) (fun _ up is _ => upSize up is)
    case atStart => exact ⟨[s], parentF s, ⟨own_one s _ HB1.out.size HB2.out, rfl, rfl, HPF.out.symm, HLT.out, (HB1.out.alloc HB1.out.size _).trans (HB2.out.mono (by have := HB1.out.size; simp; omega))⟩⟩
    case round =>
      obtain ⟨pre, o, ⟨hrow, rfl, rfl, heq, hlt, hbel⟩⟩ := hrel
      cases o with
      | none =>
        go_wp2
        go_ret
        have heq' : pre = pathF 103 s := by rw [← heq]; exact (List.append_nil pre).symm
        rw [← heq']
        exact ⟨_, rfl, hrow, hbel⟩
      | some u =>
        have hu := hlt u rfl
        have hpu := fun W => HPAR.out u (by omega) W
        have hlen : pre.length ≤ 102 := by
          have h1 := path_len 103 s
          rw [← heq, List.length_append] at h1
          have h2 : 1 ≤ (restOf (some u)).length := by show 1 ≤ (pathF 103 u).length; rw [path_unfold (by omega)]; simp
          omega
        have HEQ := Lib.hid heq
        have HO := Lib.hid hrow
        clear heq hrow hlt
        simp only [Option.getD_some, Option.isSome_some]
        go_wp2_with (first
          | (at_builtin; refine wpList_append_own _ rfl _ _ 48 rfl w.heap.size 9 i0 (.string ByteArray.empty) 1 16 Tryd.underlying48 hi hz0 hz1 hz2 rfl (by decide) _ _ _ rfl (HO.out.alloc _) ⟨wr.heap.size, 0, none⟩ 1 1 [.string u] rfl rfl (cell_one_new _ _ _) (by simp [Value.oneCell']) (by unfold maxLen; omega) (by omega) (by have := hbel.size; simp; omega) ?_; intro v' w1 hown' hgrow _; have HO1 := Lib.hid hown'; have hb1 : Below w.heap.size w w1 := (hbel.alloc hbel.size _).grown hgrow (by have := hbel.size; simp; omega) fun k' hk' => (HO.out.lt k' hk').1; clear hown' hgrow)
          | (go_at_call 10; refine (hpu _).mono ?_; rintro e w2 ⟨rfl, hb2⟩; have HB2' := Lib.hid hb2; clear hb2))
        refine ⟨⟨pre ++ [u], parentF u, ⟨?_, rfl, rfl, ?_, fun x hx => ?_, hb1.trans (HB2'.out.mono hb1.size)⟩⟩, ?_⟩
        · have h1 := HO1.out
          have h2 : w2.ownsRow w.heap.size 9 1 v' (pre.length + 1) (pre.map Value.string ++ [.string u]) := ownsRow_keep h1 fun k e => HB2'.out.block k (h1.lt k e).2
          simpa using h2
        · rw [← HEQ.out, List.append_assoc, restOf_some, path_unfold (Nat.le_succ_of_le hu), List.singleton_append]
        · have := parent_size hx; omega
        · cases hp : parentF u with
          | none => show 0 < u.size + 1; omega
          | some x => have := parent_size hp; show x.size + 1 < u.size + 1; omega
end Go.Proofs.YthbiepgpflpfoaaDoor
