/- The sorting of accounts by their names. -/
import Derived.Test.YthbiepgpflpfoaaDoorSortLay
import Derived.Test.YthbiepgpflpfoaaDoorOrder
import Derived.Test.YthbiepgpflpfoaaDoorFrom
namespace Go.Proofs.YthbiepgpflpfoaaDoor
open Go.RowKit Go.Shelf Go.Lib Go.Sort
set_option linter.unusedVariables false
set_option linter.unusedSimpArgs false

instance : Inhabited Acct := ⟨noA⟩
/-- An account's cells. -/
def encA (a : Acct) : List Value := [.string a.name, .int .i64 a.typ, .int .i64 a.opened, .bool a.closed]
def cfA (a b : Acct) : Int := cmpB a.name b.name

theorem ltA (a b : Acct) : ltOf cfA a b = decide (cmpB a.name b.name < 0) := rfl
theorem cmp_neg_trans {a b c : ByteArray} (h1 : ¬ cmpB a b < 0) (h2 : ¬ cmpB b c < 0) : ¬ cmpB a c < 0 := by
  intro h
  by_cases e1 : a = b
  · subst e1; exact h2 h
  · rcases cmp_total e1 with h3 | h3
    · exact h1 h3
    · exact h2 (cmp_trans h3 h)
theorem swoA : SWO (ltOf cfA) where
  irrefl x := by rw [ltA, cmp_self]; rfl
  trans x y z h1 h2 := by rw [ltA] at *; simp only [decide_eq_true_eq] at *; exact cmp_trans h1 h2
  ntrans x y z h1 h2 := by rw [ltA] at *; simp only [decide_eq_false_iff_not] at *; exact cmp_neg_trans h1 h2

theorem isAggA (w : World) : (isAgg 35).run Tryd.prog w = .ok true w := by kernel_rfl
theorem sizeOfA (w : World) : (Go.sizeOf 35).run Tryd.prog w = .ok 4 w := by kernel_rfl

set_option maxHeartbeats 1000000 in
/-- The comparison of two accounts: in whatever world; two blocks are laid. -/
theorem accCmp (x y : Acct) (W : World) : Calls Tryd.prog 24 #[.agg #[.string x.name, .int .i64 x.typ, .int .i64 x.opened, .bool x.closed], .agg #[.string y.name, .int .i64 y.typ, .int .i64 y.opened, .bool y.closed]] W fun e w' => e = .returned (.int .i64 (cmpB x.name y.name)) ∧ ∃ q os', w' = grow (W.drewN q) os' := by
  have hcon := fun W' => Tryd.strings_Compare x.name y.name W'
  unfold cmpB
  generalize Lib.compareBytes x.name.data.toList y.name.data.toList = r at hcon ⊢
  go_enter Tryd.func24, Tryd.ntmps24
  go_wp2_with (go_at_call 25; refine (hcon _).mono ?_; rintro e w' ⟨rfl, rfl⟩)
  go_ret
  exact ⟨rfl, 0, _, by rw [alloc_eq_grow, alloc_eq_grow, grow_grow]; rfl⟩

theorem ch_sortWorld (enc : Acct → List Value) (k : Nat) (w : World) (blk off n : Nat) (d : Array Acct) (os : Array Obj) : Ch (fun i => i = blk) w (sortWorldK enc k w blk off n d os) := by
  unfold sortWorldK
  have h1 : Ch (fun i => i = blk) w (putRowK enc k (Sort.ahead w n) blk off d) := by
    refine ⟨rfl, rfl, rfl, ?_, fun i hi hn => ?_⟩
    · simp [putRowK, putRow, mapBlock, Sort.ahead]
    · simp [putRowK, putRow, mapBlock, Sort.ahead, Array.getElem?_modify, Ne.symm hn]
  exact h1.trans' ⟨rfl, rfl, rfl, by simp, fun i hi _ => by simp [grow, Array.getElem?_append, hi]⟩

theorem sorted_list {L l : List Acct} (hp : l.Perm L) (hL : Rising L) {d' : Array Acct} (h1 : PermIn 0 l.length l.toArray d') (h2 : SortedIn (ltOf cfA) 0 l.length d') : d'.toList = L := by
  obtain ⟨hsz, _, hperm⟩ := h1
  have hls : l.toArray.size = l.length := by simp
  have e1 : d'.extract 0 l.length = d' := by rw [← hls, ← hsz]; exact Array.extract_size
  have e2 : l.toArray.extract 0 l.length = l.toArray := by rw [← hls]; exact Array.extract_size
  rw [e1, e2] at hperm
  have hp' : d'.toList.Perm L := hperm.trans hp
  refine rising_unique hp' hL ?_
  unfold Rising
  rw [List.pairwise_iff_getElem]
  intro i j hi hj hij
  have hi' : i < d'.size := by simpa using hi
  have hj' : j < d'.size := by simpa using hj
  have h := h2 i j (Nat.zero_le _) hij (by omega)
  rw [getElem!_pos d' j hj', getElem!_pos d' i hi', ltA] at h
  have hne : d'.toList[i].name ≠ d'.toList[j].name := fun e => by
    have := hL.inj (hp'.subset (List.getElem_mem hi)) (hp'.subset (List.getElem_mem hj)) e
    have hnd : d'.toList.Nodup := hp'.symm.nodup hL.nodup
    exact List.pairwise_iff_getElem.1 hnd i j hi hj hij this
  rcases cmp_total hne with h3 | h3
  · exact h3
  · simp only [decide_eq_false_iff_not] at h
    exact absurd h3 h

/-- The accounts of a row sorted: the list of accounts by rising name. -/
theorem sort_acc {L l : List Acct} (hp : l.Perm L) (hL : Rising L) (hle : L.length ≤ 100) (blk cap : Nat) (w : World) (hrow : RowA w blk l) (hfr : ∀ i, w.frozen? ⟨blk, i, none⟩ = false) :
    Calls Tryd.prog 23 #[.slice (some ⟨blk, 0, none⟩) l.length cap, .func (.func 24) #[] #[]] w fun e w' => e = .returned (.tuple #[]) ∧ RowA w' blk L ∧ Ch (fun i => i = blk) w w' := by
  have eg : ∀ args w, (callFunc 24 args).run Tryd.prog w = .ok (.enter 24 args) w := enters_of Tryd.func24 (by kernel_rfl) rfl
  have hH : HoldsK encA 4 w blk 0 l.toArray := by
    intro t ht
    have ht' : t < l.length * 4 := by simpa using ht
    refine ⟨?_, hfr _⟩
    rw [get_flatK encA 4 l.toArray t (by simpa using ht')]
    have hj : t / 4 < l.length := by omega
    rw [getElem!_pos l.toArray (t / 4) (by simpa using hj)]
    have e : 0 + t = t / 4 * 4 + t % 4 := by omega
    rw [e]
    have h4 : t % 4 = 0 ∨ t % 4 = 1 ∨ t % 4 = 2 ∨ t % 4 = 3 := by omega
    rcases h4 with h | h | h | h
    · rw [h]; exact hrow.c0 _ hj
    · rw [h]; exact hrow.c1 _ hj
    · rw [h]; exact hrow.c2 _ hj
    · rw [h]; exact hrow.c3 _ hj
  have hlen := hp.length_eq
  have h := AnyQ.slices_SortFunc Tryd.sortAcc 4 isAggA sizeOfA encA (fun _ => rfl) (fun x v hv => by simp [encA] at hv; rcases hv with rfl | rfl | rfl | rfl <;> rfl) cfA swoA 24 #[] blk 0 cap l.toArray w eg (fun _ _ _ _ x y => accCmp x y _) hH hrow.lt (by simp; omega)
  have hsz : l.toArray.size = l.length := by simp
  rw [hsz] at h
  refine h.mono ?_
  rintro e w' ⟨rfl, d', n, os, h1, h2, rfl⟩
  refine ⟨rfl, ?_, ch_sortWorld _ _ _ _ _ _ _ _⟩
  have hd := sorted_list hp hL h1 h2
  have hds : d'.size = L.length := by rw [← hd]; simp
  have hh := holdsK_sortWorldK_c encA 4 w blk 0 l.toArray d' n os hH hrow.lt (by rw [hds]; simp [hlen])
  have hc : ∀ j (hj : j < L.length) c v, (encA L[j])[c]? = some v → (sortWorldK encA 4 w blk 0 n d' os).cell? ⟨blk, j * 4 + c, none⟩ = some v := fun j hj c v hv => by
    have := HoldsK.cells hh (fun _ => rfl) (i := j) (by omega) c v (by rw [getElem!_pos d' j (by omega)]; subst hd; simpa using hv)
    rw [Addr.add_lit] at this
    simpa using this
  exact ⟨Nat.lt_of_lt_of_le hrow.lt (ch_sortWorld encA 4 w blk 0 n d' os).size, fun j hj => hc j hj 0 _ rfl, fun j hj => hc j hj 1 _ rfl, fun j hj => hc j hj 2 _ rfl, fun j hj => hc j hj 3 _ rfl⟩
end Go.Proofs.YthbiepgpflpfoaaDoor
