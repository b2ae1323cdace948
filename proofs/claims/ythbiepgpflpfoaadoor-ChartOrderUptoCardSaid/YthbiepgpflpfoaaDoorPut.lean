/- put: one more into a rising list of nodes. -/
import Derived.Test.YthbiepgpflpfoaaDoorOrder
namespace Go.Proofs.YthbiepgpflpfoaaDoor
open Go.RowKit
set_option linter.unusedVariables false
set_option linter.unusedSimpArgs false

theorem own_slice2 {w : World} {B e n : Nat} {v : Value} {xs : List Value} (h : w.ownsRow B e 1 v n xs) : ∃ A c, v = .slice A n c ∧ ∀ j u, xs[j]? = some u → ∃ ad, A = some ad ∧ w.cell? (ad.add j) = some u := by
  rcases h.2 with ⟨rfl, rfl⟩ | ⟨g, cap, cur, rfl, hb, hg, r⟩
  · have hx : xs = [] := by simpa using h.1
    subst hx
    exact ⟨none, 0, rfl, fun j u hu => by simp at hu⟩
  · exact ⟨_, cap, rfl, fun j u hu => ⟨_, rfl, h.cells (g := g) rfl j u hu⟩⟩

structure PutPost (ns : List ByteArray) (ps : List Value) (t : ByteArray) (p : Value) (w : World) (v : Value) (e : Ending) (w' : World) : Prop where
  ex : ∃ i v', i ≤ ns.length ∧ (∀ j (hj : j < ns.length), j < i → cmpB ns[j] t < 0) ∧ (∀ j (hj : j < ns.length), i ≤ j → 0 ≤ cmpB ns[j] t) ∧ e = .returned v' ∧
    w'.ownsRow 0 65 1 v' (ns.length + 1) (ps.take i ++ p :: ps.drop i) ∧ w.grownBy w' v.ownBlock ∧ (v'.ownBlock = v.ownBlock ∨ ∃ k, v'.ownBlock = some k ∧ w.heap.size ≤ k)

set_option maxRecDepth 100000 in
set_option maxHeartbeats 1000000 in
theorem put_any (ns : List ByteArray) (nb : ByteArray → Nat) (v : Value) (tb : Nat) (t : ByteArray) (w : World) (hn : ns.length ≤ 99)
    (hown : w.ownsRow 0 65 1 v ns.length (ns.map fun s => .pointer (some ⟨nb s, 0, none⟩)))
    (hN : ∀ j (hj : j < ns.length), w.cell? ⟨nb ns[j], 0, none⟩ = some (.string ns[j])) (ht : w.cell? ⟨tb, 0, none⟩ = some (.string t))
    (hmono : ∀ i j (hi : i < ns.length) (hj : j < ns.length), i ≤ j → cmpB ns[j] t < 0 → cmpB ns[i] t < 0) :
    Calls Tryd.prog 41 #[v, .pointer (some ⟨tb, 0, none⟩)] w (PutPost ns (ns.map fun s => .pointer (some ⟨nb s, 0, none⟩)) t (.pointer (some ⟨tb, 0, none⟩)) w v) := by
  obtain ⟨A, c, rfl, hcell⟩ := own_slice2 hown
  have hs := search_any ns nb A c tb t w (by omega) (fun j hj => hcell j _ (by simp [hj])) hN ht hmono
  have HO := Lib.hid hown
  clear hown hcell hN ht hmono
  go_enter Tryd.func41, Tryd.ntmps41
  go_wp2_with (go_at_call 57; refine hs.mono ?_; rintro e w' ⟨⟨i, f, hi, hlo, hhi, rfl⟩, q, rfl⟩; have HLO := Lib.hid hlo; have HHI := Lib.hid hhi; clear hlo hhi)
  have ho : ((w.drewN q).alloc (.cells #[.pointer (some ⟨tb, 0, none⟩)] 65)).ownsRow 0 65 1 (.slice A ns.length c) ns.length (ns.map fun s => .pointer (some ⟨nb s, 0, none⟩)) := by
    have : (w.drewN q).ownsRow 0 65 1 (.slice A ns.length c) ns.length (ns.map fun s => .pointer (some ⟨nb s, 0, none⟩)) := HO.out
    exact this.alloc _
  have hnew := heap_alloc_new (w.drewN q) (.cells #[.pointer (some ⟨tb, 0, none⟩)] 65)
  have hlt := fun k hk => (HO.out.lt k hk).2
  have hins := Insert_any (.slice A ns.length c) ns.length i w.heap.size (ns.map fun s => .pointer (some ⟨nb s, 0, none⟩)) (.pointer (some ⟨tb, 0, none⟩)) _ (by omega) hi ho hnew rfl (fun e => by have := hlt _ e; omega) (by simp [Value.oneCell'])
  clear ho hnew hlt
  go_wp2_with (go_at_call 59; refine hins.mono ?_; rintro e w' ⟨v', rfl, hown', hg, hat⟩)
  go_ret
  refine ⟨i, v', hi, HLO.out, HHI.out, rfl, hown', ?_, ?_⟩
  · have a1 := World.grownBy_alloc (w.drewN q) (.cells #[.pointer (some ⟨tb, 0, none⟩)] 65) (Value.slice A ns.length c).ownBlock
    have a2 : w.grownBy ((w.drewN q).alloc (.cells #[.pointer (some ⟨tb, 0, none⟩)] 65)) (Value.slice A ns.length c).ownBlock := ⟨a1.os, a1.tape, a1.output, a1.size, a1.block⟩
    exact a2.trans hg
  · rcases hat with h | ⟨k, h, hk⟩
    · exact .inl h
    · exact .inr ⟨k, h, by simp at hk; omega⟩
end Go.Proofs.YthbiepgpflpfoaaDoor
