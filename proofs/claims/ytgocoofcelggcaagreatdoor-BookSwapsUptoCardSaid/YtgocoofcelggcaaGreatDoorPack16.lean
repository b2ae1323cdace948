/- The books' laws: from a walk to a row: what the arguments are, what the bound gives, that all reads as it did; BookClosed in plain words: what an event does to an account; no program. -/
import Derived.Test.YtgocoofcelggcaaGreatDoorPack14
import Derived.Test.YtgocoofcelggcaaGreatDoorRows
import Derived.ProofKit
import Derived.OpenShut
import Derived.Deep.Slices
import Derived.Deep.Fields
import Derived.ChangeSame
import Derived.Carry
import Derived.Test.YtgocoofcelggcaaGreatDoorPack12
namespace Go.Proofs.YtgocoofcelggcaaGreatDoor
open Go.ChangeShapes Go.WideShapes Go.ChangeAt Go.RowKit Go.Deep
set_option linter.unusedVariables false
set_option linter.unusedSimpArgs false

theorem laidOut : laidOutB Tryz.prog = true := by kernel_rfl

section
variable {H : Type} {enc : TypeId × Value → H} {P : Program}

theorem trodAll_stays {W W' : World} {sp : Nat → Bool} (hl : laidOutB P = true) (hb : Below W.heap.size W W') : ∀ (ts : List TypeId) (vs : List Value) (ds : List (DataW H)) (ps : List MemPlace),
    (∀ t ∈ ts, P.readableRec t = true ∧ t < P.types.size) → DataW.TrodAll enc P W 0 (fun _ => true) true ts vs ds ps → (∀ x ∈ ps, x.block < W.heap.size ∧ sp x.block = true) → DataW.TrodAll enc P W' 0 sp true ts vs ds ps
  | [], vs, ds, ps, _, h, _ => by
    obtain ⟨rfl, rfl, rfl⟩ := trodAll_nil h
    exact trodAll_mk0
  | t :: ts, vs, ds, ps, hr, h, hx => by
    obtain ⟨v, vs', d, ds', p, p', rfl, rfl, rfl, h1, h2⟩ := trodAll_cons h
    obtain ⟨hr1, hr2⟩ := hr t (by simp)
    exact trodAll_cons_mk (WideElems.Trod_stays hl hr1 hr2 h1 (fun x hm => hb.same (hx x (by simp [hm])).1) (fun x hm => (hx x (by simp [hm])).2))
      (trodAll_stays hl hb ts vs' ds' p' (fun t ht => hr t (by simp [ht])) h2 (fun x hm => hx x (by simp [hm])))

/-- A law's row, from its walk: it returns true and nothing of what was there has turned. -/
theorem post_true {f : Func} {s : ChangeSpec} {W W' : World} {args : Array Value} {ds gs : List (DataW H)} {before : List MemPlace} {tb : TypeId}
    (hW : DataW.Whole enc P f.params.toList s.vars false W args.toList ds gs before) (hvn : s.vars = [])
    (hfn : s.fn H ds = { results := [.lit (.bool true)], args := ds, vars := [] }) (hrt : f.resultTypes = #[tb]) (htb : P.underlying tb = some .bool)
    (hl : laidOutB P = true) (hread : ∀ t ∈ f.params.toList, P.readableRec t = true ∧ t < P.types.size) (hb : Below W.heap.size W W') :
    s.post enc P f false true false false W args (.bool true) W' := by
  have hlt : ∀ p ∈ before, p.block < W.heap.size := fun p hp => by simpa using hW.lt p hp
  have hW' := hW
  obtain ⟨p, q, hA, hV, rfl, hz, hn⟩ := hW'
  rw [hvn] at hV
  obtain ⟨rfl, rfl⟩ := trodVars_none hV
  have hargs : ∀ sp : Nat → Bool, (∀ x ∈ p ++ [], sp x.block = true) → DataW.TrodAll enc P W' 0 sp true f.params.toList args.toList (s.fn H (ds ++ [])).args p := fun sp hsp => by
    rw [List.append_nil, hfn]
    exact trodAll_stays hl hb _ _ _ _ hread hA fun x hx => ⟨hlt x (by simpa using hx), hsp x (by simpa using hx)⟩
  have hres : ∀ (b : Nat) (sp : Nat → Bool) (hd : Bool), DataW.TrodAll enc P W' b sp hd f.resultTypes.toList ((Value.bool true).resultList f.resultTypes.size) (s.fn H (ds ++ [])).results [] := fun b sp hd => by
    rw [List.append_nil, hfn, hrt]
    exact trodAll_cons_mk (shut_bool htb true) trodAll_mk0
  have hvars : ∀ sp : Nat → Bool, DataW.TrodVars enc P W' sp s.vars (s.fn H (ds ++ [])).vars [] := fun sp => by
    rw [List.append_nil, hfn, hvn]
    rfl
  have hold : ∀ x ∈ p ++ [], (fun b => decide (b < W.heap.size)) x.block = true := fun x hx => by simpa using hlt x hx
  refine ⟨ds, [], p ++ [], [], p, [], hW, hres _ _ _, hargs _ hold, hvars _, hb.frame _, fun _ => ?_⟩
  refine ⟨?_, _, _, ([] ++ p) ++ [], ⟨[] ++ p, [], trodAll_append (hargs _ (fun _ _ => rfl)) (hres _ _ _), hvars _, rfl, ?_, ?_⟩, ?_⟩
  · exact ok_one hrt rfl (okWide_bool_mk htb true)
  · intro b off hp
    have hm : MemPlace.cell b off ∈ p ++ [] := by simpa using hp
    rw [hb.frozen (p := ⟨b, off, none⟩) (hlt _ hm)]
    exact hz b off hm
  · intro ha
    cases ha
  · intro x hx _
    simpa using hx
end

/-! ### A slice of structs -/
section
variable {H : Type} {enc : TypeId × Value → H} {P : Program} {w : World} {base : Nat} {spare : Nat → Bool} {held : Bool}
theorem open_slice_fields {t e : TypeId} {fs : Array Field} {fuel : Nat} {cs : List Value} {x : DataW H × List MemPlace} (ht : P.underlying t = some (.slice e)) (he : P.underlying e = some (.struct fs))
    (hone : oneCellFields P fs = true) (hC : P.cellsOf e = fs.size) (h : DataW.trod enc P w base spare held fuel t cs = some x) :
    (cs = [.slice none 0 0] ∧ x = (.nil, [])) ∨
    ∃ (a : Addr) (len cap m : Nat) (D : Nat → DataW H) (Pl : Nat → List MemPlace), cs = [.slice (some a) len cap] ∧ base ≤ a.block ∧ len ≤ cap ∧ cap ≤ maxLen ∧ m = (if spare a.block then cap else len) ∧
      x = (.slice ((List.range len).map D) ((List.range (m - len)).map fun j => D (len + j)), MemPlace.row a (m * fs.size) ++ (List.range m).flatMap Pl) ∧
      ∀ i, i < m → ∃ (ys : List (DataW H × List MemPlace)) (n : Nat), D i = .agg (ys.map (·.1)) ∧ Pl i = ys.flatMap (·.2) ∧ ys.length = fs.size ∧
        ∀ (j : Nat) (f : Field), fs[j]? = some f → ∃ (v : Value) (y : DataW H × List MemPlace), w.cell? (a.add (i * fs.size + j)) = some v ∧ ys[j]? = some y ∧ DataW.trod enc P w base spare held n f.type [v] = some y := by
  rcases open_slice ht h with h0 | ⟨a, len, cap, m, n, D, Pl, hcs, hb, hl, hm, hmm, hx, hi⟩
  · exact .inl h0
  · refine .inr ⟨a, len, cap, m, D, Pl, hcs, hb, hl, hm, hmm, by rw [hC] at hx; exact hx, fun i him => ?_⟩
    obtain ⟨cs', hc, ht'⟩ := hi i him
    rw [hC] at hc
    obtain ⟨ys, n', hn', hy, hlen, hyl, hf⟩ := DataW.trod_struct he ht'
    obtain ⟨_, hcl, hat⟩ := World.cells?_some hc
    simp only [Prod.mk.injEq] at hy
    refine ⟨ys, n', hy.1, hy.2, hyl, fun j f hj => ?_⟩
    obtain ⟨ho, hk⟩ := hone_of hone j f hj
    have hjl : j < fs.size := (Array.getElem?_eq_some_iff.1 hj).1
    have hcell := hat j hjl
    have hv : cs'[j]? = some (cs'[j]'(by omega)) := List.getElem?_eq_getElem (by omega)
    have h1 := hf j f hj
    rw [ho, hk] at h1
    have hone' : (cs'.drop j).take 1 = [cs'[j]'(by omega)] := by
      rw [List.drop_eq_getElem_cons (by omega)]
      rfl
    rw [hone'] at h1
    have hys : ys[j]? = some (ys[j]'(by omega)) := List.getElem?_eq_getElem (by omega)
    refine ⟨_, _, ?_, hys, h1.trans hys⟩
    rw [← Go.Deep.add_add, hcell, hv]
end

theorem list_choice {α : Type} {n : Nat} {R : Nat → α → Prop} (h : ∀ i, i < n → ∃ x, R i x) : ∃ l : List α, l.length = n ∧ ∀ i (hi : i < l.length), R i l[i] := by
  induction n with
  | zero => exact ⟨[], rfl, fun i hi => by simp at hi⟩
  | succ n ih =>
    obtain ⟨l, hl, hR⟩ := ih fun i hi => h i (by omega)
    obtain ⟨x, hx⟩ := h n (by omega)
    refine ⟨l ++ [x], by simp [hl], fun i hi => ?_⟩
    by_cases hin : i < l.length
    · rw [List.getElem_append_left hin]
      exact hR i hin
    · have : i = l.length := by simp at hi; omega
      subst this
      rw [List.getElem_append_right (by omega)]
      simp
      rw [hl]
      exact hx

/-! ### What the bound gives -/
theorem bulk_pos {H : Type} (d : DataW H) : 1 ≤ Rows.uptoBulk d := by
  cases d with
  | lit l => cases l <;> simp [Rows.uptoBulk]
  | nil => simp [Rows.uptoBulk]
  | ptr d => simp [Rows.uptoBulk]
  | slice elems spare => simp [Rows.uptoBulk]
  | agg parts => simp [Rows.uptoBulk]
  | iface t d => simp [Rows.uptoBulk]
  | map entries => simp [Rows.uptoBulk]
  | held h => simp [Rows.uptoBulk]
theorem bulk_part {H : Type} {d : DataW H} {l : List (DataW H)} (h : d ∈ l) : Rows.uptoBulk d ≤ Rows.uptoBulkAll l := by
  induction l with
  | nil => cases h
  | cons x r ih =>
    simp only [Rows.uptoBulkAll]
    cases List.mem_cons.1 h with
    | inl e => subst e; omega
    | inr e => have := ih e; omega
theorem bulk_length {H : Type} (l : List (DataW H)) : l.length ≤ Rows.uptoBulkAll l := by
  induction l with
  | nil => simp [Rows.uptoBulkAll]
  | cons x r ih => have := bulk_pos x; simp only [Rows.uptoBulkAll, List.length_cons]; omega
theorem bulk_elems {H : Type} (elems spare : List (DataW H)) : Rows.uptoBulkAll elems + 1 ≤ Rows.uptoBulk (.slice elems spare) := by
  simp only [Rows.uptoBulk]
  omega
theorem bulk_agg {H : Type} (ps : List (DataW H)) : Rows.uptoBulkAll ps + 1 ≤ Rows.uptoBulk (.agg ps) := by
  simp only [Rows.uptoBulk]
  omega
theorem bulk_text {H : Type} (bytes : List UInt8) : Rows.uptoBulk (DataW.lit (H := H) (.string bytes)) = bytes.length + 1 := by
  simp [Rows.uptoBulk]

theorem bulk_bound {H : Type} {l : List (DataW H)} (hk : Rows.uptoSmall H l = true) : Rows.uptoBulkAll l ≤ 1048576 := by
  simpa [Rows.uptoSmall] using hk


theorem wf_i64 {n : Int} (h : (Lit.int .i64 n).wf = true) : -maxA - 1 ≤ n ∧ n ≤ maxA := by
  have e1 : IntKind.i64.min = -9223372036854775808 := by decide
  have e2 : IntKind.i64.max = 9223372036854775807 := by decide
  simp only [Lit.wf, Bool.and_eq_true, decide_eq_true_eq, e1, e2] at h
  unfold maxA
  omega

theorem trod_line {H : Type} {enc : TypeId × Value → H} {W : World} {base n : Nat} {v : Value} {y : DataW H × List MemPlace}
    (h : DataW.trod enc Tryz.prog W base (fun _ => true) true n 23 [v] = some y) (hk : Rows.uptoBulk y.1 ≤ 1048576) :
    ∃ l : List LineV, LinesAt W (fun k => k < W.heap.size) v l ∧ NilOk v ∧ l.length ≤ 1048576 ∧ (∀ x ∈ l, x.account.size ≤ 1048576 ∧ x.tag.size ≤ 1048576) ∧ ∀ x ∈ l, -maxA - 1 ≤ x.amount ∧ x.amount ≤ maxA := by
  rcases open_slice_fields Tryz.underlying23 Tryz.underlying90 (by kernel_rfl) (by kernel_rfl) h with ⟨hc, hx⟩ | ⟨a, len, cap, m, D, Pl, hc, hb, hl, hm, hmm, hx, hi⟩
  · injection hc with hc _
    subst hc
    exact ⟨[], RowAt.nil _ _ _, fun n c e => by cases e; exact ⟨rfl, rfl⟩, by simp, by simp, by simp⟩
  · injection hc with hc _
    subst hc
    subst hx
    have hmc : len ≤ m := by rw [hmm]; split <;> omega
    have hb1 := bulk_elems ((List.range len).map D) ((List.range (m - len)).map fun j => D (len + j))
    have hln := bulk_length ((List.range len).map D)
    rw [List.length_map, List.length_range] at hln
    simp only at hk
    obtain ⟨ls, hal, hR⟩ := list_choice (n := len) (R := fun j (x : LineV) => a.block < W.heap.size ∧ x.account.size ≤ 1048576 ∧ x.tag.size ≤ 1048576 ∧ (-maxA - 1 ≤ x.amount ∧ x.amount ≤ maxA) ∧
        ∀ i u, (encLine x)[i]? = some u → W.cell? ((a.add (j * 3)).add i) = some u) (fun j hj => by
      obtain ⟨ys, n, hD, hPl, hyl, hfd⟩ := hi j (by omega)
      obtain ⟨v0, y0, c0, e0, t0⟩ := hfd 0 _ rfl
      obtain ⟨v1, y1, c1, e1, t1⟩ := hfd 1 _ rfl
      obtain ⟨v2, y2, c2, e2, t2⟩ := hfd 2 _ rfl
      obtain ⟨acc, q0, z0, _⟩ := DataW.trod_string Tryz.underlying9 t0
      obtain ⟨amt, q1, _, w1⟩ := DataW.trod_int Tryz.underlying2 t1
      obtain ⟨tag, q2, z2, _⟩ := DataW.trod_string Tryz.underlying9 t2
      injection q0 with q0 _
      injection q1 with q1 _
      injection q2 with q2 _
      subst q0 q1 q2
      have h3 : D j ∈ (List.range len).map D := List.mem_map.2 ⟨j, by simpa using hj, rfl⟩
      have h4 := bulk_part h3
      rw [hD] at h4
      have h5 := bulk_agg (ys.map (·.1))
      have txt : ∀ (s : ByteArray) (y : DataW H × List MemPlace) (i : Nat), ys[i]? = some y → y.1 = .lit (.string s.data.toList) → s.size ≤ 1048576 := fun s y i e z => by
        have h1 : y.1 ∈ ys.map (·.1) := List.mem_map.2 ⟨y, List.mem_of_getElem? e, rfl⟩
        have h2 := bulk_part h1
        rw [z, bulk_text] at h2
        have h6 : s.data.toList.length = s.size := rfl
        omega
      refine ⟨⟨acc, amt, tag⟩, by have := World.block_lt_of_cell? W _ c0; rwa [block_add] at this, txt acc y0 0 e0 (by rw [z0]), txt tag y2 2 e2 (by rw [z2]), wf_i64 w1, ?_⟩
      intro i u hu
      rw [Go.Deep.add_add]
      match i, hu with
      | 0, hu => injection hu with hu; subst hu; exact c0
      | 1, hu => injection hu with hu; subst hu; exact c1
      | 2, hu => injection hu with hu; subst hu; exact c2
      | i + 3, hu => simp [encLine] at hu)
    refine ⟨ls, ⟨some a, cap, by rw [List.length_map, hal], fun j hj => ?_⟩, fun n c e => (by cases e), by omega, fun x hx => ?_, fun x hx => ?_⟩
    · have hj : j < ls.length := by simpa using hj
      obtain ⟨h1, _, _, _, h3⟩ := hR j hj
      rw [List.getElem_map]
      exact ⟨a, rfl, h1, h1, h3⟩
    · obtain ⟨j, hj, rfl⟩ := List.getElem_of_mem hx
      obtain ⟨_, h1, h2, _⟩ := hR j hj
      exact ⟨h1, h2⟩
    · obtain ⟨j, hj, rfl⟩ := List.getElem_of_mem hx
      obtain ⟨_, _, _, h1, _⟩ := hR j hj
      exact h1
set_option maxRecDepth 100000 in
theorem trod_event {H : Type} {enc : TypeId × Value → H} {W : World} {base : Nat} {C : Nat → Value → Prop} {D : DataW H} {ys : List (DataW H × List MemPlace)} {n : Nat} {fs : Array Field} (hfs : Tryz.prog.underlying 25 = some (.struct fs)) (hD : D = .agg (ys.map (·.1)))
    (hfd : ∀ (i : Nat) (f : Field), fs[i]? = some f → ∃ (v : Value) (y : DataW H × List MemPlace), C i v ∧ ys[i]? = some y ∧ DataW.trod enc Tryz.prog W base (fun _ => true) true n f.type [v] = some y) (hk : Rows.uptoBulk D ≤ 1048576) :
    ∃ (x : EventV) (lv : Value), (∀ i u, (evCs x lv).toList[i]? = some u → C i u) ∧ LinesAt W (fun k => k < W.heap.size) lv x.lines ∧ NilOk lv ∧ SmallEv x ∧ InEv x := by
  have hfs' := Tryz.underlying25
  rw [hfs] at hfs'
  injection hfs' with hfs'
  injection hfs' with hfs'
  subst hfs'
  obtain ⟨v0, y0, c0, e0, t0⟩ := hfd 0 _ rfl
  obtain ⟨v1, y1, c1, e1, t1⟩ := hfd 1 _ rfl
  obtain ⟨v2, y2, c2, e2, t2⟩ := hfd 2 _ rfl
  obtain ⟨v3, y3, c3, e3, t3⟩ := hfd 3 _ rfl
  obtain ⟨v4, y4, c4, e4, t4⟩ := hfd 4 _ rfl
  obtain ⟨v5, y5, c5, e5, t5⟩ := hfd 5 _ rfl
  obtain ⟨v6, y6, c6, e6, t6⟩ := hfd 6 _ rfl
  obtain ⟨v7, y7, c7, e7, t7⟩ := hfd 7 _ rfl
  obtain ⟨v8, y8, c8, e8, t8⟩ := hfd 8 _ rfl
  obtain ⟨v9, y9, c9, e9, t9⟩ := hfd 9 _ rfl
  obtain ⟨v10, y10, c10, e10, t10⟩ := hfd 10 _ rfl
  obtain ⟨v11, y11, c11, e11, t11⟩ := hfd 11 _ rfl
  obtain ⟨kind, q0, _, w0⟩ := DataW.trod_int Tryz.underlying3 t0
  obtain ⟨day, q1, _, w1⟩ := DataW.trod_int Tryz.underlying3 t1
  obtain ⟨key, q2, z2, _⟩ := DataW.trod_string Tryz.underlying9 t2
  obtain ⟨account, q3, z3, _⟩ := DataW.trod_string Tryz.underlying9 t3
  obtain ⟨other, q4, z4, _⟩ := DataW.trod_string Tryz.underlying9 t4
  obtain ⟨ref, q5, z5, _⟩ := DataW.trod_string Tryz.underlying9 t5
  obtain ⟨ref2, q6, z6, _⟩ := DataW.trod_string Tryz.underlying9 t6
  obtain ⟨typ, q7, _, w7⟩ := DataW.trod_int Tryz.underlying3 t7
  obtain ⟨due, q8, _, w8⟩ := DataW.trod_int Tryz.underlying3 t8
  obtain ⟨amount, q9, _, w9⟩ := DataW.trod_int Tryz.underlying2 t9
  obtain ⟨memo, q10, z10, _⟩ := DataW.trod_string Tryz.underlying9 t10
  injection q0 with q0 _
  injection q1 with q1 _
  injection q2 with q2 _
  injection q3 with q3 _
  injection q4 with q4 _
  injection q5 with q5 _
  injection q6 with q6 _
  injection q7 with q7 _
  injection q8 with q8 _
  injection q9 with q9 _
  injection q10 with q10 _
  subst q0 q1 q2 q3 q4 q5 q6 q7 q8 q9 q10
  rw [hD] at hk
  have h5 := bulk_agg (ys.map (·.1))
  have part : ∀ (y : DataW H × List MemPlace) (i : Nat), ys[i]? = some y → Rows.uptoBulk y.1 ≤ 1048576 := fun y i e => by
    have h1 : y.1 ∈ ys.map (·.1) := List.mem_map.2 ⟨y, List.mem_of_getElem? e, rfl⟩
    have h2 := bulk_part h1
    omega
  have txt : ∀ (s : ByteArray) (y : DataW H × List MemPlace) (i : Nat), ys[i]? = some y → y.1 = .lit (.string s.data.toList) → s.size ≤ 1048576 := fun s y i e z => by
    have h2 := part y i e
    rw [z, bulk_text] at h2
    have h6 : s.data.toList.length = s.size := rfl
    omega
  obtain ⟨ls, hL, hnil, hln, hsz, hin⟩ := trod_line t11 (part y11 11 e11)
  refine ⟨⟨kind, day, key, account, other, ref, ref2, typ, due, amount, memo, ls⟩, v11, ?_, hL, hnil, ?_, wf_i64 w9, hin⟩
  · intro i u hu
    have hu : [Value.int .i64 kind, .int .i64 day, .string key, .string account, .string other, .string ref, .string ref2, .int .i64 typ, .int .i64 due, .int .i64 amount, .string memo, v11][i]? = some u := hu
    match i, hu with
    | 0, hu => injection hu with hu; subst hu; exact c0
    | 1, hu => injection hu with hu; subst hu; exact c1
    | 2, hu => injection hu with hu; subst hu; exact c2
    | 3, hu => injection hu with hu; subst hu; exact c3
    | 4, hu => injection hu with hu; subst hu; exact c4
    | 5, hu => injection hu with hu; subst hu; exact c5
    | 6, hu => injection hu with hu; subst hu; exact c6
    | 7, hu => injection hu with hu; subst hu; exact c7
    | 8, hu => injection hu with hu; subst hu; exact c8
    | 9, hu => injection hu with hu; subst hu; exact c9
    | 10, hu => injection hu with hu; subst hu; exact c10
    | 11, hu => injection hu with hu; subst hu; exact c11
    | i + 12, hu => simp at hu
  · exact ⟨txt key y2 2 e2 (by rw [z2]), txt account y3 3 e3 (by rw [z3]), txt other y4 4 e4 (by rw [z4]), txt ref y5 5 e5 (by rw [z5]), txt ref2 y6 6 e6 (by rw [z6]), txt memo y10 10 e10 (by rw [z10]), hln, hsz⟩

/-- A slice of events that is handed in. -/
theorem events_open {H : Type} {enc : TypeId × Value → H} {W : World} {base : Nat} {v : Value} {d : DataW H} {p : List MemPlace}
    (h : DataW.Trod enc Tryz.prog W base (fun _ => true) true 22 v d p) (hone : v.cells.toList = [v]) (hk : Rows.uptoBulk d ≤ 1048576) : ∃ l, EventsAt W v l := by
  obtain ⟨fuel, hf⟩ := h
  rw [hone] at hf
  rcases open_slice_fields Tryz.underlying22 Tryz.underlying25 (by kernel_rfl) (by kernel_rfl) hf with ⟨hc, hx⟩ | ⟨a, len, cap, m, D, Pl, hc, hb, hl, hm, hmm, hx, hi⟩
  · injection hc with hc _
    subst hc
    exact ⟨[], ⟨none, 0, rfl, fun j hj => by simp at hj⟩, by simp, by simp⟩
  · injection hc with hc _
    subst hc
    injection hx with hx _
    subst hx
    have hmc : len ≤ m := by rw [hmm]; split <;> omega
    have hb1 := bulk_elems ((List.range len).map D) ((List.range (m - len)).map fun j => D (len + j))
    have hln := bulk_length ((List.range len).map D)
    rw [List.length_map, List.length_range] at hln
    obtain ⟨ls, hal, hR⟩ := list_choice (n := len) (R := fun j (x : EventV) => ∃ lv : Value, a.block < W.heap.size ∧ (∀ i u, (evCs x lv).toList[i]? = some u → W.cell? ((a.add (j * 12)).add i) = some u) ∧ LinesAt W (fun k => k < W.heap.size) lv x.lines ∧ NilOk lv ∧ SmallEv x ∧ InEv x) (fun j hj => by
      obtain ⟨ys, n, hD, hPl, hyl, hfd⟩ := hi j (by omega)
      have h3 : D j ∈ (List.range len).map D := List.mem_map.2 ⟨j, by simpa using hj, rfl⟩
      have h4 := bulk_part h3
      obtain ⟨x, lv, h1, h2⟩ := trod_event (C := fun i v => W.cell? ((a.add (j * 12)).add i) = some v) Tryz.underlying25 hD (fun i f hif => by
        obtain ⟨v, y, c, e, t⟩ := hfd i f hif
        exact ⟨v, y, by rw [Go.Deep.add_add]; exact c, e, t⟩) (by omega)
      exact ⟨x, lv, by have := World.block_lt_of_cell? W _ (h1 0 _ rfl); rwa [block_add, block_add] at this, h1, h2⟩)
    refine ⟨ls, ⟨some a, cap, by rw [hal], fun j hj => ?_⟩, by omega, fun e he => ?_⟩
    · obtain ⟨lv, h1, h2, h3, h4, _⟩ := hR j hj
      exact ⟨a, lv, rfl, h1, h2, h3, h4⟩
    · obtain ⟨j, hj, rfl⟩ := List.getElem_of_mem he
      obtain ⟨lv, _, _, _, _, h5⟩ := hR j hj
      exact h5

theorem list_ext12 {l m : List Value} (hl : l.length = m.length) (h : ∀ (i : Nat) (u : Value), m[i]? = some u → l[i]? = some u) : l = m := by
  apply List.ext_getElem hl
  intro i h1 h2
  have := h i m[i] (List.getElem?_eq_getElem h2)
  rw [List.getElem?_eq_getElem h1] at this
  exact Option.some.inj this

set_option maxRecDepth 100000 in
/-- An event that is handed in. -/
theorem event_open {H : Type} {enc : TypeId × Value → H} {W : World} {base : Nat} {v : Value} {d : DataW H} {p : List MemPlace}
    (hv : Value.okWide Tryz.prog W .any base 25 v) {b0 : Nat} (h : DataW.Trod enc Tryz.prog W b0 (fun _ => true) true 25 v d p) (hk : Rows.uptoBulk d ≤ 1048576) : ∃ x lv, v = evV x lv ∧ EventAt1 W lv x := by
  obtain ⟨cs, rfl, hcs⟩ := okWide_struct Tryz.underlying25 hv
  obtain ⟨fuel, hf⟩ := h
  have he := Tryz.underlying25
  obtain ⟨ys, n', hn', hy, hlen, hyl, hfd⟩ := DataW.trod_struct he hf
  have hone : oneCellFields Tryz.prog _ = true := (by kernel_rfl : oneCellFields Tryz.prog (match Tryz.prog.underlying 25 with | some (.struct fs) => fs | _ => #[]) = true)
  rw [he] at hone
  have hsz : cs.size = 12 := by rw [hcs]; kernel_rfl
  have hl12 : (Value.agg cs).cells.toList.length = 12 := by show cs.toList.length = 12; simpa using hsz
  injection hy with hy1 hy2
  obtain ⟨x, lv, h1, h2, h3, h4, h5⟩ := trod_event (W := W) (C := fun i u => cs.toList[i]? = some u) he hy1 (fun j f hj => by
    obtain ⟨ho, hk1⟩ := hone_of hone j f hj
    have hjl := (Array.getElem?_eq_some_iff.1 hj).1
    have hj12 : j < cs.toList.length := by
      have : cs.toList.length = 12 := hl12
      rw [this]
      exact Nat.lt_of_lt_of_le hjl (by decide)
    have h1 := hfd j f hj
    rw [ho, hk1] at h1
    have hone' : ((Value.agg cs).cells.toList.drop j).take 1 = [cs.toList[j]'hj12] := by
      show (cs.toList.drop j).take 1 = _
      rw [List.drop_eq_getElem_cons hj12]
      rfl
    rw [hone'] at h1
    have hys : ys[j]? = some (ys[j]'(by rw [hyl]; exact hjl)) := List.getElem?_eq_getElem _
    exact ⟨_, _, List.getElem?_eq_getElem hj12, hys, h1.trans hys⟩) hk
  refine ⟨x, lv, ?_, ⟨h2, h3, h4, h5⟩⟩
  unfold evV
  congr 1
  have : cs.toList = (evCs x lv).toList := list_ext12 (by rw [show cs.toList.length = 12 from hl12]; rfl) h1
  exact Array.toList_inj.1 this
end Go.Proofs.YtgocoofcelggcaaGreatDoor
namespace Go.Proofs.YtgocoofcelggcaaGreatDoor
set_option linter.unusedVariables false
set_option linter.unusedSimpArgs false

section
variable {S : BookS} {e : EventV}
theorem mayAll_each {L : List Acct} {d : Int} : ∀ {l : List LineV}, mayAllE L d l = 0 → ∀ x ∈ l, mayE L x.account d = 0
  | [], _, x, hx => by simp at hx
  | y :: l, h, x, hx => by
    unfold mayAllE at h
    by_cases h0 : mayE L y.account d = 0
    · rw [if_pos h0] at h
      rcases List.mem_cons.1 hx with rfl | hx
      · exact h0
      · exact mayAll_each h x hx
    · rw [if_neg h0] at h
      exact absurd h h0
theorem lines_each (S : BookS) (e : EventV) (s : Int) : ∀ (l : List LineV) (i : Nat), ∀ r ∈ linesFrom S e s i l, ∃ x ∈ l, r.account = x.account
  | [], _, r, hr => by simp [linesFrom] at hr
  | x :: l, i, r, hr => by
    unfold linesFrom at hr
    rcases List.mem_cons.1 hr with rfl | hr
    · exact ⟨x, by simp, rfl⟩
    · obtain ⟨y, hy, h⟩ := lines_each S e s l (i + 1) r hr
      exact ⟨y, List.mem_cons_of_mem _ hy, h⟩
theorem rows_may (hc : checkE S e = 0) : ∀ r ∈ rowsOf S e, mayE S.chart r.account e.day = 0 := by
  have hr := (taken_of hc).refuse
  intro r hm
  unfold rowsOf at hm
  unfold refuseE at hr
  by_cases k3 : e.kind = 3
  · rw [if_pos k3] at hm
    rw [if_neg (by omega), if_neg (by omega), if_pos k3] at hr
    unfold mayPostE at hr
    split at hr
    · rename_i h0
      obtain ⟨x, hx, ha⟩ := lines_each S e 1 e.lines 0 r hm
      rw [ha]
      exact mayAll_each h0 x hx
    · rename_i h0; exact absurd hr h0
  rw [if_neg k3] at hm
  by_cases k4 : e.kind = 4
  · rw [if_pos k4] at hm
    rw [if_neg (by omega), if_neg (by omega), if_neg k3, if_pos k4] at hr
    unfold mayVoidE at hr
    cases hx : entryOf S e.ref with
    | none => rw [hx] at hm; simp at hm
    | some y =>
      rw [hx] at hm hr
      simp only at hm hr
      split at hr
      · omega
      · split at hr
        · omega
        · obtain ⟨x, hx, ha⟩ := lines_each S e (-1) y.lines 0 r hm
          rw [ha]
          exact mayAll_each hr x hx
  rw [if_neg k4] at hm
  have two : ∀ o, mayTradeE S e o = 0 → mayE S.chart e.account e.day = 0 ∧ mayE S.chart e.other e.day = 0 := fun o h => by
    unfold mayTradeE at h
    split at h
    · rename_i h1
      split at h
      · rename_i h2; exact ⟨h1, h2⟩
      · rename_i h2; exact absurd h h2
    · rename_i h1; exact absurd h h1
  by_cases k5 : e.kind = 5
  · rw [if_pos k5] at hm
    rw [if_neg (by omega), if_neg (by omega), if_neg k3, if_neg k4, if_pos k5] at hr
    obtain ⟨h1, h2⟩ := two _ hr
    rcases List.mem_cons.1 hm with rfl | hm
    · exact h1
    · rw [List.mem_singleton] at hm; subst hm; exact h2
  rw [if_neg k5] at hm
  by_cases k6 : e.kind = 6
  · rw [if_pos k6] at hm
    rw [if_neg (by omega), if_neg (by omega), if_neg k3, if_neg k4, if_neg k5, if_pos k6] at hr
    obtain ⟨h1, h2⟩ := two _ hr
    rcases List.mem_cons.1 hm with rfl | hm
    · exact h2
    · rw [List.mem_singleton] at hm; subst hm; exact h1
  rw [if_neg k6] at hm
  simp at hm

/-- What an event leaves of an account b: it is a then. -/
structure StayA (S : BookS) (e : EventV) (b a : Acct) : Prop where
  find : findA (applyS S e).chart b.name = some a
  name : a.name = b.name
  typ : a.typ = b.typ
  opened : a.opened = b.opened
  stay : b.closed = true → a.closed = true
  rows : b.closed = true → ∀ r ∈ applyR S e, r.account ≠ b.name
  shut : a.closed = true → b.closed = false → checkE S e = 0 ∧ e.kind = 2 ∧ e.account = b.name ∧ ownF (applyS S e).rows b.name = 0
theorem stay_any (ho : OkS S) (e : EventV) {b : Acct} (hb : b ∈ S.chart) : ∃ a, StayA S e b a := by
  have hf := find_mem ho.chart.rising hb
  by_cases hc : checkE S e = 0
  · have ht := taken_of hc
    have hr := ht.refuse
    have hrows : b.closed = true → ∀ r ∈ applyR S e, r.account ≠ b.name := fun hcl r hm hn => by
      unfold applyR at hm
      rw [if_pos hc] at hm
      obtain ⟨p, _, hp, _, hpc, _⟩ := may_ok (rows_may hc r hm)
      rw [hn, hf] at hp
      cases hp
      rw [hcl] at hpc
      cases hpc
    by_cases k1 : e.kind = 1
    · have hch : (applyS S e).chart = openL S.chart e.account e.typ e.day := by rw [applyS_yes hc]; unfold keepS; rw [if_pos k1]; rfl
      unfold refuseE at hr
      rw [if_pos k1] at hr
      unfold mayOpenE at hr
      have hnone : findA S.chart e.account = none := by
        cases h : findA S.chart e.account with
        | none => rfl
        | some z => rw [h] at hr; simp at hr
      have hne : e.account ≠ b.name := fun h => find_none hnone b hb h.symm
      refine ⟨b, ?_, rfl, rfl, rfl, id, hrows, fun h1 h2 => by rw [h1] at h2; cases h2⟩
      rw [hch]
      unfold openL
      split
      · rw [find_insA (find_none hnone), if_neg (show ¬ (openA S.chart e.account e.typ e.day).name = b.name from hne)]
        exact hf
      · exact hf
    by_cases k2 : e.kind = 2
    · have hch : (applyS S e).chart = closeL S.chart e.account := by rw [applyS_yes hc]; unfold keepS; rw [if_neg k1, if_pos k2]; rfl
      have hrw : (applyS S e).rows = S.rows := by
        rw [applyS_yes hc, keepS_rows]
        show S.rows ++ rowsOf S e = S.rows
        unfold rowsOf
        rw [if_neg (by omega), if_neg (by omega), if_neg (by omega), if_neg (by omega), List.append_nil]
      unfold refuseE at hr
      rw [if_neg k1, if_pos k2] at hr
      unfold mayCloseE at hr
      have hown : ownF S.rows e.account = 0 := by
        cases h : findA S.chart e.account with
        | none => rw [h] at hr; simp at hr
        | some z =>
          rw [h] at hr
          simp only at hr
          split at hr
          · omega
          · split at hr
            · omega
            · rename_i hu
              unfold inUseB at hu
              simp only [Bool.or_eq_true, not_or, decide_eq_true_eq, ne_eq, Decidable.not_not] at hu
              exact hu.1.2
      unfold closeL at hch
      by_cases hz : closeE S.chart e.account = 0
      · rw [if_pos hz] at hch
        by_cases hn : b.name = e.account
        · refine ⟨{ b with closed := true }, ?_, rfl, rfl, rfl, fun _ => rfl, hrows, fun _ _ => ⟨hc, k2, hn.symm, by rw [hrw, hn]; exact hown⟩⟩
          rw [hch, find_shut, hf]
          simp [hn]
        · refine ⟨b, ?_, rfl, rfl, rfl, id, hrows, fun h1 h2 => by rw [h1] at h2; cases h2⟩
          rw [hch, find_shut, hf]
          simp [hn]
      · rw [if_neg hz] at hch
        exact ⟨b, by rw [hch]; exact hf, rfl, rfl, rfl, id, hrows, fun h1 h2 => by rw [h1] at h2; cases h2⟩
    · have hch : (applyS S e).chart = S.chart := by
        rw [applyS_yes hc]
        unfold keepS
        rw [if_neg k1, if_neg k2]
        (repeat' split) <;> rfl
      exact ⟨b, by rw [hch]; exact hf, rfl, rfl, rfl, id, hrows, fun h1 h2 => by rw [h1] at h2; cases h2⟩
  · have hS : applyS S e = S := by unfold applyS; rw [if_neg hc]
    exact ⟨b, by rw [hS]; exact hf, rfl, rfl, rfl, id, fun _ r hm => by unfold applyR at hm; rw [if_neg hc] at hm; simp at hm, fun h1 h2 => by rw [h1] at h2; cases h2⟩
end
end Go.Proofs.YtgocoofcelggcaaGreatDoor
