/- ChartOrder: the walk. -/
import Derived.Test.YthbiepgpflpfoaaDoorOrdMem
import Derived.Test.YthbiepgpflpfoaaDoorPath
import Derived.Deep.RegionHeld3
import Derived.IntWalk
namespace Go.Proofs.YthbiepgpflpfoaaDoor
open Go.RowKit Go.Shelf
set_option linter.unusedVariables false
set_option linter.unusedSimpArgs false

theorem wpList_append_run' {P : Program} {w : World} {ops : Array Oper} {rest : List Oper} {o : Oper} {a : Act} {Q : Exit → Act → World → Prop} (hgd : o.guard = none) (s x : Operand) (t : TypeId)
    (ho : o.op = .call { callee := .builtin .append, args := #[s, x], argTypes := #[t, t] }) (v y : Value) (hs : a.eval s = v) (hx : a.eval x = y) {v' : Value} {w' : World}
    (hr : (Builtin.append_ #[t, t] o.type #[v, y]).run P w = .ok v' w') (h : wpList P ops Q rest (a.put o.dst v') w') : wpList P ops Q (o :: rest) a w :=
  wpList_plain hgd fun K hK => by
    unfold Oper.wp execOp
    simp only [ho, resolve, invoke, builtin, Sem.run_bind, Sem.run_pure, Result.andThen_ok, List.map_toArray, List.map_cons, List.map_nil, hs, hx, hr]
    exact hK _ _ h

theorem wp_append_run {P : Program} {w : World} {o : Oper} {a : Act} {K : Act → World → Prop} {Q : Exit → Act → World → Prop} (s x : Operand) (t : TypeId)
    (ho : o.op = .call { callee := .builtin .append, args := #[s, x], argTypes := #[t, t] }) (v y : Value) (hs : a.eval s = v) (hx : a.eval x = y) {v' : Value} {w' : World}
    (hr : (Builtin.append_ #[t, t] o.type #[v, y]).run P w = .ok v' w') (h : K (a.put o.dst v') w') : o.wp P a w K Q := by
  unfold Oper.wp execOp
  simp only [ho, resolve, invoke, builtin, Sem.run_bind, Sem.run_pure, Result.andThen_ok, List.map_toArray, List.map_cons, List.map_nil, hs, hx, hr]
  exact h

/-- A row of whole numbers that is handed in. -/
structure IntsAt (w : World) (v : Value) (n : Nat) : Prop where
  len : n ≤ 1048576
  ex : ∃ (A : Option Addr) (c : Nat), v = .slice A n c ∧ ∀ j, j < n → ∃ (ad : Addr) (x : Int), A = some ad ∧ ad.block < w.heap.size ∧ w.cell? (ad.add j) = some (.int .i64 x)

structure OrdInv (w : World) (lo hi bs : Nat) (cb db : Nat) (L : List Acct) (v3 v i : Value) (wr : World) (M l : List Acct) (n : Nat) : Prop where
  ord : OrdAt w lo hi bs wr cb db L M l v3 v
  at_ : i = .int .i64 (n : Int)
  sum : n + l.length = L.length

structure CloseInv (w : World) (lo hi : Nat) (cb db : Nat) (L : List Acct) (v3 i : Value) (wr : World) (m : Nat) : Prop where
  le : m ≤ L.length
  at_ : i = .int .i64 ((m : Int) - 1)
  twin : Twin w wr (fun x => lo ≤ x ∧ x < hi) cb db L (closedFrom L m)
  valid : Valid (closedFrom L m)
  all : KReads (fun x => lo ≤ x ∧ x < hi) wr v3 L

structure InnerInv (w : World) (lo hi bs : Nat) (cb db : Nat) (L M l : List Acct) (v3 v13 : Value) (at0 : Int) (v i : Value) (wr : World) (kk : Nat) : Prop where
  le : kk ≤ l.length
  val : v = v13
  at_ : i = .int .i64 (kk : Int)
  ord : OrdAt w lo hi bs wr cb db L M l v3 v13
  blk : ∀ j, j < kk → ∀ (i : Nat) (hi : i < l.length), (at0 + j).tmod l.length = i → ¬ Next M l[i]

set_option maxHeartbeats 4000000 in
set_option maxRecDepth 100000 in
theorem order_walk (w : World) (va vp : Value) (acts : List ActV) (np : Nat) (hA : ActsAt w va acts) (hP : IntsAt w vp np) (who1 who2 : Int) (a1 a2 : ActV) (ask1 ask2 : ByteArray) (hs1 : a1.name.size ≤ 140737488355328) (hs2 : a2.name.size ≤ 140737488355328) :
    Calls Tryd.prog 3 #[va, vp, actV who1 a1 ask1, actV who2 a2 ask2] w fun e w' => e = .returned (.bool true) ∧ Below w.heap.size w w' := by
  have hv0 : Valid (playL [] acts) := play_valid acts valid_nil
  obtain ⟨L, hL⟩ : ∃ L, L = playL [] acts := ⟨_, rfl⟩
  rw [← hL] at hv0
  have HL := Lib.hid hL
  have HV := Lib.hid hv0
  clear hL hv0
  have HA := Lib.hid hA
  have HP := Lib.hid hP
  clear hP hA
  unfold actV
  have hle := HV.out.le
  go_enter Tryd.func3, Tryd.ntmps3
  go_wp2_with (first
    | (go_at_call 6
       obtain ⟨wA, hwA⟩ : ∃ wA, (w.alloc (.cells #[.int .i64 who1, .int .i64 a1.kind, .int .i64 a1.typ, .int .i64 a1.day, .string a1.name, .string ask1] 25)).alloc (.cells #[.int .i64 who2, .int .i64 a2.kind, .int .i64 a2.typ, .int .i64 a2.day, .string a2.name, .string ask2] 25) = wA := ⟨_, rfl⟩
       have hbA : Below w.heap.size w wA := by rw [← hwA]; exact ((Below.refl _ _).alloc (Nat.le_refl _) _).alloc (by simp) _
       have hzA : wA.heap.size = w.heap.size + 2 := by rw [← hwA]; simp
       have hx1 : wA.heap[w.heap.size]? = some (.cells #[.int .i64 who1, .int .i64 a1.kind, .int .i64 a1.typ, .int .i64 a1.day, .string a1.name, .string ask1] 25 (0, 0)) := by
         rw [← hwA]
         exact (Below.heap_alloc _ _ _ (by simp)).trans (World.alloc_heap_new w _)
       have hx2 : wA.heap[w.heap.size + 1]? = some (.cells #[.int .i64 who2, .int .i64 a2.kind, .int .i64 a2.typ, .int .i64 a2.day, .string a2.name, .string ask2] 25 (0, 0)) := by
         rw [← hwA]
         have := World.alloc_heap_new (w.alloc (.cells #[.int .i64 who1, .int .i64 a1.kind, .int .i64 a1.typ, .int .i64 a1.day, .string a1.name, .string ask1] 25)) (.cells #[.int .i64 who2, .int .i64 a2.kind, .int .i64 a2.typ, .int .i64 a2.day, .string a2.name, .string ask2] 25)
         rwa [World.size_alloc] at this
       have HX := Lib.hid (And.intro hbA (And.intro hzA (And.intro hx1 hx2)))
       rw [hwA]
       clear hwA hbA hzA hx1 hx2
       refine (first_any _).mono ?_; rintro e w1 ⟨rfl, hb1⟩; have HB1 := Lib.hid hb1; have hpl := played_any w1 va acts (HA.out.below (HX.out.1.trans (hb1.mono HX.out.1.size))); rw [← HL.out] at hpl; clear hb1)
    | (go_at_call 7; refine hpl.mono ?_; rintro e w2 ⟨cb, Fc, he, hc2, hF2, hb2⟩; unfold ptrV at he; subst he; clear hpl; have hac := Accounts_any hc2 HV.out; have H2 := Lib.hid (And.intro hc2 (And.intro hF2 hb2)); clear hc2 hF2 hb2)
    | (go_at_call 8; refine hac.mono ?_; rintro e w3 ⟨v3, rfl, hr3, hb3⟩; clear hac; have H3 := Lib.hid (And.intro hr3 hb3); clear hr3 hb3)
    | (go_at_call 9; refine (New_any _).mono ?_; rintro e w4 ⟨he, hc4, hz4, hb4⟩; obtain ⟨db, hdb⟩ : ∃ db, db = w3.heap.size + 1 := ⟨_, rfl⟩; rw [← hdb] at he hc4; unfold ptrV at he; subst he; have HDB := Lib.hid hdb; clear hdb; obtain ⟨v5, w5, hrun, hrow5, hb5, hob5⟩ := copy_all (base := w4.heap.size) (Nat.le_refl _) (H3.out.1.below hb4) hle; have H4 := Lib.hid (And.intro hc4 (And.intro hz4 hb4)); have HRUN := Lib.hid hrun; have H5 := Lib.hid (And.intro hrow5 (And.intro hb5 hob5)); clear hc4 hz4 hb4 hrun hrow5 hb5 hob5)
    | (at_builtin; refine wpList_append_run' rfl _ _ 29 rfl _ _ rfl rfl HRUN.out ?_))
  have hO : OrdAt wA w2.heap.size w3.heap.size w4.heap.size w5 cb db L [] L v3 v5 := by
    obtain ⟨hc2, hF2, hb2⟩ := H2.out
    obtain ⟨hr3, hb3⟩ := H3.out
    obtain ⟨hc4, hz4, hb4⟩ := H4.out
    obtain ⟨hrow5, hb5, hob5⟩ := H5.out
    have hB1 := HB1.out
    have z1 := hB1.size
    have z2 := hb2.size
    have z3 := hb3.size
    have z4 := hb4.size
    have z5 := hb5.size
    have b35 : Below w3.heap.size w3 w5 := hb4.trans (hb5.mono z4)
    have b25 : Below w2.heap.size w2 w5 := hb3.trans (b35.mono z3)
    refine ⟨⟨⟨_, _, (hc2.cut).below b25, hc4.below hb5, ?_, ?_⟩, ?_, (hB1.trans (hb2.mono z1)).trans (b25.mono (by omega))⟩, ?_, hrow5, Reop.start L⟩
    · rintro x ⟨hx, hl⟩
      have := hF2 x hx
      refine ⟨fun hd => by omega, fun hk => ?_, by omega, by omega⟩
      rcases hk with hk | hk
      · omega
      · have := hob5 x hk; omega
    · rintro x ⟨h1, h2⟩
      refine ⟨fun hk => ?_, by omega, by omega⟩
      rcases hk with hk | hk
      · omega
      · have := hob5 x hk; omega
    · intro x hx
      rcases hx with hx | hx
      · omega
      · exact (hrow5.lt x hx).2
    · exact (hr3.kreads _ (fun x h1 h2 => ⟨h1, h2⟩)).below b35
  have hz23 := H3.out.2.size
  have hz34 := H4.out.2.2.size
  have hz02 : wA.heap.size ≤ w3.heap.size := by
    have := HB1.out.size
    have := H2.out.2.2.size
    omega
  obtain ⟨A3, c3, rfl, hcl3⟩ := H3.out.1.reads.ex
  clear hcl3 HRUN H5
  have HO := Lib.hid hO
  clear hO
  go_loopw [13, 14] (fun v i wr => ∃ M l n, OrdInv wA w2.heap.size w3.heap.size w4.heap.size cb db L (.slice A3 L.length c3) v i wr M l n) (fun _ i _ => L.length - (intOf i).toNat)
  case atStart => exact ⟨[], L, 0, HO.out, rfl, by omega⟩
  case round =>
    clear HO
    obtain ⟨M, l, n, ⟨hord, rfl, hsum⟩⟩ := hrel
    by_cases hl0 : 0 < l.length
    · obtain ⟨g, cap, rfl⟩ : ∃ g cap, u13 = .slice (some ⟨g, 0, none⟩) l.length cap := by
        rcases hord.row.2 with ⟨_, h⟩ | ⟨g, cap, cur, e, _⟩
        · omega
        · exact ⟨g, cap, e⟩
      have HORD := Lib.hid hord
      clear hord
      go_wp2
      rename_i Kc Khc Kp Kh Ko Kho
      have HK : ∀ (at0 : Int) (u46 u47 u48 u49 u50 u51 u52 u53 u54 u55 u56 u57 u58 u59 u60 u61 : Value), 0 ≤ at0 → at0 < l.length → Kc { tmps := #[va, vp, Value.agg #[Value.int .i64 who1, Value.int .i64 a1.kind, Value.int .i64 a1.typ, Value.int .i64 a1.day, Value.string a1.name, Value.string ask1], Value.agg #[Value.int .i64 who2, Value.int .i64 a2.kind, Value.int .i64 a2.typ, Value.int .i64 a2.day, Value.string a2.name, Value.string ask2], undef, undef, Value.pointer (some ⟨w.heap.size, 0, none⟩), Value.pointer (some ⟨w.heap.size + 1, 0, none⟩), u8, Value.bool true, Value.pointer (some ⟨cb, 0, none⟩), Value.slice A3 L.length c3, Value.pointer (some ⟨db, 0, none⟩), Value.slice (some ⟨g, 0, none⟩) l.length cap, Value.int .i64 ↑n, Value.int .i64 at0, u16, u17, u18, u19, u20, u21, u22, undef, undef, undef, undef, undef, undef, undef, Value.bool true, va, Value.pointer (some ⟨cb, 0, none⟩), Value.pointer (some ⟨cb, 0, none⟩), Value.slice A3 L.length c3, Value.pointer (some ⟨db, 0, none⟩), Value.slice (some ⟨w4.heap.size, 0, none⟩) 0 0, Value.slice A3 L.length c3, v5, Value.slice (some ⟨g, 0, none⟩) l.length cap, Value.int .i64 ↑l.length, Value.bool true, u42, u43, Value.int .i64 ↑n, vp, u46, u47, u48, u49, u50, u51, u52, u53, u54, u55, u56, u57, u58, u59, u60, u61, u62, u63, u64, u65, u66, u67, u68, u69, u70, u71, u72, u73, u74, u75, u76, u77, u78, u79, u80, u81, u82, u83, u84, u85, u86, u87, u88, u89, u90, u91, u92, u93, u94, u95, u96, u97, u98, u99, u100, u101, u102, u103, u104, u105, u106, u107, u108, u109, u110, u111, u112, u113, u114, u115, u116, u117, u118, u119, u120, u121, u122, u123, u124, u125, undef, undef, undef, undef, undef, undef, undef, undef, undef, undef, undef, undef, undef, undef, undef, undef, undef, undef, undef, undef, undef, undef, undef, undef, undef, undef, undef, undef, undef, undef, undef, undef, undef, undef, undef, undef, undef, undef, undef, undef, undef, undef, undef, undef, undef, undef, undef, undef, undef, undef, undef, undef, undef, undef, undef, undef, undef, undef, undef, undef, undef, undef, undef, undef, undef, undef, undef, undef, undef, undef, undef, undef, undef, undef, undef, undef, undef], defers := [] } wr := by
        intro at0 u46 u47 u48 u49 u50 u51 u52 u53 u54 u55 u56 u57 u58 u59 u60 u61 hat0 hat1
        refine Khc _ _ ?_
        clear Kh Kho Kp Ko
        go_wp2
        go_loopw [13, 16] (fun v i wr => ∃ kk, InnerInv wA w2.heap.size w3.heap.size w4.heap.size cb db L M l (.slice A3 L.length c3) (.slice (some ⟨g, 0, none⟩) l.length cap) at0 v i wr kk) (fun _ i _ => l.length - (intOf i).toNat)
        case atStart => exact ⟨0, Nat.zero_le _, rfl, rfl, HORD.out, fun j h => by omega⟩
        case round =>
          obtain ⟨kk, ⟨hkk, rfl, rfl, hord, hblk⟩⟩ := hrel
          by_cases hlk : kk < l.length
          · have hl9 : (0 : Int) < l.length := by omega
            have hlen100 : l.length ≤ 100 := by omega
            obtain ⟨ii, hii⟩ : ∃ ii : Nat, (at0 + (kk : Int)).tmod l.length = ii := ⟨((at0 + (kk : Int)).tmod l.length).toNat, by rw [Int.toNat_of_nonneg]; exact Int.tmod_nonneg _ (by omega)⟩
            have hil : ii < l.length := by
              have := Int.tmod_lt_of_pos (at0 + (kk : Int)) hl9
              omega
            have r1 : IntKind.i64.wrap (at0 + (kk : Int)) = at0 + (kk : Int) := IntWalk.i64_in _ (by omega)
            have r2 : ((l.length : Int) == 0) = false := by rw [beq_eq_false_iff_ne]; omega
            have hcell : ∀ c u, c < 4 → (encA l[ii])[c]? = some u → wr.cell? ⟨g, ii * 4 + c, none⟩ = some u := fun c u hc hu => by
              have := hord.row.cells (g := g) rfl (ii * 4 + c) u (by rw [cellsA_get l ii hil c hc]; exact hu)
              rw [Addr.add_lit] at this
              simpa using this
            have ham : l[ii] ∈ l := List.getElem_mem hil
            obtain ⟨b0, hb0, e1, _⟩ := hord.reop.left_of ham
            have hsz := HV.out.size hb0
            rw [e1] at hsz
            obtain ⟨a, ha⟩ : ∃ a, a = l[ii] := ⟨_, rfl⟩
            rw [← ha] at hcell ham hsz
            clear e1 hb0
            have q0 := hcell 0 _ (by omega) rfl
            have q1 := hcell 1 _ (by omega) rfl
            have q2 := hcell 2 _ (by omega) rfl
            simp only [Nat.add_zero] at q0
            have hg := hord.row.lt g rfl
            have HORDk := Lib.hid hord
            have HBLK := Lib.hid hblk
            have HAi := Lib.hid ha
            have HII := Lib.hid hii
            clear hord hblk ha hcell
            have hpar := fun W => Parent_any a.name W (by omega)
            have hfind := fun (W : World) (hb : Below wr.heap.size wr W) (u : ByteArray) => twin_find (HORDk.out.twin.below' hb) u
            have HFIND := Lib.hid hfind
            clear hfind
            cases hp : parentF a.name with
            | none =>
              have hN : Next M a := .inl hp
              have hopE : openE M a.name a.typ a.opened = 0 := by
                have := (HORDk.out.reop.opens HV.out hil (HAi.out ▸ hN)).1
                rw [← HAi.out, hp] at this
                exact this
              simp only [hp, Option.getD_none, Option.isSome_none] at hpar
              go_wp2_with (first
                | (go_at_call 10; refine (hpar _).mono ?_; rintro e w6 ⟨rfl, hb6⟩; have hf6 := HFIND.out w6 hb6 ⟨#[]⟩; unfold accV at hf6)
                | (go_at_call 11; refine hf6.mono ?_; rintro e w7 ⟨rfl, hb7⟩; clear hf6; have z1 : ∀ o, (w7.alloc o).cell? ⟨g, ii * 4 + 1, none⟩ = some (.int .i64 a.typ) := fun o => (((hb6.trans (hb7.mono hb6.size)).alloc (by have := hb6.size; have := hb7.size; omega) o).cell (p := ⟨g, ii * 4 + 1, none⟩) hg.2).trans q1))
              obtain ⟨W8, hW8⟩ : ∃ W8, w7.alloc (.cells #[.string ((findA M ⟨#[]⟩).getD noA).name, .int .i64 ((findA M ⟨#[]⟩).getD noA).typ, .int .i64 ((findA M ⟨#[]⟩).getD noA).opened, .bool ((findA M ⟨#[]⟩).getD noA).closed] 35) = W8 := ⟨_, rfl⟩
              have hB8 : Below wr.heap.size wr W8 := by rw [← hW8]; exact (hb6.trans (hb7.mono hb6.size)).alloc (by have := hb6.size; have := hb7.size; omega) _
              rw [hW8]
              clear hW8 z1
              have z0 : W8.cell? ⟨g, ii * 4, none⟩ = some (.string a.name) := (hB8.cell (p := ⟨g, ii * 4, none⟩) hg.2).trans q0
              have z2 : W8.cell? ⟨g, ii * 4 + 2, none⟩ = some (.int .i64 a.opened) := (hB8.cell (p := ⟨g, ii * 4 + 2, none⟩) hg.2).trans q2
              have hord8 := HORDk.out.below (show Below wr.heap.size wr W8.drew from hB8.drew)
              have hop := twin_open hord8.twin hord8.reop.mv a.name a.typ a.opened (by omega)
              rw [hopE] at hop
              clear q0 q1 q2 hpar
              refine wp_region_held_drew (S := fun w' => w'.cell? ⟨g, ii * 4, none⟩ = some (.string a.name) ∧ w'.cell? ⟨g, ii * 4 + 2, none⟩ = some (.int .i64 a.opened)) (by kernel_rfl) ⟨z0, z2⟩ (fun hHeld => ?_)
              refine wpAnyH_take (i := 0) (v := ?_) rfl (by kernel_rfl) (by kernel_rfl) (by kernel_rfl) (fun _ _ _ h => h) (Or.inl ⟨by kernel_rfl, ?y1⟩) (by assumption) ?_
              case y1 =>
                intro w0 hSw
                (try dsimp only at hSw)
                go_simp
                try with_reducible rfl
              try simp only [Act.put, List.setIfInBounds_toArray, List.set_cons_zero, List.set_cons_succ, List.getElem_toArray, List.getElem_cons_succ, List.getElem_cons_zero]
              refine wpAnyH_take (i := 1) (v := ?_) rfl (by kernel_rfl) (by kernel_rfl) (by kernel_rfl) (fun _ _ _ h => h) (Or.inl ⟨by kernel_rfl, ?y2⟩) (by assumption) ?_
              case y2 =>
                intro w0 hSw
                (try dsimp only at hSw)
                go_simp
                try with_reducible rfl
              try simp only [Act.put, List.setIfInBounds_toArray, List.set_cons_zero, List.set_cons_succ, List.getElem_toArray, List.getElem_cons_succ, List.getElem_cons_zero]
              refine wpAnyH_take (i := 2) (v := ?_) rfl (by kernel_rfl) (by kernel_rfl) (by kernel_rfl) (fun _ _ _ h => h) (Or.inl ⟨by kernel_rfl, ?y3⟩) (by assumption) ?_
              case y3 =>
                intro w0 hSw
                (try dsimp only at hSw)
                go_simp
                try with_reducible rfl
              try simp only [Act.put, List.setIfInBounds_toArray, List.set_cons_zero, List.set_cons_succ, List.getElem_toArray, List.getElem_cons_succ, List.getElem_cons_zero]
              refine wpAnyH_take (i := 3) (v := ?_) rfl (by kernel_rfl) (by kernel_rfl) (by kernel_rfl) (fun _ _ _ h => h) (Or.inl ⟨by kernel_rfl, ?y4⟩) (by assumption) ?_
              case y4 =>
                intro w0 hSw
                (try dsimp only at hSw)
                go_simp
                try with_reducible rfl
              try simp only [Act.put, List.setIfInBounds_toArray, List.set_cons_zero, List.set_cons_succ, List.getElem_toArray, List.getElem_cons_succ, List.getElem_cons_zero]
              refine wpAnyH_take (i := 4) (v := ?_) rfl (by kernel_rfl) (by kernel_rfl) (by kernel_rfl) (fun _ _ _ h => h) (Or.inl ⟨by kernel_rfl, ?y5⟩) (by assumption) ?_
              case y5 =>
                intro w0 hSw
                (try dsimp only at hSw)
                go_simp
                try with_reducible rfl
              try simp only [Act.put, List.setIfInBounds_toArray, List.set_cons_zero, List.set_cons_succ, List.getElem_toArray, List.getElem_cons_succ, List.getElem_cons_zero]
              refine wpAnyH_take (i := 5) (v := ?_) rfl (by kernel_rfl) (by kernel_rfl) (by kernel_rfl) (fun _ _ _ h => h) (Or.inl ⟨by kernel_rfl, ?y6⟩) (by assumption) ?_
              case y6 =>
                intro w0 hSw
                (try dsimp only at hSw)
                go_simp
                try with_reducible rfl
              try simp only [Act.put, List.setIfInBounds_toArray, List.set_cons_zero, List.set_cons_succ, List.getElem_toArray, List.getElem_cons_succ, List.getElem_cons_zero]
              refine wpAnyH_take (i := 6) (v := ?_) rfl (by kernel_rfl) (by kernel_rfl) (by kernel_rfl) (fun _ _ _ h => h) (Or.inl ⟨by kernel_rfl, ?y7⟩) (by assumption) ?_
              case y7 =>
                intro w0 hSw
                (try dsimp only at hSw)
                go_simp
                try with_reducible rfl
              try simp only [Act.put, List.setIfInBounds_toArray, List.set_cons_zero, List.set_cons_succ, List.getElem_toArray, List.getElem_cons_succ, List.getElem_cons_zero]
              refine wpAnyH_take (i := 7) (v := ?_) rfl (by kernel_rfl) (by kernel_rfl) (by kernel_rfl) (fun _ _ _ h => h) (Or.inl ⟨by kernel_rfl, ?y8⟩) (by assumption) ?_
              case y8 =>
                intro w0 hSw
                (try dsimp only at hSw)
                go_simp
                try with_reducible rfl
              try simp only [Act.put, List.setIfInBounds_toArray, List.set_cons_zero, List.set_cons_succ, List.getElem_toArray, List.getElem_cons_succ, List.getElem_cons_zero]
              refine wpAnyH_take (i := 8) (v := ?_) rfl (by kernel_rfl) (by kernel_rfl) (by kernel_rfl) (fun _ _ _ h => h) (Or.inl ⟨by kernel_rfl, ?y9⟩) (by assumption) ?_
              case y9 =>
                intro w0 hSw
                (try dsimp only at hSw)
                go_simp
                try with_reducible rfl
              try simp only [Act.put, List.setIfInBounds_toArray, List.set_cons_zero, List.set_cons_succ, List.getElem_toArray, List.getElem_cons_succ, List.getElem_cons_zero]
              refine wpAnyH_take (i := 9) (v := ?_) rfl (by kernel_rfl) (by kernel_rfl) (by kernel_rfl) (fun _ _ _ h => h) (Or.inl ⟨by kernel_rfl, ?y10⟩) (by assumption) ?_
              case y10 =>
                intro w0 hSw
                (try dsimp only at hSw)
                go_simp
                try with_reducible rfl
              try simp only [Act.put, List.setIfInBounds_toArray, List.set_cons_zero, List.set_cons_succ, List.getElem_toArray, List.getElem_cons_succ, List.getElem_cons_zero]
              refine wpAnyH_take (i := 10) (v := ?_) rfl (by kernel_rfl) (by kernel_rfl) (by kernel_rfl) (fun _ _ _ h => h) (Or.inl ⟨by kernel_rfl, ?y11⟩) (by assumption) ?_
              case y11 =>
                intro w0 hSw
                (try dsimp only at hSw)
                go_simp
                try with_reducible rfl
              try simp only [Act.put, List.setIfInBounds_toArray, List.set_cons_zero, List.set_cons_succ, List.getElem_toArray, List.getElem_cons_succ, List.getElem_cons_zero]
              refine wpAnyH_take (i := 11) (v := ?_) rfl (by kernel_rfl) (by kernel_rfl) (by kernel_rfl) (fun _ _ _ h => h) (Or.inl ⟨by kernel_rfl, ?y12⟩) (by assumption) ?_
              case y12 =>
                intro w0 hSw
                (try dsimp only at hSw)
                go_simp
                try with_reducible rfl
              try simp only [Act.put, List.setIfInBounds_toArray, List.set_cons_zero, List.set_cons_succ, List.getElem_toArray, List.getElem_cons_succ, List.getElem_cons_zero]
              refine wpAnyH_ready (rs := [12]) (by kernel_rfl) (by simp) (AllReadyH.cons rfl (fun K hK => ?_) AllReadyH.nil)
              go_simp
              go_at_call 12; refine hop.mono ?_; rintro e w9 ⟨rfl, hT9, hK9⟩; have g0 : w9.cell? ⟨g, ii * 4, none⟩ = some (.string a.name) := (kept_cell hK9 (.inr rfl) (by have := hB8.size; show g < W8.heap.size; omega)).trans z0; have g2 : w9.cell? ⟨g, ii * 4 + 2, none⟩ = some (.int .i64 a.opened) := (kept_cell hK9 (.inr rfl) (by have := hB8.size; show g < W8.heap.size; omega)).trans z2
              go_wp2_with fail
              refine hK.out _ _ ⟨g0, g2⟩ (fun hHeld => ?_)
              clear hK K
              try simp only [Act.put, List.setIfInBounds_toArray, List.set_cons_zero, List.set_cons_succ, List.getElem_toArray, List.getElem_cons_succ, List.getElem_cons_zero]
              refine wpAnyH_take (i := 13) (v := ?_) rfl (by kernel_rfl) (by kernel_rfl) (by kernel_rfl) (fun _ _ _ h => h) (Or.inl ⟨by kernel_rfl, ?y13⟩) (by assumption) ?_
              case y13 =>
                intro w0 hSw
                (try dsimp only at hSw)
                go_simp
                try with_reducible rfl
              try simp only [Act.put, List.setIfInBounds_toArray, List.set_cons_zero, List.set_cons_succ, List.getElem_toArray, List.getElem_cons_succ, List.getElem_cons_zero]
              refine wpAnyH_done (by kernel_rfl) ?_ _
              have H9 := Lib.hid (And.intro hT9 hK9)
              clear hT9 hK9 g0 g2 z0 z2 hop
              go_wp2
              have hrow9 := H9.out.2.row hord8.row (fun k e => .inr e)
              have hall9 : KReads (fun x => w2.heap.size ≤ x ∧ x < w3.heap.size) w9 (.slice A3 L.length c3) L := hord8.all.keep H9.out.2.size fun x hx hl => H9.out.2.same x (.inl hx) hl
              obtain ⟨v10, w10, hrun, t1, t2, t3⟩ := OrdAt.shrink (w := wA) (lo := w2.heap.size) (hi := w3.heap.size) (bs := w4.heap.size) (wr := w9.drew) hle (H9.out.1.below' (Below.refl _ _).drew) (hall9.below (Below.refl _ _).drew) (ownsRow_keep hrow9 fun _ _ => rfl) rfl hlen100 ii hil (by have := hrow9.lt g rfl; show w4.heap.size ≤ w9.heap.size; omega) hz02 (by omega)
              have HRUN := Lib.hid hrun
              have HT10 := Lib.hid (And.intro t1 (And.intro t2 t3))
              clear hrun t1 t2 t3 hrow9 hall9
              have hcap : l.length ≤ cap := by
                rcases HORDk.out.row.2 with ⟨e, _⟩ | ⟨g2, cap2, cur, e, _, _, hnc, _⟩
                · cases e
                · injection e with _ _ e3; rw [e3]; exact hnc
              have m1 : (0 : Int) ≤ (ii : Int) := by omega
              have m2 : (ii : Int) ≤ (cap : Int) := by omega
              have m3 : (ii : Int) ≤ (l.length : Int) := by omega
              have m4 : (0 : Int) ≤ (ii : Int) + 1 := by omega
              have m5 : (ii : Int) + 1 ≤ (l.length : Int) := by omega
              have m6 : (l.length : Int) ≤ (cap : Int) := by omega
              have m7 : ((ii : Int) + 1).toNat = ii + 1 := by omega
              have m8 : IntKind.i64.wrap ((ii : Int) + 1) = (ii : Int) + 1 := IntWalk.i64_in _ (by omega)
              have m9 : ii + 1 ≤ l.length := by omega
              have m10 : ii ≤ cap := by omega
              refine wp_region_held_drew (S := fun _ => True) (by kernel_rfl) trivial (fun hHeld => ?_)
              refine wpAnyH_take (i := 0) (v := ?_) rfl (by kernel_rfl) (by kernel_rfl) (by kernel_rfl) (fun _ _ _ h => h) (Or.inl ⟨by kernel_rfl, ?y14⟩) (by assumption) ?_
              case y14 =>
                intro w0 hSw
                (try dsimp only at hSw)
                go_simp
                try with_reducible rfl
              try simp only [Act.put, List.setIfInBounds_toArray, List.set_cons_zero, List.set_cons_succ, List.getElem_toArray, List.getElem_cons_succ, List.getElem_cons_zero]
              refine wpAnyH_take (i := 1) (v := ?_) rfl (by kernel_rfl) (by kernel_rfl) (by kernel_rfl) (fun _ _ _ h => h) (Or.inl ⟨by kernel_rfl, ?y15⟩) (by assumption) ?_
              case y15 =>
                intro w0 hSw
                (try dsimp only at hSw)
                go_simp
                try with_reducible rfl
              try simp only [Act.put, List.setIfInBounds_toArray, List.set_cons_zero, List.set_cons_succ, List.getElem_toArray, List.getElem_cons_succ, List.getElem_cons_zero]
              refine wpAnyH_take (i := 2) (v := ?_) rfl (by kernel_rfl) (by kernel_rfl) (by kernel_rfl) (fun _ _ _ h => h) (Or.inl ⟨by kernel_rfl, ?y16⟩) (by assumption) ?_
              case y16 =>
                intro w0 hSw
                (try dsimp only at hSw)
                go_simp
                try with_reducible rfl
              try simp only [Act.put, List.setIfInBounds_toArray, List.set_cons_zero, List.set_cons_succ, List.getElem_toArray, List.getElem_cons_succ, List.getElem_cons_zero]
              refine wpAnyH_take (i := 3) (v := ?_) rfl (by kernel_rfl) (by kernel_rfl) (by kernel_rfl) (fun _ _ _ h => h) (Or.inl ⟨by kernel_rfl, ?y17⟩) (by assumption) ?_
              case y17 =>
                intro w0 hSw
                (try dsimp only at hSw)
                go_simp
                try with_reducible rfl
              try simp only [Act.put, List.setIfInBounds_toArray, List.set_cons_zero, List.set_cons_succ, List.getElem_toArray, List.getElem_cons_succ, List.getElem_cons_zero]
              refine wpAnyH_take (i := 4) (v := ?_) rfl (by kernel_rfl) (by kernel_rfl) (by kernel_rfl) (fun _ _ _ h => h) (Or.inl ⟨by kernel_rfl, ?y18⟩) (by assumption) ?_
              case y18 =>
                intro w0 hSw
                (try dsimp only at hSw)
                go_simp
                try with_reducible rfl
              try simp only [Act.put, List.setIfInBounds_toArray, List.set_cons_zero, List.set_cons_succ, List.getElem_toArray, List.getElem_cons_succ, List.getElem_cons_zero]
              refine wpAnyH_take (i := 5) (v := ?_) rfl (by kernel_rfl) (by kernel_rfl) (by kernel_rfl) (fun _ _ _ h => h) (Or.inl ⟨by kernel_rfl, ?y19⟩) (by assumption) ?_
              case y19 =>
                intro w0 hSw
                (try dsimp only at hSw)
                go_simp
                try with_reducible rfl
              try simp only [Act.put, List.setIfInBounds_toArray, List.set_cons_zero, List.set_cons_succ, List.getElem_toArray, List.getElem_cons_succ, List.getElem_cons_zero]
              refine wpAnyH_take (i := 6) (v := ?_) rfl (by kernel_rfl) (by kernel_rfl) (by kernel_rfl) (fun _ _ _ h => h) (Or.inl ⟨by kernel_rfl, ?y20⟩) (by assumption) ?_
              case y20 =>
                intro w0 hSw
                (try dsimp only at hSw)
                go_simp
                try with_reducible rfl
              try simp only [Act.put, List.setIfInBounds_toArray, List.set_cons_zero, List.set_cons_succ, List.getElem_toArray, List.getElem_cons_succ, List.getElem_cons_zero]
              refine wpAnyH_ready (rs := [7]) (by kernel_rfl) (by simp) (AllReadyH.cons rfl (fun K hK => ?_) AllReadyH.nil)
              rw [if_pos (by kernel_rfl)]
              refine wp_append_run (Operand.tmp 116) (Operand.tmp 120) 29 ?e1_22 (.slice (some ⟨g, 0, none⟩) ii cap) (.slice (if cap = ii + 1 then some ⟨g, 0, none⟩ else some ⟨g, (ii + 1) * 4, none⟩) (l.length - (ii + 1)) (cap - (ii + 1))) ?e2_22 ?e3_22 (v' := v10) (w' := w10) ?e4_22 ?e5_22
              case e1_22 => exact rfl
              case e2_22 => kernel_rfl
              case e3_22 => kernel_rfl
              case e4_22 => exact HRUN.out
              refine hK.out _ _ trivial (fun hHeld => ?_)
              clear hK K
              try simp only [Act.put, List.setIfInBounds_toArray, List.set_cons_zero, List.set_cons_succ, List.getElem_toArray, List.getElem_cons_succ, List.getElem_cons_zero]
              refine wpAnyH_take (i := 8) (v := ?_) rfl (by kernel_rfl) (by kernel_rfl) (by kernel_rfl) (fun _ _ _ h => h) (Or.inl ⟨by kernel_rfl, ?y21⟩) (by assumption) ?_
              case y21 =>
                intro w0 hSw
                (try dsimp only at hSw)
                go_simp
                try with_reducible rfl
              try simp only [Act.put, List.setIfInBounds_toArray, List.set_cons_zero, List.set_cons_succ, List.getElem_toArray, List.getElem_cons_succ, List.getElem_cons_zero]
              refine wpAnyH_done (by kernel_rfl) ?_ _
              have hst := HORDk.out.reop.step HV.out hil (HAi.out ▸ hN)
              rw [← HAi.out, hp] at hst
              have HST := Lib.hid hst
              clear hst m1 m2 m3 m4 m5 m6 m7 m8 m9 m10 r1 r2
              have hnL : (n : Int) ≤ (L.length : Int) := by omega
              go_wp2
              go_roundw
              case rel => exact ⟨_, _, n + 1, ⟨HT10.out.1, HT10.out.2.1, HT10.out.2.2, HST.out⟩, by go_num, by rw [List.length_append, List.length_take, List.length_drop]; omega⟩
              case measure => simp [intOf]; omega
            | some u =>
              simp only [hp, Option.getD_some, Option.isSome_some] at hpar
              cases hf : findA M u with
              | none =>
                have hno : ¬ Next M a := by
                  rintro (h | ⟨x, hx, hs⟩)
                  · rw [hp] at h; cases h
                  · rw [hp] at hx
                    injection hx with hx
                    rw [← hx, hf] at hs
                    cases hs
                have HNO := Lib.hid hno
                clear hno
                go_wp2_with (first
                  | (go_at_call 10; refine (hpar _).mono ?_; rintro e w6 ⟨rfl, hb6⟩; have hf6 := HFIND.out w6 hb6 u; unfold accV at hf6; rw [hf] at hf6; simp only [Option.getD_none, Option.isSome_none] at hf6)
                  | (go_at_call 11; refine hf6.mono ?_; rintro e w7 ⟨rfl, hb7⟩; clear hf6))
                have hB8 : Below wr.heap.size wr (w7.alloc (.cells #[.string noA.name, .int .i64 noA.typ, .int .i64 noA.opened, .bool noA.closed] 35)) := (hb6.trans (hb7.mono hb6.size)).alloc (by have := hb6.size; have := hb7.size; omega) _
                go_roundw
                case rel => exact ⟨kk + 1, by omega, rfl, by go_num, HORDk.out.below hB8, fun j hj i hi e => by
                  by_cases hjk : j = kk
                  · subst hjk
                    have : i = ii := by have := HII.out; omega
                    subst this
                    rw [← HAi.out]
                    exact HNO.out
                  · exact HBLK.out j (by omega) i hi e⟩
                case measure => simp [intOf]; omega
              | some p =>
                have hN : Next M a := .inr ⟨u, hp, by rw [hf]; rfl⟩
                have hopE : openE M a.name 0 a.opened = 0 := by
                  have := (HORDk.out.reop.opens HV.out hil (HAi.out ▸ hN)).1
                  rw [← HAi.out, hp] at this
                  exact this
                go_wp2_with (first
                  | (go_at_call 10; refine (hpar _).mono ?_; rintro e w6 ⟨rfl, hb6⟩; have hf6 := HFIND.out w6 hb6 u; unfold accV at hf6; rw [hf] at hf6; simp only [Option.getD_some, Option.isSome_some] at hf6)
                  | (go_at_call 11; refine hf6.mono ?_; rintro e w7 ⟨rfl, hb7⟩; clear hf6; have z1 : ∀ o, (w7.alloc o).cell? ⟨g, ii * 4 + 1, none⟩ = some (.int .i64 a.typ) := fun o => (((hb6.trans (hb7.mono hb6.size)).alloc (by have := hb6.size; have := hb7.size; omega) o).cell (p := ⟨g, ii * 4 + 1, none⟩) hg.2).trans q1))
                obtain ⟨W8, hW8⟩ : ∃ W8, w7.alloc (.cells #[.string p.name, .int .i64 p.typ, .int .i64 p.opened, .bool p.closed] 35) = W8 := ⟨_, rfl⟩
                have hB8 : Below wr.heap.size wr W8 := by rw [← hW8]; exact (hb6.trans (hb7.mono hb6.size)).alloc (by have := hb6.size; have := hb7.size; omega) _
                rw [hW8]
                clear hW8 z1
                have z0 : W8.cell? ⟨g, ii * 4, none⟩ = some (.string a.name) := (hB8.cell (p := ⟨g, ii * 4, none⟩) hg.2).trans q0
                have z2 : W8.cell? ⟨g, ii * 4 + 2, none⟩ = some (.int .i64 a.opened) := (hB8.cell (p := ⟨g, ii * 4 + 2, none⟩) hg.2).trans q2
                have hord8 := HORDk.out.below (show Below wr.heap.size wr W8.drew from hB8.drew)
                have hop := twin_open hord8.twin hord8.reop.mv a.name 0 a.opened (by omega)
                rw [hopE] at hop
                clear q0 q1 q2 hpar
                refine wp_region_held_drew (S := fun w' => w'.cell? ⟨g, ii * 4, none⟩ = some (.string a.name) ∧ w'.cell? ⟨g, ii * 4 + 2, none⟩ = some (.int .i64 a.opened)) (by kernel_rfl) ⟨z0, z2⟩ (fun hHeld => ?_)
                refine wpAnyH_take (i := 0) (v := ?_) rfl (by kernel_rfl) (by kernel_rfl) (by kernel_rfl) (fun _ _ _ h => h) (Or.inl ⟨by kernel_rfl, ?y23⟩) (by assumption) ?_
                case y23 =>
                  intro w0 hSw
                  (try dsimp only at hSw)
                  go_simp
                  try with_reducible rfl
                try simp only [Act.put, List.setIfInBounds_toArray, List.set_cons_zero, List.set_cons_succ, List.getElem_toArray, List.getElem_cons_succ, List.getElem_cons_zero]
                refine wpAnyH_take (i := 1) (v := ?_) rfl (by kernel_rfl) (by kernel_rfl) (by kernel_rfl) (fun _ _ _ h => h) (Or.inl ⟨by kernel_rfl, ?y24⟩) (by assumption) ?_
                case y24 =>
                  intro w0 hSw
                  (try dsimp only at hSw)
                  go_simp
                  try with_reducible rfl
                try simp only [Act.put, List.setIfInBounds_toArray, List.set_cons_zero, List.set_cons_succ, List.getElem_toArray, List.getElem_cons_succ, List.getElem_cons_zero]
                refine wpAnyH_take (i := 2) (v := ?_) rfl (by kernel_rfl) (by kernel_rfl) (by kernel_rfl) (fun _ _ _ h => h) (Or.inl ⟨by kernel_rfl, ?y25⟩) (by assumption) ?_
                case y25 =>
                  intro w0 hSw
                  (try dsimp only at hSw)
                  go_simp
                  try with_reducible rfl
                try simp only [Act.put, List.setIfInBounds_toArray, List.set_cons_zero, List.set_cons_succ, List.getElem_toArray, List.getElem_cons_succ, List.getElem_cons_zero]
                refine wpAnyH_take (i := 3) (v := ?_) rfl (by kernel_rfl) (by kernel_rfl) (by kernel_rfl) (fun _ _ _ h => h) (Or.inl ⟨by kernel_rfl, ?y26⟩) (by assumption) ?_
                case y26 =>
                  intro w0 hSw
                  (try dsimp only at hSw)
                  go_simp
                  try with_reducible rfl
                try simp only [Act.put, List.setIfInBounds_toArray, List.set_cons_zero, List.set_cons_succ, List.getElem_toArray, List.getElem_cons_succ, List.getElem_cons_zero]
                refine wpAnyH_take (i := 4) (v := ?_) rfl (by kernel_rfl) (by kernel_rfl) (by kernel_rfl) (fun _ _ _ h => h) (Or.inl ⟨by kernel_rfl, ?y27⟩) (by assumption) ?_
                case y27 =>
                  intro w0 hSw
                  (try dsimp only at hSw)
                  go_simp
                  try with_reducible rfl
                try simp only [Act.put, List.setIfInBounds_toArray, List.set_cons_zero, List.set_cons_succ, List.getElem_toArray, List.getElem_cons_succ, List.getElem_cons_zero]
                refine wpAnyH_take (i := 5) (v := ?_) rfl (by kernel_rfl) (by kernel_rfl) (by kernel_rfl) (fun _ _ _ h => h) (Or.inl ⟨by kernel_rfl, ?y28⟩) (by assumption) ?_
                case y28 =>
                  intro w0 hSw
                  (try dsimp only at hSw)
                  go_simp
                  try with_reducible rfl
                try simp only [Act.put, List.setIfInBounds_toArray, List.set_cons_zero, List.set_cons_succ, List.getElem_toArray, List.getElem_cons_succ, List.getElem_cons_zero]
                refine wpAnyH_take (i := 6) (v := ?_) rfl (by kernel_rfl) (by kernel_rfl) (by kernel_rfl) (fun _ _ _ h => h) (Or.inl ⟨by kernel_rfl, ?y29⟩) (by assumption) ?_
                case y29 =>
                  intro w0 hSw
                  (try dsimp only at hSw)
                  go_simp
                  try with_reducible rfl
                try simp only [Act.put, List.setIfInBounds_toArray, List.set_cons_zero, List.set_cons_succ, List.getElem_toArray, List.getElem_cons_succ, List.getElem_cons_zero]
                refine wpAnyH_take (i := 7) (v := ?_) rfl (by kernel_rfl) (by kernel_rfl) (by kernel_rfl) (fun _ _ _ h => h) (Or.inl ⟨by kernel_rfl, ?y30⟩) (by assumption) ?_
                case y30 =>
                  intro w0 hSw
                  (try dsimp only at hSw)
                  go_simp
                  try with_reducible rfl
                try simp only [Act.put, List.setIfInBounds_toArray, List.set_cons_zero, List.set_cons_succ, List.getElem_toArray, List.getElem_cons_succ, List.getElem_cons_zero]
                refine wpAnyH_take (i := 8) (v := ?_) rfl (by kernel_rfl) (by kernel_rfl) (by kernel_rfl) (fun _ _ _ h => h) (Or.inl ⟨by kernel_rfl, ?y31⟩) (by assumption) ?_
                case y31 =>
                  intro w0 hSw
                  (try dsimp only at hSw)
                  go_simp
                  try with_reducible rfl
                try simp only [Act.put, List.setIfInBounds_toArray, List.set_cons_zero, List.set_cons_succ, List.getElem_toArray, List.getElem_cons_succ, List.getElem_cons_zero]
                refine wpAnyH_take (i := 9) (v := ?_) rfl (by kernel_rfl) (by kernel_rfl) (by kernel_rfl) (fun _ _ _ h => h) (Or.inl ⟨by kernel_rfl, ?y32⟩) (by assumption) ?_
                case y32 =>
                  intro w0 hSw
                  (try dsimp only at hSw)
                  go_simp
                  try with_reducible rfl
                try simp only [Act.put, List.setIfInBounds_toArray, List.set_cons_zero, List.set_cons_succ, List.getElem_toArray, List.getElem_cons_succ, List.getElem_cons_zero]
                refine wpAnyH_take (i := 10) (v := ?_) rfl (by kernel_rfl) (by kernel_rfl) (by kernel_rfl) (fun _ _ _ h => h) (Or.inl ⟨by kernel_rfl, ?y33⟩) (by assumption) ?_
                case y33 =>
                  intro w0 hSw
                  (try dsimp only at hSw)
                  go_simp
                  try with_reducible rfl
                try simp only [Act.put, List.setIfInBounds_toArray, List.set_cons_zero, List.set_cons_succ, List.getElem_toArray, List.getElem_cons_succ, List.getElem_cons_zero]
                refine wpAnyH_take (i := 11) (v := ?_) rfl (by kernel_rfl) (by kernel_rfl) (by kernel_rfl) (fun _ _ _ h => h) (Or.inl ⟨by kernel_rfl, ?y34⟩) (by assumption) ?_
                case y34 =>
                  intro w0 hSw
                  (try dsimp only at hSw)
                  go_simp
                  try with_reducible rfl
                try simp only [Act.put, List.setIfInBounds_toArray, List.set_cons_zero, List.set_cons_succ, List.getElem_toArray, List.getElem_cons_succ, List.getElem_cons_zero]
                refine wpAnyH_ready (rs := [12]) (by kernel_rfl) (by simp) (AllReadyH.cons rfl (fun K hK => ?_) AllReadyH.nil)
                go_simp
                go_at_call 12; refine hop.mono ?_; rintro e w9 ⟨rfl, hT9, hK9⟩; have g0 : w9.cell? ⟨g, ii * 4, none⟩ = some (.string a.name) := (kept_cell hK9 (.inr rfl) (by have := hB8.size; show g < W8.heap.size; omega)).trans z0; have g2 : w9.cell? ⟨g, ii * 4 + 2, none⟩ = some (.int .i64 a.opened) := (kept_cell hK9 (.inr rfl) (by have := hB8.size; show g < W8.heap.size; omega)).trans z2
                go_wp2_with fail
                refine hK.out _ _ ⟨g0, g2⟩ (fun hHeld => ?_)
                clear hK K
                try simp only [Act.put, List.setIfInBounds_toArray, List.set_cons_zero, List.set_cons_succ, List.getElem_toArray, List.getElem_cons_succ, List.getElem_cons_zero]
                refine wpAnyH_take (i := 13) (v := ?_) rfl (by kernel_rfl) (by kernel_rfl) (by kernel_rfl) (fun _ _ _ h => h) (Or.inl ⟨by kernel_rfl, ?y35⟩) (by assumption) ?_
                case y35 =>
                  intro w0 hSw
                  (try dsimp only at hSw)
                  go_simp
                  try with_reducible rfl
                try simp only [Act.put, List.setIfInBounds_toArray, List.set_cons_zero, List.set_cons_succ, List.getElem_toArray, List.getElem_cons_succ, List.getElem_cons_zero]
                refine wpAnyH_done (by kernel_rfl) ?_ _
                have H9 := Lib.hid (And.intro hT9 hK9)
                clear hT9 hK9 g0 g2 z0 z2 hop
                go_wp2
                have hrow9 := H9.out.2.row hord8.row (fun k e => .inr e)
                have hall9 : KReads (fun x => w2.heap.size ≤ x ∧ x < w3.heap.size) w9 (.slice A3 L.length c3) L := hord8.all.keep H9.out.2.size fun x hx hl => H9.out.2.same x (.inl hx) hl
                obtain ⟨v10, w10, hrun, t1, t2, t3⟩ := OrdAt.shrink (w := wA) (lo := w2.heap.size) (hi := w3.heap.size) (bs := w4.heap.size) (wr := w9.drew) hle (H9.out.1.below' (Below.refl _ _).drew) (hall9.below (Below.refl _ _).drew) (ownsRow_keep hrow9 fun _ _ => rfl) rfl hlen100 ii hil (by have := hrow9.lt g rfl; show w4.heap.size ≤ w9.heap.size; omega) hz02 (by omega)
                have HRUN := Lib.hid hrun
                have HT10 := Lib.hid (And.intro t1 (And.intro t2 t3))
                clear hrun t1 t2 t3 hrow9 hall9
                have hcap : l.length ≤ cap := by
                  rcases HORDk.out.row.2 with ⟨e, _⟩ | ⟨g2, cap2, cur, e, _, _, hnc, _⟩
                  · cases e
                  · injection e with _ _ e3; rw [e3]; exact hnc
                have m1 : (0 : Int) ≤ (ii : Int) := by omega
                have m2 : (ii : Int) ≤ (cap : Int) := by omega
                have m3 : (ii : Int) ≤ (l.length : Int) := by omega
                have m4 : (0 : Int) ≤ (ii : Int) + 1 := by omega
                have m5 : (ii : Int) + 1 ≤ (l.length : Int) := by omega
                have m6 : (l.length : Int) ≤ (cap : Int) := by omega
                have m7 : ((ii : Int) + 1).toNat = ii + 1 := by omega
                have m8 : IntKind.i64.wrap ((ii : Int) + 1) = (ii : Int) + 1 := IntWalk.i64_in _ (by omega)
                have m9 : ii + 1 ≤ l.length := by omega
                have m10 : ii ≤ cap := by omega
                refine wp_region_held_drew (S := fun _ => True) (by kernel_rfl) trivial (fun hHeld => ?_)
                refine wpAnyH_take (i := 0) (v := ?_) rfl (by kernel_rfl) (by kernel_rfl) (by kernel_rfl) (fun _ _ _ h => h) (Or.inl ⟨by kernel_rfl, ?y36⟩) (by assumption) ?_
                case y36 =>
                  intro w0 hSw
                  (try dsimp only at hSw)
                  go_simp
                  try with_reducible rfl
                try simp only [Act.put, List.setIfInBounds_toArray, List.set_cons_zero, List.set_cons_succ, List.getElem_toArray, List.getElem_cons_succ, List.getElem_cons_zero]
                refine wpAnyH_take (i := 1) (v := ?_) rfl (by kernel_rfl) (by kernel_rfl) (by kernel_rfl) (fun _ _ _ h => h) (Or.inl ⟨by kernel_rfl, ?y37⟩) (by assumption) ?_
                case y37 =>
                  intro w0 hSw
                  (try dsimp only at hSw)
                  go_simp
                  try with_reducible rfl
                try simp only [Act.put, List.setIfInBounds_toArray, List.set_cons_zero, List.set_cons_succ, List.getElem_toArray, List.getElem_cons_succ, List.getElem_cons_zero]
                refine wpAnyH_take (i := 2) (v := ?_) rfl (by kernel_rfl) (by kernel_rfl) (by kernel_rfl) (fun _ _ _ h => h) (Or.inl ⟨by kernel_rfl, ?y38⟩) (by assumption) ?_
                case y38 =>
                  intro w0 hSw
                  (try dsimp only at hSw)
                  go_simp
                  try with_reducible rfl
                try simp only [Act.put, List.setIfInBounds_toArray, List.set_cons_zero, List.set_cons_succ, List.getElem_toArray, List.getElem_cons_succ, List.getElem_cons_zero]
                refine wpAnyH_take (i := 3) (v := ?_) rfl (by kernel_rfl) (by kernel_rfl) (by kernel_rfl) (fun _ _ _ h => h) (Or.inl ⟨by kernel_rfl, ?y39⟩) (by assumption) ?_
                case y39 =>
                  intro w0 hSw
                  (try dsimp only at hSw)
                  go_simp
                  try with_reducible rfl
                try simp only [Act.put, List.setIfInBounds_toArray, List.set_cons_zero, List.set_cons_succ, List.getElem_toArray, List.getElem_cons_succ, List.getElem_cons_zero]
                refine wpAnyH_take (i := 4) (v := ?_) rfl (by kernel_rfl) (by kernel_rfl) (by kernel_rfl) (fun _ _ _ h => h) (Or.inl ⟨by kernel_rfl, ?y40⟩) (by assumption) ?_
                case y40 =>
                  intro w0 hSw
                  (try dsimp only at hSw)
                  go_simp
                  try with_reducible rfl
                try simp only [Act.put, List.setIfInBounds_toArray, List.set_cons_zero, List.set_cons_succ, List.getElem_toArray, List.getElem_cons_succ, List.getElem_cons_zero]
                refine wpAnyH_take (i := 5) (v := ?_) rfl (by kernel_rfl) (by kernel_rfl) (by kernel_rfl) (fun _ _ _ h => h) (Or.inl ⟨by kernel_rfl, ?y41⟩) (by assumption) ?_
                case y41 =>
                  intro w0 hSw
                  (try dsimp only at hSw)
                  go_simp
                  try with_reducible rfl
                try simp only [Act.put, List.setIfInBounds_toArray, List.set_cons_zero, List.set_cons_succ, List.getElem_toArray, List.getElem_cons_succ, List.getElem_cons_zero]
                refine wpAnyH_take (i := 6) (v := ?_) rfl (by kernel_rfl) (by kernel_rfl) (by kernel_rfl) (fun _ _ _ h => h) (Or.inl ⟨by kernel_rfl, ?y42⟩) (by assumption) ?_
                case y42 =>
                  intro w0 hSw
                  (try dsimp only at hSw)
                  go_simp
                  try with_reducible rfl
                try simp only [Act.put, List.setIfInBounds_toArray, List.set_cons_zero, List.set_cons_succ, List.getElem_toArray, List.getElem_cons_succ, List.getElem_cons_zero]
                refine wpAnyH_ready (rs := [7]) (by kernel_rfl) (by simp) (AllReadyH.cons rfl (fun K hK => ?_) AllReadyH.nil)
                rw [if_pos (by kernel_rfl)]
                refine wp_append_run (Operand.tmp 116) (Operand.tmp 120) 29 ?e1_44 (.slice (some ⟨g, 0, none⟩) ii cap) (.slice (if cap = ii + 1 then some ⟨g, 0, none⟩ else some ⟨g, (ii + 1) * 4, none⟩) (l.length - (ii + 1)) (cap - (ii + 1))) ?e2_44 ?e3_44 (v' := v10) (w' := w10) ?e4_44 ?e5_44
                case e1_44 => exact rfl
                case e2_44 => kernel_rfl
                case e3_44 => kernel_rfl
                case e4_44 => exact HRUN.out
                refine hK.out _ _ trivial (fun hHeld => ?_)
                clear hK K
                try simp only [Act.put, List.setIfInBounds_toArray, List.set_cons_zero, List.set_cons_succ, List.getElem_toArray, List.getElem_cons_succ, List.getElem_cons_zero]
                refine wpAnyH_take (i := 8) (v := ?_) rfl (by kernel_rfl) (by kernel_rfl) (by kernel_rfl) (fun _ _ _ h => h) (Or.inl ⟨by kernel_rfl, ?y43⟩) (by assumption) ?_
                case y43 =>
                  intro w0 hSw
                  (try dsimp only at hSw)
                  go_simp
                  try with_reducible rfl
                try simp only [Act.put, List.setIfInBounds_toArray, List.set_cons_zero, List.set_cons_succ, List.getElem_toArray, List.getElem_cons_succ, List.getElem_cons_zero]
                refine wpAnyH_done (by kernel_rfl) ?_ _
                have hst := HORDk.out.reop.step HV.out hil (HAi.out ▸ hN)
                rw [← HAi.out, hp] at hst
                have HST := Lib.hid hst
                clear hst m1 m2 m3 m4 m5 m6 m7 m8 m9 m10 r1 r2
                have hnL : (n : Int) ≤ (L.length : Int) := by omega
                go_wp2
                go_roundw
                case rel => exact ⟨_, _, n + 1, ⟨HT10.out.1, HT10.out.2.1, HT10.out.2.2, HST.out⟩, by go_num, by rw [List.length_append, List.length_take, List.length_drop]; omega⟩
                case measure => simp [intOf]; omega
          · exfalso
            have hkl : kk = l.length := by omega
            subst hkl
            obtain ⟨i, hi, hN⟩ := hord.reop.next HV.out (by intro e; rw [e] at hl0; simp at hl0)
            refine absurd hN ?_
            by_cases h : at0 ≤ i
            · exact hblk ((i : Int) - at0).toNat (by omega) i hi (by rw [Int.toNat_of_nonneg (by omega), show at0 + ((i : Int) - at0) = i by omega]; exact Int.tmod_eq_of_lt (by omega) (by omega))
            · exact hblk ((i : Int) + l.length - at0).toNat (by omega) i hi (by
                rw [Int.toNat_of_nonneg (by omega), show at0 + ((i : Int) + l.length - at0) = (i : Int) + l.length by omega, Int.tmod_eq_emod_of_nonneg (by omega), Int.add_emod_right]
                exact Int.emod_eq_of_lt (by omega) (by omega))
      clear Khc
      obtain ⟨hnp, Ap, cp, hvp, hcp⟩ := HP.out
      subst hvp
      have HKH := Lib.hid HK
      clear HK
      by_cases hnn : n < np
      · obtain ⟨ad, x, rfl, hab, hcx⟩ := hcp n hnn
        have cx : wr.cell? (ad.add n) = some (.int .i64 x) := ((HX.out.1.trans (HORD.out.twin.bel.mono HX.out.1.size)).cell (p := ad.add n) (by rw [block_add]; exact hab)).trans hcx
        clear hcp hcx
        by_cases hx0 : 0 ≤ x
        · have hl9 : (0 : Int) < l.length := by omega
          have r2 : ((l.length : Int) == 0) = false := by rw [beq_eq_false_iff_ne]; omega
          have ht0 := Int.emod_nonneg x (show (l.length : Int) ≠ 0 by omega)
          have ht1 := Int.emod_lt_of_pos x hl9
          have HT := Lib.hid (And.intro ht0 ht1)
          clear ht0 ht1
          go_simp
          go_wp2
          exact HKH.out _ _ _ _ _ _ _ _ _ _ _ _ _ _ _ _ _ HT.out.1 HT.out.2
        · go_simp
          go_wp2
          exact HKH.out 0 _ _ _ _ _ _ _ _ _ _ _ _ _ _ _ _ (Int.le_refl _) (by omega)
      · clear hcp
        go_simp
        go_wp2
        exact HKH.out 0 _ _ _ _ _ _ _ _ _ _ _ _ _ _ _ _ (Int.le_refl _) (by omega)
    · have hl1 : l = [] := List.eq_nil_of_length_eq_zero (by omega)
      subst hl1
      have hM := hord.reop.done HV.out
      have hT0 : Twin wA wr (fun x => w2.heap.size ≤ x ∧ x < w3.heap.size) cb db L (closedFrom L L.length) := by
        rw [closedFrom_all, ← hM]
        exact hord.twin.forget fun x hx => .inl hx
      have hVM : Valid (closedFrom L L.length) := by
        rw [closedFrom_all, ← hM]
        exact hord.reop.mv
      have hall := hord.all
      obtain ⟨A6, c6, rfl⟩ : ∃ A6 c6, u13 = .slice A6 0 c6 := by
        rcases hord.row.2 with ⟨e, h⟩ | ⟨g, cap, cur, e, _⟩
        · exact ⟨none, 0, e⟩
        · exact ⟨_, cap, e⟩
      have HST := Lib.hid (And.intro hT0 (And.intro hVM hall))
      have x1 : IntKind.i64.wrap ((L.length : Int) - 1) = (L.length : Int) - 1 := IntWalk.i64_in _ (by omega)
      clear hord hM hT0 hVM hall hl0 hsum
      go_wp2
      go_loopw [23] (fun i wr => ∃ m, CloseInv wA w2.heap.size w3.heap.size cb db L (.slice A3 L.length c3) i wr m) (fun i _ => (intOf i + 1).toNat)
      case atStart => exact ⟨L.length, Nat.le_refl _, rfl, HST.out.1, HST.out.2.1, HST.out.2.2⟩
      case round =>
        clear HST x1
        obtain ⟨m, ⟨hm, rfl, htw, hval, hall⟩⟩ := hrel
        cases m with
        | zero =>
          rw [closedFrom_none] at htw
          have e0 : ((0 : Nat) : Int) - 1 = -1 := rfl
          rw [e0]
          clear e0 hval
          have ha6 := twin_acc htw.swap HV.out
          have HALL := Lib.hid hall
          have hbox : ∀ W, Below wA.heap.size wA W → W.cell? ⟨w.heap.size, 0, none⟩ = some (.int .i64 who1) ∧ W.cell? ⟨w.heap.size, 1, none⟩ = some (.int .i64 a1.kind) ∧ W.cell? ⟨w.heap.size, 2, none⟩ = some (.int .i64 a1.typ) ∧ W.cell? ⟨w.heap.size, 3, none⟩ = some (.int .i64 a1.day) ∧ W.cell? ⟨w.heap.size, 4, none⟩ = some (.string a1.name) ∧ W.cell? ⟨w.heap.size, 5, none⟩ = some (.string ask1) ∧
              W.cell? ⟨w.heap.size + 1, 0, none⟩ = some (.int .i64 who2) ∧ W.cell? ⟨w.heap.size + 1, 1, none⟩ = some (.int .i64 a2.kind) ∧ W.cell? ⟨w.heap.size + 1, 2, none⟩ = some (.int .i64 a2.typ) ∧ W.cell? ⟨w.heap.size + 1, 3, none⟩ = some (.int .i64 a2.day) ∧ W.cell? ⟨w.heap.size + 1, 4, none⟩ = some (.string a2.name) ∧ W.cell? ⟨w.heap.size + 1, 5, none⟩ = some (.string ask2) := fun W hb => by
            obtain ⟨_, hz, h1, h2⟩ := HX.out
            have k1 := (hb.block w.heap.size (by omega)).trans h1
            have k2 := (hb.block (w.heap.size + 1) (by omega)).trans h2
            refine ⟨?_, ?_, ?_, ?_, ?_, ?_, ?_, ?_, ?_, ?_, ?_, ?_⟩
            all_goals first | (rw [cell_of_blk k1]; rfl) | (rw [cell_of_blk k2]; rfl)
          have HBOX := Lib.hid hbox
          clear hbox hall htw hm
          cases hU1 : underF a1.name a2.name with
          | true =>
            have HU1 := Lib.hid hU1
            clear hU1
            go_wp2_with (first
              | (go_at_call 8; refine ha6.mono ?_; rintro e w6 ⟨v6, rfl, hr6, hT6, hb6⟩; clear ha6; have hs6 := same_any w6 (.slice A3 L.length c3) v6 L L (HALL.out.below hb6).reads hr6.reads hle; rw [decide_eq_true rfl] at hs6; have T6 := Lib.hid hT6.swap; clear hr6 hT6)
              | (go_at_call 14; refine hs6.mono ?_; rintro e w7 ⟨rfl, hb7⟩; clear hs6; have T7 := Lib.hid ((T6.out.below hb7).forget (K' := fun x => w2.heap.size ≤ x ∧ x < w3.heap.size) (fun x hx => .inl (.inl hx))); obtain ⟨p0, p1, p2, p3, p4, p5, r0, r1, r2, r3, r4, r5⟩ := HBOX.out w7 T7.out.bel; have hu1 := Under_any a1.name a2.name w7 (by omega) (by omega); rw [HU1.out] at hu1; clear T6)
              | (go_at_call 15; refine hu1.mono ?_; rintro e w8 ⟨rfl, hb8⟩; clear hu1; have T8 := Lib.hid (T7.out.below' hb8); clear T7))
            go_simp
            go_wp2
            go_ret
            exact ⟨rfl, HX.out.1.trans (T8.out.bel.mono (by have := HX.out.2.1; omega))⟩
          | false =>
            have HU1 := Lib.hid hU1
            clear hU1
            cases hU2 : underF a2.name a1.name with
            | true =>
              have HU2 := Lib.hid hU2
              clear hU2
              obtain ⟨E1, hE1⟩ : ∃ E1, actE L a1 = E1 := ⟨_, rfl⟩
              have HE1 := Lib.hid hE1
              clear hE1
              go_wp2_with (first
                | (go_at_call 8; refine ha6.mono ?_; rintro e w6 ⟨v6, rfl, hr6, hT6, hb6⟩; clear ha6; have hs6 := same_any w6 (.slice A3 L.length c3) v6 L L (HALL.out.below hb6).reads hr6.reads hle; rw [decide_eq_true rfl] at hs6; have T6 := Lib.hid hT6.swap; clear hr6 hT6)
                | (go_at_call 14; refine hs6.mono ?_; rintro e w7 ⟨rfl, hb7⟩; clear hs6; have T7 := Lib.hid ((T6.out.below hb7).forget (K' := fun x => w2.heap.size ≤ x ∧ x < w3.heap.size) (fun x hx => .inl (.inl hx))); obtain ⟨p0, p1, p2, p3, p4, p5, r0, r1, r2, r3, r4, r5⟩ := HBOX.out w7 T7.out.bel; have hu1 := Under_any a1.name a2.name w7 (by omega) (by omega); rw [HU1.out] at hu1; clear T6)
                | (go_at_call 15; refine hu1.mono ?_; rintro e w8 ⟨rfl, hb8⟩; clear hu1 p0 p1 p2 p3 p4 p5 r0 r1 r2 r3 r4 r5; have T8 := Lib.hid (T7.out.below' hb8); obtain ⟨p0, p1, p2, p3, p4, p5, r0, r1, r2, r3, r4, r5⟩ := HBOX.out w8 T8.out.bel; have hu2 := Under_any a2.name a1.name w8 (by omega) (by omega); rw [HU2.out] at hu2; clear T7)
                | (go_at_call 15; refine hu2.mono ?_; rintro e w9 ⟨rfl, hb9⟩; clear hu2 p0 p1 p2 p3 p4 p5 r0 r1 r2 r3 r4 r5; have T9 := Lib.hid (T8.out.below' hb9); obtain ⟨p0, p1, p2, p3, p4, p5, r0, r1, r2, r3, r4, r5⟩ := HBOX.out w9 T9.out.bel; have hact1 := twin_act T9.out HV.out who1 a1 ask1 hs1; unfold actV at hact1; rw [HE1.out] at hact1; clear T8))
              go_simp
              go_wp2
              go_ret
              exact ⟨rfl, HX.out.1.trans (T9.out.bel.mono (by have := HX.out.2.1; omega))⟩
            | false =>
              have HU2 := Lib.hid hU2
              obtain ⟨E1, hE1⟩ : ∃ E1, actE L a1 = E1 := ⟨_, rfl⟩
              have HE1 := Lib.hid hE1
              obtain ⟨E2, hE2⟩ : ∃ E2, actE L a2 = E2 := ⟨_, rfl⟩
              have HE2 := Lib.hid hE2
              clear hE1 hE2
              by_cases h98 : (98 : Int) < L.length
              · clear hU2
                go_wp2_with (first
                  | (go_at_call 8; refine ha6.mono ?_; rintro e w6 ⟨v6, rfl, hr6, hT6, hb6⟩; clear ha6; have hs6 := same_any w6 (.slice A3 L.length c3) v6 L L (HALL.out.below hb6).reads hr6.reads hle; rw [decide_eq_true rfl] at hs6; have T6 := Lib.hid hT6.swap; clear hr6 hT6)
                  | (go_at_call 14; refine hs6.mono ?_; rintro e w7 ⟨rfl, hb7⟩; clear hs6; have T7 := Lib.hid ((T6.out.below hb7).forget (K' := fun x => w2.heap.size ≤ x ∧ x < w3.heap.size) (fun x hx => .inl (.inl hx))); obtain ⟨p0, p1, p2, p3, p4, p5, r0, r1, r2, r3, r4, r5⟩ := HBOX.out w7 T7.out.bel; have hu1 := Under_any a1.name a2.name w7 (by omega) (by omega); rw [HU1.out] at hu1; clear T6)
                  | (go_at_call 15; refine hu1.mono ?_; rintro e w8 ⟨rfl, hb8⟩; clear hu1 p0 p1 p2 p3 p4 p5 r0 r1 r2 r3 r4 r5; have T8 := Lib.hid (T7.out.below' hb8); obtain ⟨p0, p1, p2, p3, p4, p5, r0, r1, r2, r3, r4, r5⟩ := HBOX.out w8 T8.out.bel; have hu2 := Under_any a2.name a1.name w8 (by omega) (by omega); rw [HU2.out] at hu2; clear T7)
                  | (go_at_call 15; refine hu2.mono ?_; rintro e w9 ⟨rfl, hb9⟩; clear hu2 p0 p1 p2 p3 p4 p5 r0 r1 r2 r3 r4 r5; have T9 := Lib.hid (T8.out.below' hb9); obtain ⟨p0, p1, p2, p3, p4, p5, r0, r1, r2, r3, r4, r5⟩ := HBOX.out w9 T9.out.bel; have hact1 := twin_act T9.out HV.out who1 a1 ask1 hs1; unfold actV at hact1; rw [HE1.out] at hact1; clear T8))
                go_simp
                go_wp2
                go_ret
                exact ⟨rfl, HX.out.1.trans (T9.out.bel.mono (by have := HX.out.2.1; omega))⟩
              · have HSW := Lib.hid (swap_far HV.out (by omega) a1 a2 HU1.out HU2.out)
                clear hU2
                go_wp2_with (first
                  | (go_at_call 8; refine ha6.mono ?_; rintro e w6 ⟨v6, rfl, hr6, hT6, hb6⟩; clear ha6; have hs6 := same_any w6 (.slice A3 L.length c3) v6 L L (HALL.out.below hb6).reads hr6.reads hle; rw [decide_eq_true rfl] at hs6; have T6 := Lib.hid hT6.swap; clear hr6 hT6)
                  | (go_at_call 14; refine hs6.mono ?_; rintro e w7 ⟨rfl, hb7⟩; clear hs6; have T7 := Lib.hid ((T6.out.below hb7).forget (K' := fun x => w2.heap.size ≤ x ∧ x < w3.heap.size) (fun x hx => .inl (.inl hx))); obtain ⟨p0, p1, p2, p3, p4, p5, r0, r1, r2, r3, r4, r5⟩ := HBOX.out w7 T7.out.bel; have hu1 := Under_any a1.name a2.name w7 (by omega) (by omega); rw [HU1.out] at hu1; clear T6)
                  | (go_at_call 15; refine hu1.mono ?_; rintro e w8 ⟨rfl, hb8⟩; clear hu1 p0 p1 p2 p3 p4 p5 r0 r1 r2 r3 r4 r5; have T8 := Lib.hid (T7.out.below' hb8); obtain ⟨p0, p1, p2, p3, p4, p5, r0, r1, r2, r3, r4, r5⟩ := HBOX.out w8 T8.out.bel; have hu2 := Under_any a2.name a1.name w8 (by omega) (by omega); rw [HU2.out] at hu2; clear T7)
                  | (go_at_call 15; refine hu2.mono ?_; rintro e w9 ⟨rfl, hb9⟩; clear hu2 p0 p1 p2 p3 p4 p5 r0 r1 r2 r3 r4 r5; have T9 := Lib.hid (T8.out.below' hb9); obtain ⟨p0, p1, p2, p3, p4, p5, r0, r1, r2, r3, r4, r5⟩ := HBOX.out w9 T9.out.bel; have hact1 := twin_act T9.out HV.out who1 a1 ask1 hs1; unfold actV at hact1; rw [HE1.out] at hact1; clear T8)
                  | (go_at_call 16; refine hact1.mono ?_; rintro e w10 ⟨rfl, hT10, _⟩; clear hact1 p0 p1 p2 p3 p4 p5 r0 r1 r2 r3 r4 r5 T9; obtain ⟨p0, p1, p2, p3, p4, p5, r0, r1, r2, r3, r4, r5⟩ := HBOX.out w10 hT10.bel; have hact2 := twin_act hT10 (act_valid HV.out a1) who2 a2 ask2 hs2; unfold actV at hact2; rw [HSW.out.1, HE2.out] at hact2; clear hT10)
                  | (go_at_call 16; refine hact2.mono ?_; rintro e w11 ⟨rfl, hT11, _⟩; clear hact2 p0 p1 p2 p3 p4 p5 r0 r1 r2 r3 r4 r5; obtain ⟨p0, p1, p2, p3, p4, p5, r0, r1, r2, r3, r4, r5⟩ := HBOX.out w11 hT11.bel; have hact3 := twin_act hT11.swap HV.out who2 a2 ask2 hs2; unfold actV at hact3; rw [HE2.out] at hact3; clear hT11)
                  | (go_at_call 16; refine hact3.mono ?_; rintro e w12 ⟨rfl, hT12, _⟩; clear hact3 p0 p1 p2 p3 p4 p5 r0 r1 r2 r3 r4 r5; obtain ⟨p0, p1, p2, p3, p4, p5, r0, r1, r2, r3, r4, r5⟩ := HBOX.out w12 hT12.bel; have hact4 := twin_act hT12 (act_valid HV.out a2) who1 a1 ask1 hs1; unfold actV at hact4; rw [HSW.out.2.1, HE1.out, ← HSW.out.2.2] at hact4; clear hT12)
                  | (go_at_call 16; refine hact4.mono ?_; rintro e w13 ⟨rfl, hT13, _⟩; clear hact4; have ha13 := twin_acc hT13.swap (act_valid (act_valid HV.out a1) a2); clear hT13)
                  | (go_at_call 8; refine ha13.mono ?_; rintro e w14 ⟨v14, rfl, hr14, hT14, hb14⟩; clear ha13; have R14 := Lib.hid hr14.reads; have ha15 := twin_acc hT14.swap (act_valid (act_valid HV.out a1) a2); clear hr14 hT14)
                  | (go_at_call 8; refine ha15.mono ?_; rintro e w15 ⟨v15, rfl, hr15, hT15, hb15⟩; clear ha15; have hs15 := same_any w15 v14 v15 _ _ (R14.out.below hb15) hr15.reads (act_valid (act_valid HV.out a1) a2).le; rw [decide_eq_true rfl] at hs15; have T15 := Lib.hid hT15; clear hr15 hT15)
                  | (go_at_call 14; refine hs15.mono ?_; rintro e w16 ⟨rfl, hb16⟩; clear hs15))
                go_simp
                go_wp2
                go_ret
                exact ⟨rfl, HX.out.1.trans ((T15.out.bel.trans (hb16.mono T15.out.bel.size)).mono (by have := HX.out.2.1; omega))⟩
        | succ m =>
          have hml : m < L.length := by omega
          have e1 : ((m + 1 : Nat) : Int) - 1 = (m : Int) := by omega
          rw [e1]
          clear e1
          obtain ⟨A4, c4, e4, hcl⟩ := hall.reads.ex
          obtain ⟨rfl, rfl⟩ : A3 = A4 ∧ c3 = c4 := by simpa using e4
          clear e4
          obtain ⟨b, rfl, hbl, q0, q1, q2, q3⟩ := hcl m hml
          clear hcl q1 q2
          obtain ⟨hy, hn⟩ := close_step HV.out hml hval
          have HALL := Lib.hid (And.intro hall (And.intro htw hval))
          have x2 : IntKind.i64.wrap ((m : Int) - 1) = (m : Int) - 1 := IntWalk.i64_in _ (by omega)
          cases hcc : L[m].closed with
          | false =>
            rw [hcc] at q3
            have hEq := Lib.hid (hn hcc)
            clear hy hn hcc hall htw hval
            go_wp2
            go_simp
            go_wp2
            go_roundw
            case rel => exact ⟨m, by omega, by go_num, by rw [← hEq.out]; exact HALL.out.2.1, by rw [← hEq.out]; exact HALL.out.2.2, HALL.out.1⟩
            case measure => simp [intOf]; omega
          | true =>
            rw [hcc] at q3
            obtain ⟨hE, hC⟩ := hy hcc
            have hcl := twin_close htw hval L[m].name
            have hval' := close_valid hval L[m].name
            rw [hE, hC] at hcl
            rw [hC] at hval'
            have HV2 := Lib.hid hval'
            clear hy hn hcc hall htw hval hE hC hval'
            go_wp2_with (go_at_call 13; refine hcl.mono ?_; rintro e w6 ⟨rfl, hT6, hK6⟩; have H6 := Lib.hid (And.intro hT6 hK6); clear hcl hT6 hK6)
            go_simp
            go_wp2
            go_roundw
            case rel => exact ⟨m, by omega, by go_num, H6.out.1, HV2.out, H6.out.2.reads HALL.out.1⟩
            case measure => simp [intOf]; omega
end Go.Proofs.YthbiepgpflpfoaaDoor
