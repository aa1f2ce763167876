/-
  CacheLast: the walk.
-/
import Derived.Test.YtbmkeapebmlggaaPa
import Derived.StillTailTactics
import Derived.BigQuiet
import Derived.IntWalk
import Derived.Deep.DeepCutAuto
namespace Go.Proofs.Ytbmkeapebmlggaa
open Go.RowKit Go.Vs Go.Maps Go.ChangeMaps Go.WideMaps

theorem St.turns {X G : Nat → Prop} {a w w' : World} {p : Value} {L : List Dat} {room h m : Int} (s : St X a w p L room h m) (t : Turns G w w') (hG : ∀ k, G k → X k) (ha : ∀ k, G k → a.heap.size ≤ k) : St X a w' p L room h m := by
  obtain ⟨F, S, C, hx⟩ := s.ex
  exact ⟨F, ⟨S.below.trans (t.below S.below.size ha), S.ge⟩, C.turns t (fun k hk hg => (hx k (hG k hg)).1 hk), fun k hk => ⟨(hx k hk).1, Nat.lt_of_lt_of_le (hx k hk).2 t.size⟩⟩

theorem St.weak {X Y : Nat → Prop} {a w : World} {p : Value} {L : List Dat} {room h m : Int} (s : St X a w p L room h m) (hy : ∀ k, Y k → X k) : St Y a w p L room h m := by
  obtain ⟨F, S, C, hx⟩ := s.ex
  exact ⟨F, S, C, fun k hk => hx k (hy k hk)⟩

theorem St.len {X : Nat → Prop} {a w : World} {p : Value} {L : List Dat} {room h m : Int} (s : St X a w p L room h m) : (L.length : Int) ≤ room := by
  obtain ⟨F, S, C, hx⟩ := s.ex
  have := C.len
  have := C.r0
  omega

/-- The state of the loop: k calls are done. -/
def LastRel (a : World) (room : Int) (p : Value) (acts : List ActD) (mb : Nat) (k : Nat) (w : World) : Prop :=
  ∃ L h m sz f, St (fun x => x = mb) a w p L room h m ∧ smap w Try.prog 9 mb sz f ∧ LastInv acts k L f ∧ (0 ≤ h ∧ 0 ≤ m ∧ h + m ≤ k) ∧ sz ≤ k

theorem LastRel.below {a w w' : World} {room : Int} {p : Value} {acts : List ActD} {mb k : Nat} (r : LastRel a room p acts mb k w) (t : Below w.heap.size w w') : LastRel a room p acts mb k w' := by
  obtain ⟨L, h, m, sz, f, R1, R2, R3⟩ := r
  exact ⟨L, h, m, sz, f, R1.below t, R2.block (t.block _ R2.lt), R3⟩

theorem zero3 (w : World) : (zeroValue 3).run Try.prog w = .ok (.int .i64 0) w := by kernel_rfl

set_option maxHeartbeats 4000000 in
set_option maxRecDepth 100000 in
theorem last_walk (w : World) (a0 : Int) (v : Value) (acts : List ActD) (HA : RdA w v acts) :
    Calls Try.prog 5 #[.int .i64 a0, v] w (TrueBelow w) := by
  have HA' := Lib.hid HA
  have hr0 : 0 ≤ a0 % 20 ∧ a0 % 20 < 20 := by omega
  generalize hr : a0 % 20 = r0 at hr0
  have HR := Lib.hid hr
  clear hr HA
  go_enter Try.func5, Try.ntmps5
  go_wp2_with (fail)
  refine (lives_any w).mono ?_
  rintro _ w1 ⟨rfl, B1⟩
  have BB := Lib.hid B1
  have H1 : Hid (RdA w1 v acts) := Rd.kept HA'.out B1
  clear B1
  go_wp2_with (fail)
  refine (light_any H1.out).mono ?_
  rintro _ w1 ⟨rfl, rfl⟩
  cases hl : lightB acts with
  | false =>
    clear hr0
    go_wp2_with (fail)
    go_ret
    exact ⟨rfl, BB.out⟩
  | true =>
    have h80 : acts.length ≤ 80 := by
      unfold lightB at hl
      simp only [Bool.and_eq_true, decide_eq_true_eq] at hl
      exact hl.1
    have HS : Hid (∀ x ∈ acts, x.key.size ≤ 30) := by
      show ∀ x ∈ acts, x.key.size ≤ 30
      intro x hx
      unfold lightB at hl
      simp only [Bool.and_eq_true] at hl
      have := List.all_eq_true.1 hl.2 x hx
      simp only [small, decide_eq_true_eq] at this
      exact this.1
    clear hl
    go_wp2_with (fail)
    refine (pick_any a0 20 (by omega) (by omega) w1).mono ?_
    rintro _ w1 ⟨rfl, rfl⟩
    rw [HR.out]
    go_wp2_with (fail)
    refine (st_new (fun _ => False) BB.out (fun _ h => h.elim) r0 (by omega) (by omega)).mono ?_
    rintro _ w2 ⟨b, rfl, S, T⟩
    have S2 := Lib.hid S
    clear S T BB H1
    have HB : Hid (w.heap.size ≤ w2.heap.size) := S2.out.out.size
    have hmm := @run_makeMap Try.prog
    obtain ⟨av, cap, rfl, hn, hc⟩ := HA'.out.shape
    have HC := Lib.hid hc
    clear hc
    go_wp2_with (fail)
    go_loopg [8] (acts.length) (fun n i wr => ∃ k : Nat, k ≤ acts.length ∧ n = acts.length - k ∧ i = .int .i64 k ∧ LastRel w r0 (.pointer (some ⟨b, 0, none⟩)) acts w2.heap.size k wr)
    case atStart =>
      have T : Below w2.heap.size w2 (w2.alloc (.map #[] 0)) := (Below.refl _ w2).alloc (Nat.le_refl _) _
      refine ⟨0, by omega, by omega, rfl, [], 0, 0, 0, _, ?_, smap_made w2 Try.prog 9, LastInv.start acts, by omega, by omega⟩
      exact (S2.out.more (Y := fun y => y = w2.heap.size) T (fun y hy => by subst hy; rw [hsize_alloc]; omega)).weak (fun y hy => Or.inr hy)
    case round =>
      obtain ⟨k, hk, hnk, rfl, L, h, m, sz, f, R1, R2, R3, R4, R5⟩ := hrel
      have Q1 := Lib.hid R1
      have Q2 := Lib.hid R2
      have Q3 := Lib.hid R3
      clear R1 R2 R3 hmm
      have HW : Hid (RdA wr (.slice av acts.length cap) acts) := Rd.kept HA'.out Q1.out.out
      by_cases hlt : k < acts.length
      · obtain ⟨av', cap', e, _, hc⟩ := HW.out.shape
        obtain ⟨ab, off, rfl, hcap1, hcap2, hab, hcell⟩ := hc (by omega)
        injection e with e1 _ e3
        subst e1 e3
        obtain ⟨c0, c1, c2, c3⟩ := RdA.cells hcell hlt
        clear hc hcell
        generalize hx : acts[k] = x at *
        have HX := Lib.hid hx
        clear hx
        go_upto_region 14 with (fail)
        have hxb : Hid ((wr.alloc (Obj.cells #[Value.int IntKind.i64 x.kind, Value.string x.key, Value.string x.stamp, Value.string x.val] 41)).heap[wr.heap.size]? = some (.cells #[Value.int IntKind.i64 x.kind, Value.string x.key, Value.string x.stamp, Value.string x.val] 41 (0, 0))) := halloc_new _ _
        have B3 : Below wr.heap.size wr (wr.alloc (Obj.cells #[Value.int IntKind.i64 x.kind, Value.string x.key, Value.string x.stamp, Value.string x.val] 41)) := (Below.refl _ wr).alloc (Nat.le_refl _) _
        have S3 := Lib.hid (Q1.out.more (Y := fun y => y = wr.heap.size) B3 (fun y hy => by subst hy; rw [hsize_alloc]; omega))
        have M3 : Hid (smap (wr.alloc (Obj.cells #[Value.int IntKind.i64 x.kind, Value.string x.key, Value.string x.stamp, Value.string x.val] 41)) Try.prog 9 w2.heap.size sz f) := Q2.out.block (B3.block _ Q2.out.lt)
        clear B3 Q1 Q2 HW c0 c1 c2 c3
        have hxlt : Hid (wr.heap.size < (wr.alloc (Obj.cells #[Value.int IntKind.i64 x.kind, Value.string x.key, Value.string x.stamp, Value.string x.val] 41)).heap.size) := by show _ < _; rw [hsize_alloc]; omega
        have hk30 : Hid (x.key.size ≤ maxLen) := by
          have := HS.out x (HX.out ▸ List.getElem_mem hlt)
          show _ ≤ _
          unfold maxLen
          omega
        generalize wr.heap.size = xb at *
        generalize wr.alloc (Obj.cells #[Value.int IntKind.i64 x.kind, Value.string x.key, Value.string x.stamp, Value.string x.val] 41) = w3 at *
        have x0 : w3.cell? ⟨xb, 0, none⟩ = some (.int .i64 x.kind) := cell_of_heap hxb.out rfl
        have x1 : w3.cell? ⟨xb, 1, none⟩ = some (.string x.key) := cell_of_heap hxb.out rfl
        have x2 : w3.cell? ⟨xb, 2, none⟩ = some (.string x.stamp) := cell_of_heap hxb.out rfl
        have x3 : w3.cell? ⟨xb, 3, none⟩ = some (.string x.val) := cell_of_heap hxb.out rfl
        go_wp2_with (fail)
        refine (pick_any x.kind 6 (by omega) (by omega) w3).mono ?_
        rintro _ w3 ⟨rfl, rfl⟩
        have hq0 : 0 ≤ x.kind % 6 ∧ x.kind % 6 < 6 := by omega
        generalize hqe : x.kind % 6 = q at hq0 ⊢
        clear hqe
        dsimp only
        go_step
        go_step
        go_step
        go_step
        go_cut [10, 11, 12] (fun _ _ _ wc => LastRel w r0 (.pointer (some ⟨b, 0, none⟩)) acts w2.heap.size (k + 1) wc)
        case first =>
          rcases hg : pgetV x.key x.stamp L with ⟨gv, gok⟩
          have HG := Lib.hid hg
          clear hg
          by_cases h3 : q = 3
          · subst h3
            have K := Lib.hid (st_get S3.out x.key x.stamp hk30.out (by omega) (by omega) _ gv gok rfl HG.out)
            go_wp2_with (fail)
            refine (K.out).mono ?_
            rintro _ w4 ⟨rfl, S, T⟩
            have S4 := Lib.hid S
            have M4 : Hid (smap w4 Try.prog 9 w2.heap.size sz f) := M3.out.turns T (fun hn => hn (Or.inl rfl))
            have z4 : Hid (w4.heap[xb]? = some (.cells #[Value.int IntKind.i64 x.kind, Value.string x.key, Value.string x.stamp, Value.string x.val] 41 (0, 0))) := (T.block xb hxlt.out (fun hn => hn (Or.inr rfl))).trans hxb.out
            have z1 : w4.cell? ⟨xb, 1, none⟩ = some (.string x.key) := cell_of_heap z4.out rfl
            have z2 : w4.cell? ⟨xb, 2, none⟩ = some (.string x.stamp) := cell_of_heap z4.out rfl
            clear K S T S3 M3 x0 x1 x2 x3
            cases gok with
            | true =>
              obtain ⟨j, hj, hjk, g1, g2, g3⟩ := Q3.out.seen HG.out
              have HL := Lib.hid g1
              have HW4 : Hid (RdA w4 (.slice (some ⟨ab, off, none⟩) acts.length cap) acts) := Rd.kept HA'.out S4.out.out
              obtain ⟨av', cap', e, _, hc⟩ := HW4.out.shape
              obtain ⟨ab', off', e2, _, _, _, hcell⟩ := hc (by omega)
              injection e with e1 _ e3
              rw [← e1] at e2
              injection e2 with e2
              injection e2 with e4 e5 _
              subst e4 e5
              obtain ⟨_, _, j2, j3⟩ := RdA.cells hcell hj
              rw [g2] at j2
              rw [g3] at j3
              have jw : IntKind.i64.wrap (j : Int) = j := Go.IntWalk.i64_in _ (by omega)
              have jn : (((j : Int) + 1) == 0) = false := by rw [beq_eq_false_iff_ne]; omega
              have ja : (0 : Int) ≤ (j : Int) := by omega
              have jb : (j : Int) < (acts.length : Int) := by omega
              clear hc hcell HW4 e1 e3 g1 g2 g3
              go_wp2_with (at_lookup; refine wpList_lookup1_smap _ rfl _ _ 39 rfl 9 3 law9 Try.underlying39 (zero3 _) w2.heap.size sz f rfl M4.out (.string x.key) _ rfl (keyOf_string_mk Try.underlying9 hk30.out) ?_; rw [HL.out])
              go_quiet (fail)
              go_wp2_with (fail)
              go_meet
              case rel => exact LastRel.below (w := w4) ⟨_, h + 1, m, _, _, (by have := S4.out.weak (Y := fun y => y = w2.heap.size) (fun y hy => Or.inl hy); simpa using this), M4.out, Q3.out.get x.key x.stamp, (by omega), (by omega)⟩ ⟨rfl, rfl, rfl, Nat.le_refl _, fun _ _ => rfl⟩
            | false =>
              have hv0 := pgetV_false HG.out
              obtain ⟨j, hj, g1⟩ := Q3.out.look x.key.data.toList
              have HL := Lib.hid g1
              subst hv0
              clear g1
              go_wp2_with (at_lookup; refine wpList_lookup1_smap _ rfl _ _ 39 rfl 9 3 law9 Try.underlying39 (zero3 _) w2.heap.size sz f rfl M4.out (.string x.key) _ rfl (keyOf_string_mk Try.underlying9 hk30.out) ?_; rw [HL.out])
              go_quiet (fail)
              go_wp2_with (fail)
              go_meet
              case rel => exact LastRel.below (w := w4) ⟨_, h, m + 1, _, _, (by have := S4.out.weak (Y := fun y => y = w2.heap.size) (fun y hy => Or.inl hy); simpa using this), M4.out, Q3.out.get x.key x.stamp, (by omega), (by omega)⟩ ⟨rfl, rfl, rfl, Nat.le_refl _, fun _ _ => rfl⟩

          · by_cases h4 : q = 4
            · subst h4
              have K := Lib.hid (st_get S3.out x.key x.stamp hk30.out (by omega) (by omega) _ gv gok rfl HG.out)
              go_wp2_with (fail)
              refine (K.out).mono ?_
              rintro _ w4 ⟨rfl, S, T⟩
              have S4 := Lib.hid S
              have M4 : Hid (smap w4 Try.prog 9 w2.heap.size sz f) := M3.out.turns T (fun hn => hn (Or.inl rfl))
              have z4 : Hid (w4.heap[xb]? = some (.cells #[Value.int IntKind.i64 x.kind, Value.string x.key, Value.string x.stamp, Value.string x.val] 41 (0, 0))) := (T.block xb hxlt.out (fun hn => hn (Or.inr rfl))).trans hxb.out
              have z1 : w4.cell? ⟨xb, 1, none⟩ = some (.string x.key) := cell_of_heap z4.out rfl
              have z2 : w4.cell? ⟨xb, 2, none⟩ = some (.string x.stamp) := cell_of_heap z4.out rfl
              clear K S T S3 M3 x0 x1 x2 x3
              cases gok with
              | true =>
                obtain ⟨j, hj, hjk, g1, g2, g3⟩ := Q3.out.seen HG.out
                have HL := Lib.hid g1
                have HW4 : Hid (RdA w4 (.slice (some ⟨ab, off, none⟩) acts.length cap) acts) := Rd.kept HA'.out S4.out.out
                obtain ⟨av', cap', e, _, hc⟩ := HW4.out.shape
                obtain ⟨ab', off', e2, _, _, _, hcell⟩ := hc (by omega)
                injection e with e1 _ e3
                rw [← e1] at e2
                injection e2 with e2
                injection e2 with e4 e5 _
                subst e4 e5
                obtain ⟨_, _, j2, j3⟩ := RdA.cells hcell hj
                rw [g2] at j2
                rw [g3] at j3
                have jw : IntKind.i64.wrap (j : Int) = j := Go.IntWalk.i64_in _ (by omega)
                have jn : (((j : Int) + 1) == 0) = false := by rw [beq_eq_false_iff_ne]; omega
                have ja : (0 : Int) ≤ (j : Int) := by omega
                have jb : (j : Int) < (acts.length : Int) := by omega
                clear hc hcell HW4 e1 e3 g1 g2 g3
                go_wp2_with (at_lookup; refine wpList_lookup1_smap _ rfl _ _ 39 rfl 9 3 law9 Try.underlying39 (zero3 _) w2.heap.size sz f rfl M4.out (.string x.key) _ rfl (keyOf_string_mk Try.underlying9 hk30.out) ?_; rw [HL.out])
                go_quiet (fail)
                go_wp2_with (fail)
                go_meet
                case rel => exact LastRel.below (w := w4) ⟨_, h + 1, m, _, _, (by have := S4.out.weak (Y := fun y => y = w2.heap.size) (fun y hy => Or.inl hy); simpa using this), M4.out, Q3.out.get x.key x.stamp, (by omega), (by omega)⟩ ⟨rfl, rfl, rfl, Nat.le_refl _, fun _ _ => rfl⟩
              | false =>
                have hv0 := pgetV_false HG.out
                obtain ⟨j, hj, g1⟩ := Q3.out.look x.key.data.toList
                have HL := Lib.hid g1
                subst hv0
                clear g1
                go_wp2_with (at_lookup; refine wpList_lookup1_smap _ rfl _ _ 39 rfl 9 3 law9 Try.underlying39 (zero3 _) w2.heap.size sz f rfl M4.out (.string x.key) _ rfl (keyOf_string_mk Try.underlying9 hk30.out) ?_; rw [HL.out])
                go_quiet (fail)
                go_wp2_with (fail)
                go_meet
                case rel => exact LastRel.below (w := w4) ⟨_, h, m + 1, _, _, (by have := S4.out.weak (Y := fun y => y = w2.heap.size) (fun y hy => Or.inl hy); simpa using this), M4.out, Q3.out.get x.key x.stamp, (by omega), (by omega)⟩ ⟨rfl, rfl, rfl, Nat.le_refl _, fun _ _ => rfl⟩

            · clear HG
              by_cases h5 : q = 5
              · subst h5
                have K := Lib.hid (st_drop S3.out x.key hk30.out _ _ rfl rfl)
                go_wp2_with (fail)
                refine (K.out).mono ?_
                rintro _ w4 ⟨rfl, S, T⟩
                have S4 := Lib.hid S
                have M4 : Hid (smap w4 Try.prog 9 w2.heap.size sz f) := M3.out.turns T (fun hn => hn (Or.inl rfl))
                have z4 : Hid (w4.heap[xb]? = some (.cells #[Value.int IntKind.i64 x.kind, Value.string x.key, Value.string x.stamp, Value.string x.val] 41 (0, 0))) := (T.block xb hxlt.out (fun hn => hn (Or.inr rfl))).trans hxb.out
                have z1 : w4.cell? ⟨xb, 1, none⟩ = some (.string x.key) := cell_of_heap z4.out rfl
                have z2 : w4.cell? ⟨xb, 2, none⟩ = some (.string x.stamp) := cell_of_heap z4.out rfl
                clear K S T S3 M3 x0 x1 x2 x3
                go_wp2_with (at_mapUpdate; refine wpList_mapUpdate_smap _ rfl _ _ _ 39 rfl 9 3 law9 Try.underlying39 w2.heap.size sz f rfl M4.out (by unfold maxLen; omega) (.string x.key) (.int .i64 0) _ rfl rfl (keyOf_string_mk Try.underlying9 hk30.out) ?_; intro w5 M5 t5)
                go_wp2_with (fail)
                go_meet
                case rel => exact ⟨_, _, _, _, _, (S4.out.turns ((Turns.refl (fun y => y = w2.heap.size) w4).grown t5.grown (fun y e _ => by injection e with e; exact e.symm)) (fun y hy => Or.inl hy) (fun y hy => hy ▸ HB.out)).weak (fun y hy => Or.inl hy), M5, Q3.out.drop _, by omega, by split <;> omega⟩

              · skip
                have K := Lib.hid (st_put S3.out x.key x.stamp x.val hk30.out _ rfl)
                go_wp2_with (fail)
                refine (K.out).mono ?_
                rintro _ w4 ⟨rfl, S, T⟩
                have S4 := Lib.hid S
                have M4 : Hid (smap w4 Try.prog 9 w2.heap.size sz f) := M3.out.turns T (fun hn => hn (Or.inl rfl))
                have z4 : Hid (w4.heap[xb]? = some (.cells #[Value.int IntKind.i64 x.kind, Value.string x.key, Value.string x.stamp, Value.string x.val] 41 (0, 0))) := (T.block xb hxlt.out (fun hn => hn (Or.inr rfl))).trans hxb.out
                have z1 : w4.cell? ⟨xb, 1, none⟩ = some (.string x.key) := cell_of_heap z4.out rfl
                have z2 : w4.cell? ⟨xb, 2, none⟩ = some (.string x.stamp) := cell_of_heap z4.out rfl
                clear K S T S3 M3 x0 x1 x2 x3
                have R6 := Q3.out.put hlt r0.toNat
                rw [HX.out] at R6
                go_wp2_with (at_mapUpdate; refine wpList_mapUpdate_smap _ rfl _ _ _ 39 rfl 9 3 law9 Try.underlying39 w2.heap.size sz f rfl M4.out (by unfold maxLen; omega) (.string x.key) (.int .i64 ((k : Int) + 1)) _ rfl rfl (keyOf_string_mk Try.underlying9 hk30.out) ?_; intro w5 M5 t5)
                go_wp2_with (fail)
                go_meet
                case rel => exact ⟨_, _, _, _, _, (S4.out.turns ((Turns.refl (fun y => y = w2.heap.size) w4).grown t5.grown (fun y e _ => by injection e with e; exact e.symm)) (fun y hy => Or.inl hy) (fun y hy => hy ▸ HB.out)).weak (fun y hy => Or.inl hy), M5, R6, by omega, by split <;> omega⟩

        case rest =>
          obtain ⟨L', h', m', sz', f', R1, R2, R3, R4', R5'⟩ := hcut
          have Q1 := Lib.hid R1
          have hl := R1.len
          have N : Hid (LastRel w r0 (.pointer (some ⟨b, 0, none⟩)) acts w2.heap.size (k + 1) wc) := ⟨L', h', m', sz', f', R1, R2, R3, R4', R5'⟩
          clear R1 R2 R3 S3 M3 hxb
          go_step
          go_wp2_with (fail)
          refine (st_len Q1.out).mono ?_
          rintro _ wc ⟨rfl, rfl⟩
          go_wp2_with (fail)
          refine (st_keys Q1.out).mono ?_
          rintro _ w5 ⟨vk, rfl, R, T, NN⟩
          obtain ⟨ka, kc, rfl, _, _⟩ := R.shape
          rw [List.length_map]
          have Q2 := Lib.hid (Q1.out.below T)
          have N2 : Hid (LastRel w r0 (.pointer (some ⟨b, 0, none⟩)) acts w2.heap.size (k + 1) w5) := N.out.below T
          clear N Q1 R T NN
          go_wp2_with (fail)
          refine (st_len Q2.out).mono ?_
          rintro _ w5 ⟨rfl, rfl⟩
          go_wp2_with (fail)
          go_roundg (acts.length - (k + 1))
          case rel => exact ⟨k + 1, by omega, rfl, by go_num, N2.out⟩
          case measure => omega
      · obtain rfl : k = acts.length := by omega
        have BB := Lib.hid Q1.out.out
        clear Q1 Q2 Q3 HW
        go_wp2_with (fail)
        go_ret
        exact ⟨rfl, BB.out⟩

end Go.Proofs.Ytbmkeapebmlggaa
