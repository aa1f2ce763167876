/-
  CacheStamps: the walk.
-/
import Derived.Test.YtbmkeapebmlggaaSa
import Derived.StillTailTactics
import Derived.BigQuiet
import Derived.IntWalk
import Derived.Deep.DeepCutAuto
import Derived.Test.YtbmkeapebmlggaaSeq
import Derived.Outline
namespace Go.Proofs.Ytbmkeapebmlggaa
open Go.RowKit Go.Vs Go.Maps Go.ChangeMaps Go.WideMaps

theorem zero3' (w : World) : (zeroValue 3).run Try.prog w = .ok (.int .i64 0) w := by kernel_rfl

theorem size9 (w : World) : (sizeOf 9).run Try.prog w = .ok 1 w := by kernel_rfl

/-- The state of the loop: k calls are done. -/
def StRel (a : World) (r R : Int) (p q : Value) (acts : List ActD) (mb : Nat) (k : Nat) (w : World) : Prop :=
  ∃ L M h m h2 m2 sz f, St2 (fun x => x = mb) a w p L r h m q M R h2 m2 ∧ smap w Try.prog 9 mb sz f ∧ LastInv acts k L f ∧ L = trim r.toNat M ∧ (0 ≤ h ∧ 0 ≤ m ∧ h + m ≤ 2 * k) ∧ sz ≤ k

/-- The middle of a round. -/
def StMid (a : World) (r R : Int) (p q : Value) (mb : Nat) (k xb : Nat) (x : ActD) (L M : List Dat) (sz : Nat) (f : List UInt8 → Option Value) (w : World) : Prop :=
  (∃ h m h2 m2, St2 (fun y => y = mb ∨ y = xb) a w p L r h m q M R h2 m2 ∧ (0 ≤ h ∧ 0 ≤ m ∧ h + m ≤ 2 * k + 1)) ∧ smap w Try.prog 9 mb sz f ∧ w.heap[xb]? = some (.cells #[Value.int IntKind.i64 x.kind, Value.string x.key, Value.string x.stamp, Value.string x.val] 41 (0, 0))

theorem StMid.drewN {a w : World} {r R : Int} {p q : Value} {mb k xb : Nat} {x : ActD} {L M : List Dat} {sz : Nat} {f : List UInt8 → Option Value} (s : StMid a r R p q mb k xb x L M sz f w) (n : Nat) : StMid a r R p q mb k xb x L M sz f (w.drewN n) := by
  obtain ⟨⟨h, m, h2, m2, A, B⟩, C, D⟩ := s
  exact ⟨⟨h, m, h2, m2, A.below ⟨rfl, rfl, rfl, Nat.le_refl _, fun _ _ => rfl⟩, B⟩, C.block rfl, D⟩

theorem same_yes {w : World} {va vb : Value} {xs : List ByteArray} (ha : RdS w va xs) (hb : RdS w vb xs) : Calls Try.prog 13 #[va, vb] w fun e w' => e = .returned (.bool true) ∧ Below w.heap.size w w' := by
  refine (same_any ha hb).mono ?_
  rintro _ w' ⟨rfl, k, rfl⟩
  exact ⟨by simp, rfl, rfl, rfl, Nat.le_refl _, fun _ _ => rfl⟩

theorem lt_of_heap {w : World} {b : Nat} {o : Obj} (h : w.heap[b]? = some o) : b < w.heap.size := (Array.getElem?_eq_some_iff.1 h).1

theorem Rd.turns' {F : Nat → Prop} {w w' : World} {size : Nat} {v : Value} {n : Nat} {xs : List Value} (h : Rd w size v n xs) (ht : Turns F w w') (hb : ∀ b, sblk v = some b → b < w.heap.size → ¬ F b) : Rd w' size v n xs :=
  h.cellsOf fun b o u hs hlt hc => by rw [ht.cell (p := ⟨b, o, none⟩) hlt (hb b hs hlt)]; exact hc

set_option maxHeartbeats 4000000 in
set_option maxRecDepth 100000 in
theorem stamps_walk (w : World) (a0 a1 : Int) (v : Value) (acts : List ActD) (HA : RdA w v acts) :
    Calls Try.prog 4 #[.int .i64 a0, .int .i64 a1, v] w (TrueBelow w) := by
  have HA' := Lib.hid HA
  have hr0 : 0 ≤ a0 % 10 ∧ a0 % 10 < 10 := by omega
  have hr1 : 0 ≤ a1 % 10 ∧ a1 % 10 < 10 := by omega
  generalize hr : a0 % 10 = r0 at hr0
  generalize hs : a1 % 10 = r1 at hr1
  have HR := Lib.hid hr
  have HR1 := Lib.hid hs
  clear hr hs HA
  go_enter Try.func4, Try.ntmps4
  go_wp2_with (fail)
  refine (lives_any w).mono ?_
  rintro _ w1 ⟨rfl, B1⟩
  have BB := Lib.hid B1
  have H1 : Hid (RdA w1 v acts) := Rd.kept HA'.out B1
  clear B1
  go_wp2_with (fail)
  refine (light_any H1.out).mono ?_
  rintro _ w1 ⟨rfl, rfl⟩
  cases hl : lightB acts with
  | false =>
    clear hr0 hr1
    go_wp2_with (fail)
    go_ret
    exact ⟨rfl, BB.out⟩
  | true =>
    have h80 : acts.length ≤ 80 := by
      unfold lightB at hl
      simp only [Bool.and_eq_true, decide_eq_true_eq] at hl
      exact hl.1
    have HS : Hid (∀ x ∈ acts, x.key.size ≤ 30 ∧ x.stamp.size ≤ 30) := by
      show ∀ x ∈ acts, x.key.size ≤ 30 ∧ x.stamp.size ≤ 30
      intro x hx
      unfold lightB at hl
      simp only [Bool.and_eq_true] at hl
      have := List.all_eq_true.1 hl.2 x hx
      simp only [small, decide_eq_true_eq] at this
      exact ⟨this.1, this.2.1⟩
    clear hl
    go_wp2_with (fail)
    refine (pick_any a0 10 (by omega) (by omega) w1).mono ?_
    rintro _ w1 ⟨rfl, rfl⟩
    rw [HR.out]
    go_wp2_with (fail)
    refine (pick_any a1 10 (by omega) (by omega) w1).mono ?_
    rintro _ w1 ⟨rfl, rfl⟩
    rw [HR1.out]
    go_wp2_with (fail)
    refine (st_new (fun _ => False) BB.out (fun _ h => h.elim) r0 (by omega) (by omega)).mono ?_
    rintro _ w2 ⟨b, rfl, S, T⟩
    have S2 := Lib.hid S
    clear S T BB H1
    go_wp2_with (fail)
    refine (st2_of S2.out (r0 + r1) (by omega) (by omega)).mono ?_
    rintro _ w3 ⟨b2, rfl, S⟩
    have S3 := Lib.hid S
    clear S S2
    have HB : Hid (w.heap.size ≤ w3.heap.size) := S3.out.out.size
    have hmm := @run_makeMap Try.prog
    obtain ⟨av, cap, rfl, hn, hc⟩ := HA'.out.shape
    have HC := Lib.hid hc
    clear hc
    go_wp2_with (fail)
    go_loopg [12] (acts.length) (fun n i wr => ∃ k : Nat, k ≤ acts.length ∧ n = acts.length - k ∧ i = .int .i64 k ∧ StRel w r0 (r0 + r1) (.pointer (some ⟨b, 0, none⟩)) (.pointer (some ⟨b2, 0, none⟩)) acts w3.heap.size k wr)
    case atStart =>
      have T : Below w3.heap.size w3 (w3.alloc (.map #[] 0)) := (Below.refl _ w3).alloc (Nat.le_refl _) _
      refine ⟨0, by omega, by omega, rfl, [], [], 0, 0, 0, 0, 0, _, ?_, smap_made w3 Try.prog 9, LastInv.start acts, (by unfold trim; simp), by omega, by omega⟩
      exact (S3.out.more (Y := fun y => y = w3.heap.size) T (fun y hy => by subst hy; rw [hsize_alloc]; omega)).weak (fun y hy => Or.inr hy)
    case round =>
      obtain ⟨k, hk, hnk, rfl, L, M, h, m, h2, m2, sz, f, R1, R2, R3, R6, R4, R5⟩ := hrel
      have Q1 := Lib.hid R1
      have Q2 := Lib.hid R2
      have Q3 := Lib.hid R3
      have Q6 := Lib.hid R6
      clear R1 R2 R3 R6 hmm
      have HW : Hid (RdA wr (.slice av acts.length cap) acts) := Rd.kept HA'.out Q1.out.out
      by_cases hlt : k < acts.length
      · obtain ⟨av', cap', e, _, hc⟩ := HW.out.shape
        obtain ⟨ab, off, rfl, hcap1, hcap2, hab, hcell⟩ := hc (by omega)
        injection e with e1 _ e3
        subst e1 e3
        obtain ⟨c0, c1, c2, c3⟩ := RdA.cells hcell hlt
        clear hc hcell
        generalize hx : acts[k] = x at *
        have HX := Lib.hid hx
        clear hx
        go_upto_region 15 with (fail)
        have hxb : Hid ((wr.alloc (Obj.cells #[Value.int IntKind.i64 x.kind, Value.string x.key, Value.string x.stamp, Value.string x.val] 41)).heap[wr.heap.size]? = some (.cells #[Value.int IntKind.i64 x.kind, Value.string x.key, Value.string x.stamp, Value.string x.val] 41 (0, 0))) := halloc_new _ _
        have B3 : Below wr.heap.size wr (wr.alloc (Obj.cells #[Value.int IntKind.i64 x.kind, Value.string x.key, Value.string x.stamp, Value.string x.val] 41)) := (Below.refl _ wr).alloc (Nat.le_refl _) _
        have S4 := Lib.hid (Q1.out.more (Y := fun y => y = wr.heap.size) B3 (fun y hy => by subst hy; rw [hsize_alloc]; omega))
        have M4 : Hid (smap (wr.alloc (Obj.cells #[Value.int IntKind.i64 x.kind, Value.string x.key, Value.string x.stamp, Value.string x.val] 41)) Try.prog 9 w3.heap.size sz f) := Q2.out.block (B3.block _ Q2.out.lt)
        have hmx : w3.heap.size < wr.heap.size := Q2.out.lt
        clear B3 Q1 Q2 HW c0 c1 c2 c3
        have hxlt : Hid (wr.heap.size < (wr.alloc (Obj.cells #[Value.int IntKind.i64 x.kind, Value.string x.key, Value.string x.stamp, Value.string x.val] 41)).heap.size) := by show _ < _; rw [hsize_alloc]; omega
        have hk30 : Hid (x.key.size ≤ maxLen) := by
          have := HS.out x (HX.out ▸ List.getElem_mem hlt)
          show _ ≤ _
          unfold maxLen
          omega
        have hs30 : x.stamp.size ≤ 30 := (HS.out x (HX.out ▸ List.getElem_mem hlt)).2
        generalize wr.heap.size = xb at *
        generalize wr.alloc (Obj.cells #[Value.int IntKind.i64 x.kind, Value.string x.key, Value.string x.stamp, Value.string x.val] 41) = w4 at *
        go_wp2_with (fail)
        refine (st2_keys S4.out).mono ?_
        rintro _ w5 ⟨vk, rfl, R, T, N'⟩
        have RK5 : Hid (RdS w5 vk (L.map (·.1))) := Lib.hid R
        have S5 : Hid (St2 (fun y => (y = w3.heap.size ∨ y = xb) ∨ (sblk vk = some y ∧ w4.heap.size ≤ y ∧ y < w5.heap.size)) w w5 (.pointer (some ⟨b, 0, none⟩)) L r0 h m (.pointer (some ⟨b2, 0, none⟩)) M (r0 + r1) h2 m2) :=
          Lib.hid (S4.out.more (Y := fun y => (sblk vk = some y ∧ w4.heap.size ≤ y ∧ y < w5.heap.size)) T (fun y hy => hy.2))
        have M5 : Hid (smap w5 Try.prog 9 w3.heap.size sz f) := M4.out.block (T.block _ M4.out.lt)
        have z5 : Hid (w5.heap[xb]? = some (.cells #[Value.int IntKind.i64 x.kind, Value.string x.key, Value.string x.stamp, Value.string x.val] 41 (0, 0))) := (T.block xb hxlt.out).trans hxb.out
        have x1 : w5.cell? ⟨xb, 1, none⟩ = some (.string x.key) := cell_of_heap z5.out rfl
        have x2 : w5.cell? ⟨xb, 2, none⟩ = some (.string x.stamp) := cell_of_heap z5.out rfl
        clear R T S4 M4 hxb hxlt
        have NK : Hid (∀ y, sblk vk = some y → w4.heap.size ≤ y) := Lib.hid N'
        clear N'
        have zl5 : Hid (xb < w5.heap.size) := lt_of_heap z5.out
        go_wp2_with (fail)
        rcases hg : pgetV x.key (x.stamp ++ ⟨#[39]⟩) L with ⟨gv, gok⟩
        have HG := Lib.hid hg
        clear hg
        have K := Lib.hid (st2_get S5.out x.key (x.stamp ++ ⟨#[39]⟩) hk30.out (by omega) (by omega) gv gok HG.out)
        refine (K.out).mono ?_
        rintro _ w6 ⟨rfl, S, T⟩
        have S6 := Lib.hid S
        have M6 : Hid (smap w6 Try.prog 9 w3.heap.size sz f) := M5.out.turns T (fun hn => hn (Or.inl (Or.inl rfl)))
        have z6 : Hid (w6.heap[xb]? = some (.cells #[Value.int IntKind.i64 x.kind, Value.string x.key, Value.string x.stamp, Value.string x.val] 41 (0, 0))) := (T.block xb zl5.out (fun hn => hn (Or.inl (Or.inr rfl)))).trans z5.out
        have RK6 : Hid (RdS w6 vk (L.map (·.1))) := Rd.turns' RK5.out T (fun y hy hl hf => hf (Or.inr ⟨hy, NK.out y hy, hl⟩))
        have x1' : w6.cell? ⟨xb, 1, none⟩ = some (.string x.key) := cell_of_heap z6.out rfl
        clear K S T S5 M5 RK5 x1 x2 z5 zl5 NK
        obtain ⟨j, hj, g1⟩ := Q3.out.look x.key.data.toList
        have HL := Lib.hid g1
        clear g1
        go_upto_region 18 with (at_lookup; refine wpList_lookup1_smap _ rfl _ _ 39 rfl 9 3 law9 Try.underlying39 (zero3' _) w3.heap.size sz f rfl M6.out (.string x.key) _ rfl (keyOf_string_mk Try.underlying9 hk30.out) ?_; rw [HL.out])
        go_cut [103] (fun s wc => s = .bool false ∧ StMid w r0 (r0 + r1) (.pointer (some ⟨b, 0, none⟩)) (.pointer (some ⟨b2, 0, none⟩)) w3.heap.size k xb x (pgetL x.key (x.stamp ++ ⟨#[39]⟩) L) M sz f wc)
        case first =>
          cases gok with
          | true =>
            obtain ⟨j', hj', hjk, g1, g2, g3⟩ := Q3.out.seen HG.out
            have hjj : j = j' + 1 := by
              have := HL.out
              rw [g1] at this
              injection this with _ this
              omega
            have HW4 : Hid (RdA w6 (.slice (some ⟨ab, off, none⟩) acts.length cap) acts) := Rd.kept HA'.out S6.out.out
            obtain ⟨av', cap', e, _, hc⟩ := HW4.out.shape
            obtain ⟨ab', off', e2, _, _, _, hcell⟩ := hc (by omega)
            injection e with e1 _ e3
            rw [← e1] at e2
            injection e2 with e2
            injection e2 with e4 e5 _
            subst e4 e5
            obtain ⟨_, _, j2, _⟩ := RdA.cells hcell hj'
            rw [g2] at j2
            have x2' : w6.cell? ⟨xb, 2, none⟩ = some (.string x.stamp) := cell_of_heap z6.out rfl
            have jw : IntKind.i64.wrap ((j : Int) - 1) = (j' : Int) := by rw [show (j : Int) - 1 = j' by omega]; exact Go.IntWalk.i64_in _ (by omega)
            have jn : ((j : Int) == 0) = false := by rw [beq_eq_false_iff_ne]; omega
            have ja : (0 : Int) ≤ (j' : Int) := by omega
            have jb : (j' : Int) < (acts.length : Int) := by omega
            have hm6 : StMid w r0 (r0 + r1) (.pointer (some ⟨b, 0, none⟩)) (.pointer (some ⟨b2, 0, none⟩)) w3.heap.size k xb x (pgetL x.key (x.stamp ++ ⟨#[39]⟩) L) M sz f w6 :=
              ⟨⟨_, _, _, _, S6.out.weak (fun y hy => Or.inl hy), (by simp only [if_true]; omega)⟩, M6.out, z6.out⟩
            have HM := Lib.hid hm6
            clear hc hcell HW4 e1 e3 g1 g2 g3 hjj hm6
            go_quiet (fail)
            go_wp2_with (fail)
            go_meet
            case rel => exact ⟨rfl, HM.out.drewN _⟩
          | false =>
            have hLL := pgetL_false HG.out
            rw [hLL] at S6
            have S7 := Lib.hid (S6.out.below ((Below.refl _ w6).drew))
            have RK7 : Hid (RdS w6.drew vk (L.map (·.1))) := RK6.out
            have Z7 : Hid (w6.drew.heap[xb]? = some (.cells #[Value.int IntKind.i64 x.kind, Value.string x.key, Value.string x.stamp, Value.string x.val] 41 (0, 0))) := z6.out
            have M7 : Hid (smap w6.drew Try.prog 9 w3.heap.size sz f) := M6.out.block rfl
            have HLL := Lib.hid hLL
            clear hLL x1'
            refine wp_region_seq [23, 24] (fun _ => True) (by kernel_rfl) (by kernel_rfl) trivial ?_
            repeat (refine wpSeq_one rfl rfl rfl rfl trivial ?_; apply Exists.intro; refine ⟨fun w' _ => ?_, ?_⟩; (go_wp2_with (fail); exact ⟨rfl, rfl, rfl⟩); skip)
            refine wpSeq_loud rfl ?_
            go_wp2_with (fail)
            refine (st2_keys S7.out).mono ?_
            rintro _ w8 ⟨vk8, rfl, R8, T8, N8⟩
            have R8' := Lib.hid R8
            have T8' := Lib.hid T8
            have RK8 := Lib.hid (Rd.kept RK7.out T8)
            clear R8 T8 N8
            go_wp2_with (fail)
            refine wpSeq_loud rfl ?_
            go_wp2_with (fail)
            refine (same_yes RK8.out R8'.out).mono ?_
            rintro _ w9 ⟨rfl, T9⟩
            have T9' := Lib.hid T9
            clear T9
            go_wp2_with (fail)
            repeat (refine wpSeq_one rfl rfl rfl rfl trivial ?_; apply Exists.intro; refine ⟨fun w' _ => ?_, ?_⟩; (go_wp2_with (fail); exact ⟨rfl, rfl, rfl⟩); skip)
            refine wpSeq_end ?_
            have T8 := T8'.out
            have T9 := T9'.out
            go_wp2_with (fail)
            go_meet
            case rel => 
              rw [HLL.out]
              exact ⟨rfl, ⟨_, _, _, _, ((S7.out.below T8).below T9).weak (fun y hy => Or.inl hy), (by simp only [if_false, Bool.false_eq_true]; omega)⟩, (M7.out.block (T8.block _ M7.out.lt)).block (T9.block _ (Nat.lt_of_lt_of_le M7.out.lt T8.size)), (T9.block _ (Nat.lt_of_lt_of_le (lt_of_heap Z7.out) T8.size)).trans ((T8.block _ (lt_of_heap Z7.out)).trans Z7.out)⟩
        case rest =>
          obtain ⟨rfl, ⟨h', m', h2', m2', R1, R4'⟩, R2, z7⟩ := hcut
          have S7 := Lib.hid R1
          have M7 := Lib.hid R2
          have Z7 := Lib.hid z7
          have y1 : wc.cell? ⟨xb, 1, none⟩ = some (.string x.key) := cell_of_heap z7 rfl
          clear R1 R2 z7 S6 M6 z6 RK6 x1' HG HL hj R4
          go_step
          go_upto_region 21 with (at_mapUpdate; refine wpList_mapUpdate_smap _ rfl _ _ _ 39 rfl 9 3 law9 Try.underlying39 w3.heap.size sz f rfl M7.out (by unfold maxLen; omega) (.string x.key) (.int .i64 ((k : Int) + 1)) _ rfl rfl (keyOf_string_mk Try.underlying9 hk30.out) ?_; intro w8 M8' t8)
          have M8 := Lib.hid M8'
          have T8 := (Turns.refl (fun y => y = w3.heap.size) wc).grown t8.grown (fun y e _ => by injection e with e; exact e.symm)
          have S8 := Lib.hid (S7.out.turns T8 (fun y hy => Or.inl hy) (fun y hy => hy ▸ HB.out))
          have Z8 : Hid (w8.heap[xb]? = some (.cells #[Value.int IntKind.i64 x.kind, Value.string x.key, Value.string x.stamp, Value.string x.val] 41 (0, 0))) := (T8.block xb (lt_of_heap Z7.out) (by omega)).trans Z7.out
          have HP : Hid (pput r0.toNat x.key x.stamp x.val (pgetL x.key (x.stamp ++ ⟨#[39]⟩) L) = pput r0.toNat x.key x.stamp x.val L) := pput_pgetL _ _ _ _ _ _
          have HU : Hid (pput r0.toNat x.key x.stamp x.val L = trim r0.toNat (pput (r0 + r1).toNat x.key x.stamp x.val M)) := put_suffix (by omega) _ _ _ S8.out.dist.2 Q6.out
          have HI : Hid (LastInv acts (k + 1) (pput r0.toNat x.key x.stamp x.val L) (upd f x.key.data.toList (some (.int .i64 ((k : Int) + 1))))) := by
            have := Q3.out.put hlt r0.toNat
            rw [HX.out] at this
            exact this
          have hgp := get_put r0.toNat x.key x.stamp x.val L
          have hg0 := get_put0 x.key x.stamp x.val L
          have x1 : w8.cell? ⟨xb, 1, none⟩ = some (.string x.key) := cell_of_heap Z8.out rfl
          have x2 : w8.cell? ⟨xb, 2, none⟩ = some (.string x.stamp) := cell_of_heap Z8.out rfl
          have x3 : w8.cell? ⟨xb, 3, none⟩ = some (.string x.val) := cell_of_heap Z8.out rfl
          clear S7 M7 Z7 M8' T8 t8 Q3 Q6 y1
          have K := Lib.hid (st2_put S8.out x.key x.stamp x.val hk30.out)
          rw [HP.out] at K
          have G1 := Lib.hid hgp
          have G0 := Lib.hid hg0
          clear hgp hg0
          generalize hL' : pput r0.toNat x.key x.stamp x.val L = L' at *
          have HL' := Lib.hid hL'
          clear hL'
          go_wp2_with (fail)
          refine (K.out).mono ?_
          rintro _ w9 ⟨rfl, S9', T9⟩
          have S9 := Lib.hid S9'
          have M9 := Lib.hid (M8.out.turns T9 (fun hn => hn (Or.inl rfl)))
          have Z9 : Hid (w9.heap[xb]? = some (.cells #[Value.int IntKind.i64 x.kind, Value.string x.key, Value.string x.stamp, Value.string x.val] 41 (0, 0))) := (T9.block xb (lt_of_heap Z8.out) (fun hn => hn (Or.inr rfl))).trans Z8.out
          have v1 : w9.cell? ⟨xb, 1, none⟩ = some (.string x.key) := cell_of_heap Z9.out rfl
          have v2 : w9.cell? ⟨xb, 2, none⟩ = some (.string x.stamp) := cell_of_heap Z9.out rfl
          have v3 : w9.cell? ⟨xb, 3, none⟩ = some (.string x.val) := cell_of_heap Z9.out rfl
          clear K S9' T9 S8 M8 Z8 x1 x2 x3
          have K := Lib.hid (st2_put' S9.out x.key x.stamp x.val hk30.out)
          generalize hM' : pput (r0 + r1).toNat x.key x.stamp x.val M = M' at *
          have HM' := Lib.hid hM'
          clear hM'
          go_wp2_with (fail)
          refine (K.out).mono ?_
          rintro _ w10 ⟨rfl, S10', T10⟩
          have S10 := Lib.hid S10'
          have M10 := Lib.hid (M9.out.turns T10 (fun hn => hn (Or.inl rfl)))
          have Z10 : Hid (w10.heap[xb]? = some (.cells #[Value.int IntKind.i64 x.kind, Value.string x.key, Value.string x.stamp, Value.string x.val] 41 (0, 0))) := (T10.block xb (lt_of_heap Z9.out) (fun hn => hn (Or.inr rfl))).trans Z9.out
          have p1 : w10.cell? ⟨xb, 1, none⟩ = some (.string x.key) := cell_of_heap Z10.out rfl
          have p2 : w10.cell? ⟨xb, 2, none⟩ = some (.string x.stamp) := cell_of_heap Z10.out rfl
          clear K S10' T10 S9 M9 Z9 v1 v2 v3
          by_cases hr : 0 < r0
          · skip
            have HG2 : Hid (pgetV x.key x.stamp L' = (x.val, true) ∧ pgetL x.key x.stamp L' = L') := G1.out (by omega)
            have K := Lib.hid (st2_get S10.out x.key x.stamp hk30.out (by omega) (by omega) x.val true HG2.out.1)
            rw [HG2.out.2] at K
            go_wp2_with (fail)
            refine (K.out).mono ?_
            rintro _ w11 ⟨rfl, S11', T11⟩
            have S11 := Lib.hid S11'
            have M11 := Lib.hid (M10.out.turns T11 (fun hn => hn (Or.inl rfl)))
            have Z11 : Hid (w11.heap[xb]? = some (.cells #[Value.int IntKind.i64 x.kind, Value.string x.key, Value.string x.stamp, Value.string x.val] 41 (0, 0))) := (T11.block xb (lt_of_heap Z10.out) (fun hn => hn (Or.inr rfl))).trans Z10.out
            have q3 : w11.cell? ⟨xb, 3, none⟩ = some (.string x.val) := cell_of_heap Z11.out rfl
            clear K S11' T11 S10 M10 Z10 p1 p2 G0 G1 HG2
            go_wp2_with (fail)
            refine (st2_keys S11.out).mono ?_
            rintro _ w12 ⟨vm, rfl, RM, TM, NM⟩
            have RM12 := Lib.hid RM
            have S12 := Lib.hid (S11.out.below TM)
            have M12 := Lib.hid (M11.out.block (TM.block _ M11.out.lt))
            clear RM TM NM S11 M11 Z11 q3
            go_wp2_with (fail)
            refine (st2_keys' S12.out).mono ?_
            rintro _ w13 ⟨vo, rfl, RO, TO, NO⟩
            have RO13 := Lib.hid RO
            have RM13 : Hid (RdS w13 vm (L'.map (·.1))) := Rd.kept RM12.out TO
            have S13 := Lib.hid (S12.out.below TO)
            have M13 := Lib.hid (M12.out.block (TO.block _ M12.out.lt))
            have hlen : L'.length ≤ M'.length := by
              have := congrArg List.length HU.out
              unfold trim at this
              rw [List.length_drop] at this
              omega
            have hdr : Hid (L'.map (·.1) = (M'.map (·.1)).drop ((M'.map (·.1)).length - (L'.map (·.1)).length)) := by
              show _ = _
              have h1 := HU.out
              unfold trim at h1
              have h2 := congrArg List.length h1
              rw [List.length_drop] at h2
              rw [← List.map_drop, List.length_map, List.length_map]
              conv => lhs; rw [h1]
              congr 2
              omega
            have hl20 : M'.length ≤ 20 := by have := S13.out.len.2; omega
            have hlm : (L'.map (·.1)).length ≤ (M'.map (·.1)).length := by rw [List.length_map, List.length_map]; exact hlen
            have hlo : (M'.map (·.1)).length ≤ 20 := by rw [List.length_map]; exact hl20
            clear RO TO NO RM12 S12 M12 hlen hl20
            have FIN : Hid (∀ W, Below w13.heap.size w13 W → StRel w r0 (r0 + r1) (.pointer (some ⟨b, 0, none⟩)) (.pointer (some ⟨b2, 0, none⟩)) acts w3.heap.size (k + 1) W) := fun W hW =>
              ⟨L', M', _, _, _, _, _, _, (S13.out.below hW).weak (fun y hy => Or.inl hy), M13.out.block (hW.block _ M13.out.lt), HI.out, HU.out, by simp only [if_true]; omega, by split <;> omega⟩
            clear S13 M13 HI HU
            generalize L'.map (·.1) = xs at *
            generalize M'.map (·.1) = ys at *
            obtain ⟨am, cm, rfl, hm1, _⟩ := RM13.out.shape
            obtain ⟨ao, co, rfl, ho1, _⟩ := RO13.out.shape
            go_wp2_with (fail)
            all_goals
              refine (same_yes RM13.out (by first | exact rds_tail1 RO13.out (by omega) hdr.out (by assumption) | exact rds_tail2 RO13.out (by omega) hdr.out (by assumption))).mono ?_
              rintro _ w14 ⟨rfl, B14⟩
              have N14 := Lib.hid (FIN.out _ B14)
              clear FIN B14 RM13 RO13
              go_wp2_with (fail)
              go_roundg (acts.length - (k + 1))
              case rel => exact ⟨k + 1, by omega, rfl, by go_num, N14.out⟩
              case measure => rw [hnk]; exact Nat.sub_lt_sub_left hlt (Nat.lt_succ_self k)
          · have hz : r0.toNat = 0 := by omega
            have HZ := Lib.hid hz
            clear hz
            have HG2 : Hid (pgetV x.key x.stamp L' = (⟨#[]⟩, false) ∧ pgetL x.key x.stamp L' = L') := by rw [← HL'.out, HZ.out]; exact G0.out
            have K := Lib.hid (st2_get S10.out x.key x.stamp hk30.out (by omega) (by omega) ⟨#[]⟩ false HG2.out.1)
            rw [HG2.out.2] at K
            go_wp2_with (fail)
            refine (K.out).mono ?_
            rintro _ w11 ⟨rfl, S11', T11⟩
            have S11 := Lib.hid S11'
            have M11 := Lib.hid (M10.out.turns T11 (fun hn => hn (Or.inl rfl)))
            have Z11 : Hid (w11.heap[xb]? = some (.cells #[Value.int IntKind.i64 x.kind, Value.string x.key, Value.string x.stamp, Value.string x.val] 41 (0, 0))) := (T11.block xb (lt_of_heap Z10.out) (fun hn => hn (Or.inr rfl))).trans Z10.out
            have q3 : w11.cell? ⟨xb, 3, none⟩ = some (.string x.val) := cell_of_heap Z11.out rfl
            clear K S11' T11 S10 M10 Z10 p1 p2 G0 G1 HG2
            go_wp2_with (fail)
            refine (st2_keys S11.out).mono ?_
            rintro _ w12 ⟨vm, rfl, RM, TM, NM⟩
            have RM12 := Lib.hid RM
            have S12 := Lib.hid (S11.out.below TM)
            have M12 := Lib.hid (M11.out.block (TM.block _ M11.out.lt))
            clear RM TM NM S11 M11 Z11 q3
            go_wp2_with (fail)
            refine (st2_keys' S12.out).mono ?_
            rintro _ w13 ⟨vo, rfl, RO, TO, NO⟩
            have RO13 := Lib.hid RO
            have RM13 : Hid (RdS w13 vm (L'.map (·.1))) := Rd.kept RM12.out TO
            have S13 := Lib.hid (S12.out.below TO)
            have M13 := Lib.hid (M12.out.block (TO.block _ M12.out.lt))
            have hlen : L'.length ≤ M'.length := by
              have := congrArg List.length HU.out
              unfold trim at this
              rw [List.length_drop] at this
              omega
            have hdr : Hid (L'.map (·.1) = (M'.map (·.1)).drop ((M'.map (·.1)).length - (L'.map (·.1)).length)) := by
              show _ = _
              have h1 := HU.out
              unfold trim at h1
              have h2 := congrArg List.length h1
              rw [List.length_drop] at h2
              rw [← List.map_drop, List.length_map, List.length_map]
              conv => lhs; rw [h1]
              congr 2
              omega
            have hl20 : M'.length ≤ 20 := by have := S13.out.len.2; omega
            have hlm : (L'.map (·.1)).length ≤ (M'.map (·.1)).length := by rw [List.length_map, List.length_map]; exact hlen
            have hlo : (M'.map (·.1)).length ≤ 20 := by rw [List.length_map]; exact hl20
            clear RO TO NO RM12 S12 M12 hlen hl20
            have FIN : Hid (∀ W, Below w13.heap.size w13 W → StRel w r0 (r0 + r1) (.pointer (some ⟨b, 0, none⟩)) (.pointer (some ⟨b2, 0, none⟩)) acts w3.heap.size (k + 1) W) := fun W hW =>
              ⟨L', M', _, _, _, _, _, _, (S13.out.below hW).weak (fun y hy => Or.inl hy), M13.out.block (hW.block _ M13.out.lt), HI.out, HU.out, by simp only [if_false, Bool.false_eq_true]; omega, by split <;> omega⟩
            clear S13 M13 HI HU
            generalize L'.map (·.1) = xs at *
            generalize M'.map (·.1) = ys at *
            obtain ⟨am, cm, rfl, hm1, _⟩ := RM13.out.shape
            obtain ⟨ao, co, rfl, ho1, _⟩ := RO13.out.shape
            go_wp2_with (fail)
            all_goals
              refine (same_yes RM13.out (by first | exact rds_tail1 RO13.out (by omega) hdr.out (by assumption) | exact rds_tail2 RO13.out (by omega) hdr.out (by assumption))).mono ?_
              rintro _ w14 ⟨rfl, B14⟩
              have N14 := Lib.hid (FIN.out _ B14)
              clear FIN B14 RM13 RO13
              go_wp2_with (fail)
              go_roundg (acts.length - (k + 1))
              case rel => exact ⟨k + 1, by omega, rfl, by go_num, N14.out⟩
              case measure => rw [hnk]; exact Nat.sub_lt_sub_left hlt (Nat.lt_succ_self k)
      · obtain rfl : k = acts.length := by omega
        have BB := Lib.hid Q1.out.out
        clear Q1 Q2 Q3 HW
        go_wp2_with (fail)
        go_ret
        exact ⟨rfl, BB.out⟩

end Go.Proofs.Ytbmkeapebmlggaa
