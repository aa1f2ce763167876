/-
  CacheScript: the walk.
-/
import Derived.Test.YtbmkeapebmlggaaRe
import Derived.StillTailTactics
import Derived.BigQuiet
import Derived.IntWalk
import Derived.Deep.DeepCutAuto
namespace Go.Proofs.Ytbmkeapebmlggaa
open Go.RowKit Go.Vs Go.Maps Go.ChangeMaps Go.WideMaps

/-- The state of the loop: k calls are done. -/
def ScRel (a : World) (room : Int) (p : Value) (b : Nat) (k : Nat) (w : World) : Prop :=
  ∃ L h m, St3 (fun _ => False) a w p L h m b L h m room ∧ (0 ≤ h ∧ 0 ≤ m ∧ h + m ≤ k)

def RefS (b : Nat) (c : Array Value) (w : World) : Prop := w.heap[b]? = some (.cells c 53 (0, 0))

def BoxS (xb : Nat) (x : ActD) (w : World) : Prop := w.heap[xb]? = some (.cells #[Value.int IntKind.i64 x.kind, Value.string x.key, Value.string x.stamp, Value.string x.val] 41 (0, 0))

theorem BoxS.turns {xb : Nat} {x : ActD} {w w' : World} {F : Nat → Prop} (s : BoxS xb x w) (t : Turns F w w') (h : ¬ F xb) : BoxS xb x w' := (t.block xb (lt_of_heap' s) h).trans s

theorem same_yes' {w : World} {va vb : Value} {xs : List ByteArray} (ha : RdS w va xs) (hb : RdS w vb xs) : Calls Try.prog 13 #[va, vb] w fun e w' => e = .returned (.bool true) ∧ Below w.heap.size w w' := by
  refine (same_any ha hb).mono ?_
  rintro _ w' ⟨rfl, k, rfl⟩
  exact ⟨by simp, rfl, rfl, rfl, Nat.le_refl _, fun _ _ => rfl⟩

set_option maxHeartbeats 4000000 in
set_option maxRecDepth 100000 in
theorem script_walk (w : World) (a0 : Int) (v : Value) (acts : List ActD) (HA : RdA w v acts) :
    Calls Try.prog 7 #[.int .i64 a0, v] w (TrueBelow w) := by
  have HA' := Lib.hid HA
  clear HA
  go_enter Try.func7, Try.ntmps7
  go_wp2_with (fail)
  refine (lives_any w).mono ?_
  rintro _ w1 ⟨rfl, B1⟩
  have BB := Lib.hid B1
  have H1 : Hid (RdA w1 v acts) := Rd.kept HA'.out B1
  clear B1
  go_wp2_with (fail)
  refine (light_any H1.out).mono ?_
  rintro _ w1 ⟨rfl, rfl⟩
  cases hl : lightB acts with
  | false =>
    go_wp2_with (fail)
    go_ret
    exact ⟨rfl, BB.out⟩
  | true =>
    have h80 : acts.length ≤ 80 := by
      unfold lightB at hl
      simp only [Bool.and_eq_true, decide_eq_true_eq] at hl
      exact hl.1
    have HS : Hid (∀ x ∈ acts, x.key.size ≤ 30 ∧ x.stamp.size ≤ 30) := by
      show ∀ x ∈ acts, x.key.size ≤ 30 ∧ x.stamp.size ≤ 30
      intro x hx
      unfold lightB at hl
      simp only [Bool.and_eq_true] at hl
      have := List.all_eq_true.1 hl.2 x hx
      simp only [small, decide_eq_true_eq] at this
      exact ⟨this.1, this.2.1⟩
    clear hl
    by_cases hbad : a0 < 0 ∨ 1000 < a0
    · obtain ⟨av, cap, rfl, hn, hc⟩ := HA'.out.shape
      clear hc
      go_wp2_with (fail)
      refine (new_bad w1 a0 (by omega)).mono ?_
      rintro _ w1 ⟨rfl, rfl⟩
      go_wp2_with (fail)
      refine (ref_new_bad w1 a0 (by omega)).mono ?_
      rintro _ w1 ⟨rfl, rfl⟩
      go_wp2_with (fail)
      go_loopg [9] (0) (fun n i wr => i = .int .i64 0 ∧ w1 = wr)
      case atStart => exact ⟨rfl, rfl⟩
      case round =>
        obtain ⟨rfl, rfl⟩ := hrel
        by_cases h0 : 0 < acts.length
        · go_wp2_with (fail)
          go_ret
          exact ⟨rfl, BB.out⟩
        · go_wp2_with (fail)
          go_ret
          exact ⟨rfl, BB.out⟩
    · have hr0 : 0 ≤ a0 ∧ a0 ≤ 1000 := by omega
      clear hbad
      go_wp2_with (fail)
      refine (st_new (fun _ => False) BB.out (fun _ h => h.elim) a0 (by omega) (by omega)).mono ?_
      rintro _ w2 ⟨b, rfl, S, T⟩
      have S2 := Lib.hid S
      clear S T BB H1
      go_wp2_with (fail)
      refine (st3_new S2.out (by omega) (by omega)).mono ?_
      rintro _ w3 ⟨b2, rfl, S⟩
      have S3 := Lib.hid S
      clear S S2
      obtain ⟨av, cap, rfl, hn, hc⟩ := HA'.out.shape
      have HC := Lib.hid hc
      clear hc
      go_wp2_with (fail)
      go_loopg [9] (acts.length) (fun n i wr => ∃ k : Nat, k ≤ acts.length ∧ n = acts.length - k ∧ i = .int .i64 k ∧ ScRel w a0 (.pointer (some ⟨b, 0, none⟩)) b2 k wr)
      case atStart => exact ⟨0, by omega, by omega, rfl, [], 0, 0, S3.out, by omega⟩
      case round =>
        obtain ⟨k, hk, hnk, rfl, L, h, m, R1, R4⟩ := hrel
        have Q1 := Lib.hid R1
        clear R1
        have HW : Hid (RdA wr (.slice av acts.length cap) acts) := Rd.kept HA'.out Q1.out.out
        by_cases hlt : k < acts.length
        · obtain ⟨av', cap', e, _, hc⟩ := HW.out.shape
          obtain ⟨ab, off, rfl, hcap1, hcap2, hab, hcell⟩ := hc (by omega)
          injection e with e1 _ e3
          subst e1 e3
          obtain ⟨c0, c1, c2, c3⟩ := RdA.cells hcell hlt
          clear hc hcell
          generalize hx : acts[k] = x at *
          have HX := Lib.hid hx
          clear hx
          go_upto_region 13 with (fail)
          have X4 : Hid (BoxS wr.heap.size x (wr.alloc (Obj.cells #[Value.int IntKind.i64 x.kind, Value.string x.key, Value.string x.stamp, Value.string x.val] 41))) := halloc_new _ _
          have B4 : Below wr.heap.size wr (wr.alloc (Obj.cells #[Value.int IntKind.i64 x.kind, Value.string x.key, Value.string x.stamp, Value.string x.val] 41)) := (Below.refl _ wr).alloc (Nat.le_refl _) _
          have S4 : Hid (St3 (fun y => y = wr.heap.size) w (wr.alloc (Obj.cells #[Value.int IntKind.i64 x.kind, Value.string x.key, Value.string x.stamp, Value.string x.val] 41)) (.pointer (some ⟨b, 0, none⟩)) L h m b2 L h m a0) := (Q1.out.more (Y := fun y => y = wr.heap.size) B4 (fun y hy => by subst hy; rw [hsize_alloc]; omega)).weak (fun y hy => Or.inr hy)
          clear B4 Q1 HW c0 c1 c2 c3
          have hk30 : Hid (x.key.size ≤ maxLen) := by
            have := HS.out x (HX.out ▸ List.getElem_mem hlt)
            show _ ≤ _
            unfold maxLen
            omega
          generalize wr.heap.size = xb at *
          generalize wr.alloc (Obj.cells #[Value.int IntKind.i64 x.kind, Value.string x.key, Value.string x.stamp, Value.string x.val] 41) = w4 at *
          have x0 : w4.cell? ⟨xb, 0, none⟩ = some (.int .i64 x.kind) := cell_of_heap X4.out rfl
          go_wp2_with (fail)
          refine (pick_any x.kind 6 (by omega) (by omega) w4).mono ?_
          rintro _ w4 ⟨rfl, rfl⟩
          have hq0 : 0 ≤ x.kind % 6 ∧ x.kind % 6 < 6 := by omega
          generalize hqe : x.kind % 6 = q at hq0 ⊢
          clear hqe x0
          dsimp only
          go_step
          go_step
          go_step
          go_step
          go_cut [11, 12, 13, 14, 15] (fun s _ _ _ _ wc => s = .bool true ∧ ScRel w a0 (.pointer (some ⟨b, 0, none⟩)) b2 (k + 1) wc)
          case first =>
            by_cases h3 : q = 3
            · subst h3
              rcases hg : pgetV x.key x.stamp L with ⟨gv, gok⟩
              have HG := Lib.hid hg
              clear hg
              have hqq := str_eq gv
              have x1 : w4.cell? ⟨xb, 1, none⟩ = some (.string x.key) := cell_of_heap X4.out rfl
              have x2 : w4.cell? ⟨xb, 2, none⟩ = some (.string x.stamp) := cell_of_heap X4.out rfl
              cases gok with
              | true =>
                have K := Lib.hid (st3_get S4.out x.key x.stamp hk30.out (by omega) (by omega) gv true HG.out)
                go_wp2_with (fail)
                refine (K.out).mono ?_
                rintro _ w5 ⟨rfl, S5', T5⟩
                have S5 := Lib.hid S5'
                have X5 : Hid (BoxS xb x w5) := X4.out.turns T5 (fun hn => hn rfl)
                have z1 : w5.cell? ⟨xb, 1, none⟩ = some (.string x.key) := cell_of_heap X5.out rfl
                have z2 : w5.cell? ⟨xb, 2, none⟩ = some (.string x.stamp) := cell_of_heap X5.out rfl
                have K2 := Lib.hid (st3_rget S5.out S4.out.facts.1 S4.out.facts.2.1 x.key x.stamp (by omega) (by omega) gv true HG.out)
                clear K S5' T5 S4 X4 x1 x2
                go_wp2_with (fail)
                refine (K2.out).mono ?_
                rintro _ w6 ⟨rfl, S6', T6⟩
                have S6 := Lib.hid S6'
                clear K2 S6' T6 S5 X5 z1 z2
                go_wp2_with (fail)
                go_meet
                case rel => exact ⟨rfl, _, _, _, S6.out.weak (fun _ hf => hf.elim), by simp only [if_true]; omega⟩
              | false =>
                have K := Lib.hid (st3_get S4.out x.key x.stamp hk30.out (by omega) (by omega) gv false HG.out)
                go_wp2_with (fail)
                refine (K.out).mono ?_
                rintro _ w5 ⟨rfl, S5', T5⟩
                have S5 := Lib.hid S5'
                have X5 : Hid (BoxS xb x w5) := X4.out.turns T5 (fun hn => hn rfl)
                have z1 : w5.cell? ⟨xb, 1, none⟩ = some (.string x.key) := cell_of_heap X5.out rfl
                have z2 : w5.cell? ⟨xb, 2, none⟩ = some (.string x.stamp) := cell_of_heap X5.out rfl
                have K2 := Lib.hid (st3_rget S5.out S4.out.facts.1 S4.out.facts.2.1 x.key x.stamp (by omega) (by omega) gv false HG.out)
                clear K S5' T5 S4 X4 x1 x2
                go_wp2_with (fail)
                refine (K2.out).mono ?_
                rintro _ w6 ⟨rfl, S6', T6⟩
                have S6 := Lib.hid S6'
                clear K2 S6' T6 S5 X5 z1 z2
                go_wp2_with (fail)
                go_meet
                case rel => exact ⟨rfl, _, _, _, S6.out.weak (fun _ hf => hf.elim), by simp only [if_false, Bool.false_eq_true]; omega⟩
            · by_cases h4 : q = 4
              · subst h4
                rcases hg : pgetV x.key x.stamp L with ⟨gv, gok⟩
                have HG := Lib.hid hg
                clear hg
                have hqq := str_eq gv
                have x1 : w4.cell? ⟨xb, 1, none⟩ = some (.string x.key) := cell_of_heap X4.out rfl
                have x2 : w4.cell? ⟨xb, 2, none⟩ = some (.string x.stamp) := cell_of_heap X4.out rfl
                cases gok with
                | true =>
                  have K := Lib.hid (st3_get S4.out x.key x.stamp hk30.out (by omega) (by omega) gv true HG.out)
                  go_wp2_with (fail)
                  refine (K.out).mono ?_
                  rintro _ w5 ⟨rfl, S5', T5⟩
                  have S5 := Lib.hid S5'
                  have X5 : Hid (BoxS xb x w5) := X4.out.turns T5 (fun hn => hn rfl)
                  have z1 : w5.cell? ⟨xb, 1, none⟩ = some (.string x.key) := cell_of_heap X5.out rfl
                  have z2 : w5.cell? ⟨xb, 2, none⟩ = some (.string x.stamp) := cell_of_heap X5.out rfl
                  have K2 := Lib.hid (st3_rget S5.out S4.out.facts.1 S4.out.facts.2.1 x.key x.stamp (by omega) (by omega) gv true HG.out)
                  clear K S5' T5 S4 X4 x1 x2
                  go_wp2_with (fail)
                  refine (K2.out).mono ?_
                  rintro _ w6 ⟨rfl, S6', T6⟩
                  have S6 := Lib.hid S6'
                  clear K2 S6' T6 S5 X5 z1 z2
                  go_wp2_with (fail)
                  go_meet
                  case rel => exact ⟨rfl, _, _, _, S6.out.weak (fun _ hf => hf.elim), by simp only [if_true]; omega⟩
                | false =>
                  have K := Lib.hid (st3_get S4.out x.key x.stamp hk30.out (by omega) (by omega) gv false HG.out)
                  go_wp2_with (fail)
                  refine (K.out).mono ?_
                  rintro _ w5 ⟨rfl, S5', T5⟩
                  have S5 := Lib.hid S5'
                  have X5 : Hid (BoxS xb x w5) := X4.out.turns T5 (fun hn => hn rfl)
                  have z1 : w5.cell? ⟨xb, 1, none⟩ = some (.string x.key) := cell_of_heap X5.out rfl
                  have z2 : w5.cell? ⟨xb, 2, none⟩ = some (.string x.stamp) := cell_of_heap X5.out rfl
                  have K2 := Lib.hid (st3_rget S5.out S4.out.facts.1 S4.out.facts.2.1 x.key x.stamp (by omega) (by omega) gv false HG.out)
                  clear K S5' T5 S4 X4 x1 x2
                  go_wp2_with (fail)
                  refine (K2.out).mono ?_
                  rintro _ w6 ⟨rfl, S6', T6⟩
                  have S6 := Lib.hid S6'
                  clear K2 S6' T6 S5 X5 z1 z2
                  go_wp2_with (fail)
                  go_meet
                  case rel => exact ⟨rfl, _, _, _, S6.out.weak (fun _ hf => hf.elim), by simp only [if_false, Bool.false_eq_true]; omega⟩
              · have S5 := Lib.hid (S4.out.below (Below.refl _ w4).drew)
                have X5 : Hid (BoxS xb x w4.drew) := X4.out
                have DF := Lib.hid S4.out.facts
                clear S4 X4
                by_cases h5 : q = 5
                · subst h5
                  go_wp2_with (fail)
                  refine wp_region_ord 1000 [3, 7] [0, 1, 2, 4, 5, 6, 3, 7, 8, 9] (BoxS xb x) (by kernel_rfl) (by kernel_rfl) X5.out ?_
                  iterate 6 (refine wpOrd_one rfl rfl rfl rfl rfl X5.out ?_; apply Exists.intro; refine ⟨fun w' hS' => ?_, ?_⟩; (have x1 : w'.cell? ⟨xb, 1, none⟩ = some (.string x.key) := cell_of_heap hS' rfl; have x2 : w'.cell? ⟨xb, 2, none⟩ = some (.string x.stamp) := cell_of_heap hS' rfl; have x3 : w'.cell? ⟨xb, 3, none⟩ = some (.string x.val) := cell_of_heap hS' rfl; go_wp2_with (fail); exact ⟨rfl, rfl, rfl⟩); skip)
                  have K := Lib.hid (st3_drop S5.out x.key hk30.out)
                  generalize hpf : (pfind x.key L).isSome = pf at *
                  have HPF := Lib.hid hpf
                  clear hpf
                  refine wpOrd_loud rfl rfl ?_
                  go_wp2_with (fail)
                  refine (K.out).mono ?_
                  rintro _ w6 ⟨rfl, S6', T6⟩
                  have S6 := Lib.hid S6'
                  have X6 : Hid (BoxS xb x w6) := X5.out.turns T6 (fun hn => hn rfl)
                  have K2 := Lib.hid (st3_rdrop S6.out DF.out.1 (by have := DF.out.2.1; omega) x.key)
                  rw [HPF.out] at K2
                  clear K S6' T6 S5 X5
                  go_wp2_with (fail)
                  refine ⟨fun _ => X6.out, ?_⟩
                  refine wpOrd_loud rfl rfl ?_
                  go_wp2_with (fail)
                  refine (K2.out).mono ?_
                  rintro _ w7 ⟨rfl, S7', T7⟩
                  have S7 := Lib.hid S7'
                  have X7 : Hid (BoxS xb x w7) := X6.out.turns T7 (fun hn => hn rfl)
                  clear K2 S7' T7 S6 X6
                  go_wp2_with (fail)
                  refine ⟨fun _ => X7.out, ?_⟩
                  cases pf
                  all_goals
                    iterate 2 (refine wpOrd_one rfl rfl rfl rfl rfl X7.out ?_; apply Exists.intro; refine ⟨fun w' hS' => ?_, ?_⟩; (have x1 : w'.cell? ⟨xb, 1, none⟩ = some (.string x.key) := cell_of_heap hS' rfl; have x2 : w'.cell? ⟨xb, 2, none⟩ = some (.string x.stamp) := cell_of_heap hS' rfl; have x3 : w'.cell? ⟨xb, 3, none⟩ = some (.string x.val) := cell_of_heap hS' rfl; go_wp2_with (fail); exact ⟨rfl, rfl, rfl⟩); skip)
                    refine wpOrd_end ?_
                    go_wp2_with (fail)
                    go_meet
                    case rel => exact ⟨rfl, _, _, _, S7.out.weak (fun _ hf => hf.elim), by omega⟩
                · go_wp2_with (fail)
                  refine wp_region_ord 1000 [7, 15] [0, 1, 2, 3, 4, 5, 6, 8, 9, 10, 11, 12, 13, 14, 7, 15, 16, 17] (BoxS xb x) (by kernel_rfl) (by kernel_rfl) X5.out ?_
                  iterate 14 (refine wpOrd_one rfl rfl rfl rfl rfl X5.out ?_; apply Exists.intro; refine ⟨fun w' hS' => ?_, ?_⟩; (have x1 : w'.cell? ⟨xb, 1, none⟩ = some (.string x.key) := cell_of_heap hS' rfl; have x2 : w'.cell? ⟨xb, 2, none⟩ = some (.string x.stamp) := cell_of_heap hS' rfl; have x3 : w'.cell? ⟨xb, 3, none⟩ = some (.string x.val) := cell_of_heap hS' rfl; go_wp2_with (fail); exact ⟨rfl, rfl, rfl⟩); skip)
                  have K := Lib.hid (st3_put S5.out x.key x.stamp x.val hk30.out)
                  refine wpOrd_loud rfl rfl ?_
                  go_wp2_with (fail)
                  refine (K.out).mono ?_
                  rintro _ w6 ⟨rfl, S6', T6⟩
                  have S6 := Lib.hid S6'
                  have X6 : Hid (BoxS xb x w6) := X5.out.turns T6 (fun hn => hn rfl)
                  have K2 := Lib.hid (st3_rput S6.out DF.out.1 (by have := DF.out.2.2.1; omega) x.key x.stamp x.val)
                  clear K S6' T6 S5 X5
                  go_wp2_with (fail)
                  refine ⟨fun _ => X6.out, ?_⟩
                  refine wpOrd_loud rfl rfl ?_
                  go_wp2_with (fail)
                  refine (K2.out).mono ?_
                  rintro _ w7 ⟨rfl, S7', T7⟩
                  have S7 := Lib.hid S7'
                  have X7 : Hid (BoxS xb x w7) := X6.out.turns T7 (fun hn => hn rfl)
                  clear K2 S7' T7 S6 X6
                  go_wp2_with (fail)
                  refine ⟨fun _ => X7.out, ?_⟩
                  iterate 2 (refine wpOrd_one rfl rfl rfl rfl rfl X7.out ?_; apply Exists.intro; refine ⟨fun w' hS' => ?_, ?_⟩; (have x1 : w'.cell? ⟨xb, 1, none⟩ = some (.string x.key) := cell_of_heap hS' rfl; have x2 : w'.cell? ⟨xb, 2, none⟩ = some (.string x.stamp) := cell_of_heap hS' rfl; have x3 : w'.cell? ⟨xb, 3, none⟩ = some (.string x.val) := cell_of_heap hS' rfl; go_wp2_with (fail); exact ⟨rfl, rfl, rfl⟩); skip)
                  refine wpOrd_end ?_
                  go_wp2_with (fail)
                  go_meet
                  case rel => exact ⟨rfl, _, _, _, S7.out.weak (fun _ hf => hf.elim), by omega⟩
          case rest =>
            obtain ⟨rfl, L', h', m', R1, R4'⟩ := hcut
            have S7 := Lib.hid R1
            clear R1 S4 X4 R4
            go_step
            go_wp2_with (fail)
            refine (st3_hits S7.out).mono ?_
            rintro _ w8 ⟨rfl, hw8⟩
            have D8 : Below wc.heap.size wc w8 := hw8 ▸ (Below.refl _ wc).drew
            have S8 := Lib.hid (S7.out.below D8)
            clear hw8 D8 S7
            go_wp2_with (fail)
            obtain ⟨vL, hb8, hR8⟩ := S8.out.ref
            obtain ⟨aL, cL, rfl, _⟩ := hR8.shape
            have S9 := Lib.hid (S8.out.below (Below.refl _ w8).drew)
            have HR9 : Hid (RefS b2 #[.slice aL L'.length cL, .int .i64 a0, .int .i64 h', .int .i64 m'] w8.drew) := hb8
            have hlen : L'.length ≤ 1000 := S9.out.facts.2.1
            clear hb8 hR8 S8
            refine wp_region_ord 1000 [4, 14, 16, 17] [0, 1, 2, 3, 5, 6, 7, 8, 9, 4, 10, 11, 12, 13, 15, 14, 16, 17, 18, 19, 20, 21, 22, 23, 24, 25, 26, 27, 28, 29, 30, 31, 32, 33, 34, 35] (RefS b2 #[.slice aL L'.length cL, .int .i64 a0, .int .i64 h', .int .i64 m']) (by kernel_rfl) (by kernel_rfl) HR9.out ?_
            iterate 9 (refine wpOrd_one rfl rfl rfl rfl rfl HR9.out ?_; apply Exists.intro; refine ⟨fun w' hS' => ?_, ?_⟩; (have y0 : w'.cell? ⟨b2, 0, none⟩ = some (.slice aL L'.length cL) := cell_of_heap hS' rfl; have y2 : w'.cell? ⟨b2, 2, none⟩ = some (.int .i64 h') := cell_of_heap hS' rfl; have y3 : w'.cell? ⟨b2, 3, none⟩ = some (.int .i64 m') := cell_of_heap hS' rfl; go_wp2_with (fail); exact ⟨rfl, rfl, rfl⟩); skip)
            have K := Lib.hid (st3_len S9.out)
            refine wpOrd_loud rfl rfl ?_
            go_wp2_with (fail)
            refine (K.out).mono ?_
            rintro _ _ ⟨rfl, rfl⟩
            clear K
            go_wp2_with (fail)
            refine ⟨fun _ => HR9.out, ?_⟩
            iterate 5 (refine wpOrd_one rfl rfl rfl rfl rfl HR9.out ?_; apply Exists.intro; refine ⟨fun w' hS' => ?_, ?_⟩; (have y0 : w'.cell? ⟨b2, 0, none⟩ = some (.slice aL L'.length cL) := cell_of_heap hS' rfl; have y2 : w'.cell? ⟨b2, 2, none⟩ = some (.int .i64 h') := cell_of_heap hS' rfl; have y3 : w'.cell? ⟨b2, 3, none⟩ = some (.int .i64 m') := cell_of_heap hS' rfl; go_wp2_with (fail); exact ⟨rfl, rfl, rfl⟩); skip)
            have K := Lib.hid (st3_keys S9.out)
            refine wpOrd_loud rfl rfl ?_
            go_wp2_with (fail)
            refine (K.out).mono ?_
            rintro _ w10 ⟨vk, rfl, R10', T10, _⟩
            have R10 := Lib.hid R10'
            have S10 := Lib.hid (S9.out.below T10)
            have HR10 : Hid (RefS b2 #[.slice aL L'.length cL, .int .i64 a0, .int .i64 h', .int .i64 m'] w10) := (T10.block b2 (lt_of_heap' HR9.out)).trans HR9.out
            clear K R10' T10 S9 HR9
            go_wp2_with (fail)
            refine ⟨fun _ => HR10.out, ?_⟩
            have K := Lib.hid (st3_rkeys S10.out (by omega))
            refine wpOrd_loud rfl rfl ?_
            go_wp2_with (fail)
            refine (K.out).mono ?_
            rintro _ w11 ⟨vo, rfl, R11', T11, _⟩
            have R11 := Lib.hid R11'
            have RK11 : Hid (RdS w11 vk (L'.map (·.1))) := Rd.kept R10.out T11
            have S11 := Lib.hid (S10.out.below T11)
            have HR11 : Hid (RefS b2 #[.slice aL L'.length cL, .int .i64 a0, .int .i64 h', .int .i64 m'] w11) := (T11.block b2 (lt_of_heap' HR10.out)).trans HR10.out
            clear K R11' T11 S10 HR10 R10
            go_wp2_with (fail)
            refine ⟨fun _ => HR11.out, ?_⟩
            have K := Lib.hid (same_yes' RK11.out R11.out)
            refine wpOrd_loud rfl rfl ?_
            go_wp2_with (fail)
            refine (K.out).mono ?_
            rintro _ w12 ⟨rfl, T12⟩
            have S12 := Lib.hid (S11.out.below T12)
            have HR12 : Hid (RefS b2 #[.slice aL L'.length cL, .int .i64 a0, .int .i64 h', .int .i64 m'] w12) := (T12.block b2 (lt_of_heap' HR11.out)).trans HR11.out
            clear K T12 S11 HR11 R11 RK11
            go_wp2_with (fail)
            refine ⟨fun _ => HR12.out, ?_⟩
            iterate 18 (refine wpOrd_one rfl rfl rfl rfl rfl HR12.out ?_; apply Exists.intro; refine ⟨fun w' hS' => ?_, ?_⟩; (have y0 : w'.cell? ⟨b2, 0, none⟩ = some (.slice aL L'.length cL) := cell_of_heap hS' rfl; have y2 : w'.cell? ⟨b2, 2, none⟩ = some (.int .i64 h') := cell_of_heap hS' rfl; have y3 : w'.cell? ⟨b2, 3, none⟩ = some (.int .i64 m') := cell_of_heap hS' rfl; go_wp2_with (fail); exact ⟨rfl, rfl, rfl⟩); skip)
            refine wpOrd_end ?_
            go_wp2_with (fail)
            go_roundg (acts.length - (k + 1))
            case rel => exact ⟨k + 1, by omega, rfl, by go_num, L', h', m', S12.out, by omega⟩
            case measure => rw [hnk]; exact Nat.sub_lt_sub_left hlt (Nat.lt_succ_self k)
        · obtain rfl : k = acts.length := by omega
          have BB := Lib.hid Q1.out.out
          clear Q1 HW
          go_wp2_with (fail)
          go_ret
          exact ⟨rfl, BB.out⟩

end Go.Proofs.Ytbmkeapebmlggaa
