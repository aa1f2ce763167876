/-
  CacheKeeps: the walk.
-/
import Derived.Test.YtbmkeapebmlggaaLc
namespace Go.Proofs.Ytbmkeapebmlggaa
open Go.RowKit Go.Vs Go.Maps Go.ChangeMaps Go.WideMaps

set_option maxHeartbeats 4000000 in
set_option maxRecDepth 100000 in
theorem keeps_walk (w : World) (a0 a1 a2 : Int) (h0 : (Lit.int .i64 a0).wf = true) (h1 : (Lit.int .i64 a1).wf = true) (h2 : (Lit.int .i64 a2).wf = true) :
    Calls Try.prog 3 #[.int .i64 a0, .int .i64 a1, .int .i64 a2] w (TrueBelow w) := by
  obtain ⟨i0, hi, hz0, hz1, hz2⟩ := info_parts Try.info9
  have HI := Lib.hid hi
  have HZ0 := Lib.hid hz0
  have HZ1 := Lib.hid hz1
  have HZ2 := Lib.hid hz2
  have K1 := Lib.hid (lives_any w)
  clear hi hz0 hz1 hz2
  have hr0 : 0 ≤ a0 % 20 ∧ a0 % 20 < 20 := by omega
  have hn0 : 0 ≤ a1 % 60 ∧ a1 % 60 < 60 := by omega
  generalize hr : a0 % 20 = r0 at hr0
  generalize hn : a1 % 60 = n0 at hn0
  obtain ⟨r, rfl⟩ := Int.eq_ofNat_of_zero_le hr0.1
  obtain ⟨n, rfl⟩ := Int.eq_ofNat_of_zero_le hn0.1
  have hr1 : r < 20 := by omega
  have hn1 : n < 60 := by omega
  have HR := Lib.hid hr
  have HN := Lib.hid hn
  clear hr hn hr0 hn0
  go_enter Try.func3, Try.ntmps3
  go_wp2_with (fail)
  refine (K1.out).mono ?_
  rintro _ w1 ⟨rfl, B1⟩
  have S1 := Lib.hid ((Since.start w).same B1)
  clear B1 K1
  go_wp2_with (fail)
  refine (pick_any a0 20 (by omega) (by omega) w1).mono ?_
  rintro _ w1 ⟨rfl, rfl⟩
  rw [HR.out]
  go_wp2_with (fail)
  refine (pick_any a1 60 (by omega) (by omega) w1).mono ?_
  rintro _ w1 ⟨rfl, rfl⟩
  rw [HN.out]
  go_wp2_with (fail)
  refine (ca_new w1 (1 + (r : Int)) (by omega) (by omega)).mono ?_
  rintro _ w2 ⟨b, rfl, C2, T2⟩
  have S2 := Lib.hid (S1.out.step T2)
  have CC2 := Lib.hid C2
  clear C2 T2
  go_wp2_with (fail)
  go_loopg [9, 10] (n + 1) (fun k v i wr => ∃ j : Nat, j ≤ n + 1 ∧ k = n + 1 - j ∧ i = .int .i64 j ∧ KeepRel w (1 + (r : Int)) (.pointer (some ⟨b, 0, none⟩)) j v wr)
  case atStart => exact ⟨0, by omega, by omega, rfl, keep_start S2.out CC2.out⟩
  case round =>
    obtain ⟨j, hj, hk, rfl, F, R1, R2, R3, R4⟩ := hrel
    have Q1 := Lib.hid R1
    have Q2 := Lib.hid R2
    have Q3 := Lib.hid R3
    have Q4 := Lib.hid R4
    clear R1 R2 R3 R4
    by_cases hlt : j < n + 1
    · go_wp2_with (fail)
      refine (times_int (w := wr) (s := ⟨#[107]⟩) (n := (j : Int) + 1) (by omega) (by omega) (by show ((j : Int) + 1).toNat * 1 ≤ _; omega)).mono ?_
      rintro _ wr ⟨rfl, rfl⟩
      generalize hx : rep ⟨#[107]⟩ ((j : Int) + 1).toNat = x
      have HX := Lib.hid (show x = rep kk (j + 1) by rw [← hx]; rfl)
      clear hx
      go_wp2_with (at_builtin; refine wpList_append_rd _ rfl _ _ 28 rfl 9 i0 (.string ⟨#[]⟩) 1 16 Try.underlying28 HI.out HZ0.out HZ1.out HZ2.out rfl (by decide) _ _ _ rfl (own_turns Q3.out ((Turns.refl (fun _ => False) wr).alloc _) (fun _ _ h => h)) _ 1 _ rfl (rd_new wr #[.string x] 9 1 1 rfl (by unfold maxLen; omega)) (one_str _) (by unfold maxLen; omega) (by omega) ?_; intro v' w3 hown1 hgrow1 hloc1)
      obtain ⟨F3, Q5, Q6, Q7, Q8⟩ := keep_mid HX.out Q1.out Q2.out Q4.out hown1 hgrow1 hloc1
      clear hown1 hgrow1 hloc1 Q1 Q2 Q3 Q4
      have Q9 := Lib.hid Q5
      have Q10 := Lib.hid Q6
      have Q11 := Lib.hid Q7
      have Q12 := Lib.hid Q8
      obtain ⟨a, cap, hv', hm, hc⟩ := (Rd.of_own Q7).shape
      obtain ⟨vb, off, rfl, hc2⟩ := hc (by omega)
      have hcell : w3.cell? ⟨vb, off + j, none⟩ = some (.string (rep kk (j + 1))) := by
        refine hc2 j _ ?_
        rw [keysN_succ]
        simp [keysN_length]
      have hb1 : (j : Int) < (j : Int) + 1 := by omega
      clear Q5 Q6 Q7 Q8 hc hc2
      subst hv'
      have hsz : (rep kk (j + 1)).size ≤ maxLen := by rw [rep_kk_size]; unfold maxLen; omega
      have K3 := Lib.hid (ca_put (Q10.out.drew) (rep kk (j + 1)) ⟨#[115]⟩ (rep kk (j + 1)) hsz)
      clear hsz
      go_still_tail 9, (by kernel_rfl)
      change wpList _ _ _ _ _ w3.drew
      go_wp2_with (go_at_call 12; refine (K3.out).mono ?_; rintro e' w4 ⟨rfl, C4, T4⟩)
      go_roundg (n + 1 - (j + 1))
      case rel => exact ⟨j + 1, by omega, rfl, by go_num, keep_next Q9.out Q11.out Q12.out C4 T4⟩
      case measure => omega
    · obtain rfl : j = n + 1 := by omega
      go_upto_region 14 with (fail)
      go_cut [11] (fun t wc => ThereRel w r (.pointer (some ⟨b, 0, none⟩)) t wc)
      case first =>
        obtain ⟨a, cap, hv', hm, hc⟩ := (Rd.of_own Q3.out).shape
        obtain ⟨vb, off, rfl, hc2⟩ := hc (by omega)
        subst hv'
        obtain ⟨hcap1, hcap2⟩ : n + 1 ≤ cap ∧ cap ≤ 9223372036854775807 := own_cap Q3.out (by omega)
        clear hc hc2
        by_cases hnr : n ≤ r
        · have HE := Lib.hid (there_end (d := 0) (r := r) (p := .pointer (some ⟨b, 0, none⟩)) Q1.out Q2.out Q3.out (Q4.out vb rfl) (by omega) hn1 hcap1 hcap2)
          go_wp2
          go_meet
          case rel => exact HE.out
        · have HE := Lib.hid (there_end (d := 1 + n - (1 + r)) (r := r) (p := .pointer (some ⟨b, 0, none⟩)) Q1.out Q2.out Q3.out (Q4.out vb rfl) (by omega) hn1 hcap1 hcap2)
          go_wp2
          go_meet
          case rel => exact HE.out
      case rest =>
        clear Q1 Q2 Q3 Q4 CC2 S2 S1
        obtain ⟨F, vb, off, cap, T, R1, R2, rfl, R3, R4, R5, R6, t1, t2, t3, t4, t5, t6⟩ := hcut
        have Q1 := Lib.hid R1
        have Q2 := Lib.hid R2
        have Q3 := Lib.hid R3
        have Q6 := Lib.hid R6
        have Q7 := Lib.hid t5
        have Q8 := Lib.hid t6
        have K2 := Lib.hid (ca_keys R2)
        clear R1 R2 R3 R6 t5 t6
        go_wp2_with (fail)
        refine (K2.out).mono ?_
        rintro _ w4 ⟨v4, rfl, X1, X2, X3⟩
        have Y1 := Lib.hid X1
        have Y2 := Lib.hid X2
        have Y3 := Lib.hid X3
        clear X1 X2 X3
        have K3 := Lib.hid (same_any Y1.out (Q3.out.below Y2.out (by intro x hx; cases hx; exact R4)))
        go_wp2_with (fail)
        refine (K3.out).mono ?_
        rintro _ w5 ⟨rfl, q, rfl⟩
        rw [show decide (List.map (fun x => x.1) (List.map ent T) = T) = true from by simp [ent, Function.comp_def]]
        go_wp2_with (fail)
        obtain ⟨k, hk⟩ : ∃ k : Nat, a2 % (T.length : Int) = k := Int.eq_ofNat_of_zero_le (Int.emod_nonneg _ (by omega))
        have hk2 : k < T.length := by have := Int.emod_lt_of_pos a2 (show (0 : Int) < T.length by omega); omega
        refine (pick_any a2 T.length (by omega) (by omega) _).mono ?_
        rintro _ w6 ⟨rfl, rfl⟩
        rw [hk]
        clear hk
        have hc : w4.cell? ⟨vb, off + k, none⟩ = some (.string T[k]) := by
          have h1 := Q3.out.below Y2.out (by intro x hx; cases hx; exact R4)
          obtain ⟨a, cap', e, _, h2⟩ := h1.shape
          obtain ⟨b', off', rfl, h3⟩ := h2 (by omega)
          injection e with e1
          injection e1 with e1
          injection e1 with e1 e2
          subst e1 e2
          exact RdS.cell h3 hk2
        have C4 := Lib.hid ((Q2.out.below Y2.out).drewN q)
        have K4 := Lib.hid (ca_get C4.out T[k] ⟨#[115]⟩ (by have := (Q8.out T[k] (List.getElem_mem _)).1; unfold maxLen; omega) (by omega) (by omega))
        go_wp2_with (fail)
        refine (K4.out).mono ?_
        rw [(pget_there Q7.out hk2).1, (pget_there Q7.out hk2).2]
        rintro _ w7 ⟨rfl, C7, T7⟩
        have RD : RdS w7 (.slice (some ⟨vb, off, none⟩) T.length cap) T := by
          have h1 := Q3.out.below Y2.out (by intro x hx; cases hx; exact R4)
          exact Rd.turns (F := F) (w := w4.drewN q) h1 T7 (by intro x hx; cases hx; exact Q6.out)
        have L7 : vb < w7.heap.size := Nat.lt_of_lt_of_le (Nat.lt_of_lt_of_le R4 Y2.out.size) T7.size
        have S7 : Since w (Fp F (w4.drewN q) w7) w7 := by
          have h1 : Since w F (w4.drewN q) := ⟨(Q1.out.same Y2.out).below.trans ⟨rfl, rfl, rfl, Nat.le_refl _, fun _ _ => rfl⟩, Q1.out.ge⟩
          exact h1.step T7
        have N7 : ¬ Fp F (w4.drewN q) w7 vb := by
          rintro (h | h)
          · exact Q6.out h
          · have h1 : vb < w4.heap.size := Nat.lt_of_lt_of_le R4 Y2.out.size
            have h2 : (w4.drewN q).heap.size = w4.heap.size := rfl
            omega
        have Z1 := Lib.hid C7
        have Z2 := Lib.hid RD
        have Z3 := Lib.hid S7
        have Z4 := Lib.hid N7
        generalize hG : Fp F (w4.drewN q) w7 = G at Z1 Z3 Z4
        clear hG C7 T7 RD S7 N7 Q1 Q2 Q3 Q6 Y1 Y2 Y3 C4 K4 K2 K3
        have hc7 : w7.drew.cell? ⟨vb, off + k, none⟩ = some (.string T[k]) := rds_cell Z2.out hk2
        go_upto_region 19 with (fail)
        go_cut [15] (fun v wc => WantRel w r (.pointer (some ⟨b, 0, none⟩)) (keepWant T k T[k]) (.slice (some ⟨vb, off, none⟩) T.length cap) T v wc)
        case first =>
          have hk3 : (k : Int) < (T.length : Int) := by omega
          have hA := rds_sub Z2.out (lo := 0) (hi := k) (by omega) (by omega)
          obtain ⟨vo, hvo⟩ : ∃ vo : Nat, (if cap = k + 1 then some (⟨vb, off, none⟩ : Addr) else some ⟨vb, off + (k + 1), none⟩) = some ⟨vb, vo, none⟩ := by split <;> exact ⟨_, rfl⟩
          have hB := rds_tail Z2.out hk2 hvo
          have HA : ∀ W, Below w7.heap.size w7 W → RdS W (.slice (some ⟨vb, off, none⟩) k cap) (T.take k) := fun W hW => by
            have : RdS W _ _ := hA.below hW (by intro x hx; cases hx; exact L7)
            simpa only [Nat.add_zero, Nat.sub_zero, List.drop_zero] using this
          have HB : ∀ W, Below w7.heap.size w7 W → RdS W (.slice (some ⟨vb, vo, none⟩) (T.length - (k + 1)) (cap - (k + 1))) (T.drop (k + 1)) := fun W hW => by
            exact Rd.below hB hW (by intro x hx; cases hx; exact L7)
          have B0 : Below w7.heap.size w7 w7.drew := (Below.refl _ _).drew
          have B1 : Below w7.heap.size w7 (w7.alloc (.cells #[.string T[k]] 9)).drew := ((Below.refl _ _).alloc (Nat.le_refl _) _).drew
          have HHA := Lib.hid HA
          have HHB := Lib.hid HB
          have BB0 := Lib.hid B0
          have BB1 := Lib.hid B1
          clear hA hB HA HB B0 B1
          have i1 : IntKind.i64.wrap ((k : Int) + 1) = (k : Int) + 1 := IntWalk.i64_in _ (by omega)
          have i2 : (k : Int) ≤ (cap : Int) := by omega
          have i3 : (0 : Int) ≤ (k : Int) := by omega
          have i4 : (k : Int) + 1 ≤ (T.length : Int) := by omega
          have i5 : (0 : Int) ≤ (k : Int) + 1 := by omega
          have i6 : (k : Int) + 1 ≤ (cap : Int) := by omega
          have i7 : ((k : Int) + 1).toNat = k + 1 := by omega
          have htk : (T.take k).length ≤ 1000000 := by rw [List.length_take]; omega
          go_region_held3 (fun w' => w'.cell? ⟨vb, off + k, none⟩ = some (.string T[k]))
            (first | assumption | (refine cell_alloc_keep ?_; assumption) | (refine cell_alloc_drew_keep ?_; assumption))
            (first
              | (go_at_call 16; refine (own_any (HHA.out _ (by first | exact BB0.out | exact BB1.out)) htk).mono ?_; rintro e' wA ⟨vA, bA, rfl, oA, belA, sA, gA⟩; have stA := St.first (by first | exact BB0.out | exact BB1.out) belA oA sA gA; have hcA : wA.cell? ⟨vb, off + k, none⟩ = some (.string T[k]) := stA.cell L7 hc7)
              | (refine step_append_rd _ rfl _ _ 28 rfl 9 i0 (.string ⟨#[]⟩) 1 16 Try.underlying28 HI.out HZ0.out HZ1.out HZ2.out rfl (by decide) vA (T.take k).length _ rfl stA.own _ _ _ rfl (HHB.out _ stA.below) (str_cells _) (by unfold maxLen; simp; omega) (by simp; omega) ?_; intro vB wB hB gB lB; have stB := stA.app hB gB lB; have hcB : wB.cell? ⟨vb, off + k, none⟩ = some (.string T[k]) := stB.cell L7 hc7)
              | (refine step_append_rd _ rfl _ _ 28 rfl 9 i0 (.string ⟨#[]⟩) 1 16 Try.underlying28 HI.out HZ0.out HZ1.out HZ2.out rfl (by decide) vA (T.take k).length _ rfl (stA.alloc _).own _ _ _ rfl (HHB.out _ (stA.alloc _).below) (str_cells _) (by unfold maxLen; simp; omega) (by simp; omega) ?_; intro vB wB hB gB lB; have stB := (stA.alloc _).app hB gB lB; have hcB : wB.cell? ⟨vb, off + k, none⟩ = some (.string T[k]) := stB.cell L7 hc7)
              | (refine step_append_rd _ rfl _ _ 28 rfl 9 i0 (.string ⟨#[]⟩) 1 16 Try.underlying28 HI.out HZ0.out HZ1.out HZ2.out rfl (by decide) vB _ _ rfl (stB.alloc _).own _ 1 _ rfl (rd_new wB #[.string T[k]] 9 1 1 rfl (by unfold maxLen; omega)) (one_str _) (by unfold maxLen; simp; omega) (by simp; omega) ?_; intro vD wD hD gD lD; have stD := (stB.alloc _).app hD gD lD; have hcD : wD.cell? ⟨vb, off + k, none⟩ = some (.string T[k]) := stD.cell L7 hc7)
              | (refine step_append_rd _ rfl _ _ 28 rfl 9 i0 (.string ⟨#[]⟩) 1 16 Try.underlying28 HI.out HZ0.out HZ1.out HZ2.out rfl (by decide) vB _ _ rfl stB.own _ 1 _ rfl (rdc_mid stA gB) (one_str _) (by unfold maxLen; simp; omega) (by simp; omega) ?_; intro vD wD hD gD lD; have stD := stB.app hD gD lD; have hcD : wD.cell? ⟨vb, off + k, none⟩ = some (.string T[k]) := stD.cell L7 hc7)
              | (refine step_append_rd _ rfl _ _ 28 rfl 9 i0 (.string ⟨#[]⟩) 1 16 Try.underlying28 HI.out HZ0.out HZ1.out HZ2.out rfl (by decide) vB _ _ rfl stB.own _ 1 _ rfl (rdc_old belA gA sA gB) (one_str _) (by unfold maxLen; simp; omega) (by simp; omega) ?_; intro vD wD hD gD lD; have stD := stB.app hD gD lD; have hcD : wD.cell? ⟨vb, off + k, none⟩ = some (.string T[k]) := stD.cell L7 hc7))
          all_goals go_wp2_with (fail)
          all_goals go_meet
          all_goals exact want_end hk2 Z1.out Z2.out Z3.out stD
        case rest =>
          go_step
          exact keeps_20 _ _ r b vb off cap k T _ _ _ _ _ _ _ _ _ _ _ _ _ _ _ _ _ _ _ _ _ _ _ _ _ _ _ _ _ _ _ _ _ _ _ _ _ _ _ _ _ _ _ _ _ _ _ _ _ _ _ _ _ _ _ _ _ _ _ _ _ _ _ _ _ _ _ _ _ _ _ _ _ _ _ _ _ _ _ _ _ _ _ _ _ _ _ _ _ _ _ _ _ _ _ _ _ _ _ _ _ _ _ _ _ _ _ _ _ _ _ _ _ _ _ _ _ _ _ hr1 t1 t2 t3 t4 Q8 hk2 hcut

end Go.Proofs.Ytbmkeapebmlggaa
