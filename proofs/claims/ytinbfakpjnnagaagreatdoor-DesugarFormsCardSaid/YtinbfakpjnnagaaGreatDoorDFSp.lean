/-
  Chapter 4: names: the walk.
-/
import Derived.Test.YtinbfakpjnnagaaGreatDoorDFSo
namespace Go.Proofs.YtinbfakpjnnagaaGreatDoor
open Go.RowKit Go.Vs Go.Maps Go.ChangeMaps Go.WideMaps
theorem arg_okay {a : Atm} (h : Atm.okay a) (k : Nat) : Tm.okay (a.arg k) := by
  obtain ⟨_, _, _, g0, g1, g2, g3⟩ := h
  match k with
  | 0 => exact g0
  | 1 => exact g1
  | 2 => exact g2
  | k + 3 => exact g3
theorem Tryz.infoS : (Tryz.prog.info? 9).map (fun i => (i.zero, i.size, i.bytes)) = some (some (.string ⟨#[]⟩), 1, 16) := by kernel_rfl
theorem pnames_in {a : Atm} {v : Bool} {k : Nat} (h1 : (a.arg k).v = v) (h2 : pseen a k k = false) : pnamesK a v (k + 1) = pnamesK a v k ++ [(a.arg k).name] := by
  rw [pnamesK, if_pos ⟨h1, h2⟩]
theorem pnames_out {a : Atm} {v : Bool} {k : Nat} (h : (a.arg k).v ≠ v ∨ pseen a k k = true) : pnamesK a v (k + 1) = pnamesK a v k := by
  rw [pnamesK, if_neg (by rintro ⟨h1, h2⟩; rcases h with h | h; exact h h1; rw [h2] at h; cases h), List.append_nil]
set_option maxHeartbeats 2000000 in
theorem names_any {w : World} {a : Atm} (ha : Atm.okay a) (vb : Bool) : Calls Tryz.prog 53 #[amV a, .bool vb] w fun e w' => ∃ v, e = .returned v ∧ ColS w (pnames a vb) v w' := by
  have X0 : Hid ((w.alloc (.cells a.cells 33)).heap[w.heap.size]? = some (.cells a.cells 33 (0, 0))) := halloc_new w _
  have B0 : Hid (Below w.heap.size w (w.alloc (.cells a.cells 33))) := (Below.refl _ w).alloc (Nat.le_refl _) _
  have HA := Lib.hid ha
  have hc4 := a.count_le
  clear ha
  unfold amV
  go_enter Tryz.func53, Tryz.ntmps53
  go_upto_region 1 with (fail)
  generalize w.alloc (.cells a.cells 33) = w1 at *
  generalize hbx : w.heap.size = bx at *
  have HBX := Lib.hid hbx
  clear hbx
  go_wp2_with (fail)
  go_loopg [5, 6] (a.count) (fun n v i wr => ∃ k : Nat, k ≤ a.count ∧ n = a.count - k ∧ i = .int .i64 k ∧ Aside (ColS w1 (pnamesK a vb k) v wr) ∧ Aside (wr.heap[bx]? = some (.cells a.cells 33 (0, 0))))
  case atStart => exact ⟨0, by omega, by omega, rfl, ⟨World.ownsRow_nil _ _ _ _, Below.refl _ w1, by intro k hk; cases hk⟩, X0.out⟩
  case round =>
    obtain ⟨k, hk, hnk, rfl, hC, hX⟩ := hrel
    have HC := Lib.hid hC.out
    have x0 : wr.cell? ⟨bx, 0, none⟩ = some (.string a.says) := cell_of_heap hX.out rfl
    have x1 : wr.cell? ⟨bx, 1, none⟩ = some (.string a.pred) := cell_of_heap hX.out rfl
    have x2 : wr.cell? ⟨bx, 2, none⟩ = some (.int .i64 a.n) := cell_of_heap hX.out rfl
    have x3 : wr.cell? ⟨bx, 3, none⟩ = some (.bool a.a0.v) := cell_of_heap hX.out rfl
    have x4 : wr.cell? ⟨bx, 4, none⟩ = some (.string a.a0.name) := cell_of_heap hX.out rfl
    have x5 : wr.cell? ⟨bx, 5, none⟩ = some (.bool a.a1.v) := cell_of_heap hX.out rfl
    have x6 : wr.cell? ⟨bx, 6, none⟩ = some (.string a.a1.name) := cell_of_heap hX.out rfl
    have x7 : wr.cell? ⟨bx, 7, none⟩ = some (.bool a.a2.v) := cell_of_heap hX.out rfl
    have x8 : wr.cell? ⟨bx, 8, none⟩ = some (.string a.a2.name) := cell_of_heap hX.out rfl
    have x9 : wr.cell? ⟨bx, 9, none⟩ = some (.bool a.a3.v) := cell_of_heap hX.out rfl
    have x10 : wr.cell? ⟨bx, 10, none⟩ = some (.string a.a3.name) := cell_of_heap hX.out rfl
    have HX := Lib.hid hX.out
    clear hC hX
    have K := Lib.hid (count_any (w := wr) a)
    unfold amV Atm.cells at K
    go_wp2_with (fail)
    refine (K.out).mono ?_
    rintro _ w3 ⟨rfl, B3⟩
    have HC3 := Lib.hid (HC.out.below B3)
    have HX3 := Lib.hid ((B3.block _ (Array.getElem?_eq_some_iff.1 HX.out).1).trans HX.out)
    clear x0 x1 x2 x3 x4 x5 x6 x7 x8 x9 x10 K HC HX B3
    by_cases hlt : k < a.count
    · have jb : (k : Int) < (a.count : Int) := by omega
      go_wp2_with (fail)
      have ja : (0 : Int) ≤ (k : Int) := by omega
      have jk4 : (k : Int) < 4 := by omega
      go_loopg [7, 8] (k) (fun n s j wr2 => ∃ m : Nat, m ≤ k ∧ n = k - m ∧ j = .int .i64 m ∧ s = .bool (pseen a k m) ∧ ∃ q, wr2 = w3.drewN q)
      case atStart => exact ⟨0, by omega, by omega, rfl, by simp [pseen], 0, rfl⟩
      case round =>
        obtain ⟨m, hm, hnm, rfl, rfl, q, rfl⟩ := hrel
        have xk0 : w3.cell? ⟨bx, 3 + k * 2, none⟩ = some (.bool (a.arg k).v) := cell_of_heap HX3.out (arg_at a (by omega)).1
        have xk1 : w3.cell? ⟨bx, 3 + k * 2 + 1, none⟩ = some (.string (a.arg k).name) := cell_of_heap HX3.out (arg_at a (by omega)).2
        have jm0 : (0 : Int) ≤ (m : Int) := by omega
        by_cases hmk : m < k
        · have jmk : (m : Int) < (k : Int) := by omega
          have jm4 : (m : Int) < 4 := by omega
          have xm0 : w3.cell? ⟨bx, 3 + m * 2, none⟩ = some (.bool (a.arg m).v) := cell_of_heap HX3.out (arg_at a (by omega)).1
          have xm1 : w3.cell? ⟨bx, 3 + m * 2 + 1, none⟩ = some (.string (a.arg m).name) := cell_of_heap HX3.out (arg_at a (by omega)).2
          have HN := Lib.hid (pseen_next a k (j := m) (by omega))
          have HQ := fun w => eq_tm (arg_okay HA.out m) (arg_okay HA.out k) w
          unfold tmV at HQ
          generalize pseen a k m = sn at *
          cases sn with
          | true =>
            go_upto_region 9 with (fail)
            go_quiet (fail)
            go_wp2_with (fail)
            go_roundg (k - (m + 1))
            case rel => exact ⟨m + 1, by omega, by omega, by go_num, by rw [HN.out]; rfl, _, rfl⟩
            case measure => omega
          | false =>
            go_upto_region 9 with (fail)
            go_quiet (fail)
            go_wp2_with (fail)
            go_roundg (k - (m + 1))
            case rel => exact ⟨m + 1, by omega, by omega, by go_num, by rw [HN.out]; rfl, _, rfl⟩
            case measure => omega
        · have jmk : (k : Int) ≤ (m : Int) := by omega
          obtain rfl : m = k := by omega
          have HIN := Lib.hid (pnames_in (a := a) (v := vb) (k := m))
          have HOUT := Lib.hid (pnames_out (a := a) (v := vb) (k := m))
          have hPl : (pnamesK a vb m).length ≤ 4 := Nat.le_trans (pnames_len a vb m) (by omega)
          have HCq := Lib.hid (HC3.out.below (below_drawn w3 q))
          have HXq : Hid ((w3.drewN q).heap[bx]? = some (.cells a.cells 33 (0, 0))) := HX3.out
          have xq0 : (w3.drewN q).cell? ⟨bx, 3 + m * 2, none⟩ = some (.bool (a.arg m).v) := xk0
          have xq1 : (w3.drewN q).cell? ⟨bx, 3 + m * 2 + 1, none⟩ = some (.string (a.arg m).name) := xk1
          clear xk0 xk1 HC3 HX3
          generalize w3.drewN q = w4 at *
          generalize pnamesK a vb m = P at *
          generalize hPP : pnamesK a vb (m + 1) = P' at *
          have HPP := Lib.hid hPP
          clear hPP
          generalize a.arg m = t at *
          obtain ⟨tv, tn⟩ := t
          simp only at xq0 xq1
          generalize pseen a m m = sn at *
          have V1 : Hid (Below w4.heap.size w4 (w4.alloc (.cells #[.string tn] 9))) := (Below.refl _ w4).alloc (Nat.le_refl _) _
          obtain ⟨i0, hi, hz0, hz1, hz2⟩ := info_parts Tryz.infoS
          have HI := Lib.hid hi
          have HZ0 := Lib.hid hz0
          have HZ1 := Lib.hid hz1
          have HZ2 := Lib.hid hz2
          clear hi hz0 hz1 hz2
          by_cases hc : tv = vb ∧ sn = false
          · obtain ⟨rfl, rfl⟩ := hc
            have HP : Hid (P' = P ++ [tn]) := HIN.out rfl rfl
            cases tv
            all_goals go_wp2_with (at_builtin; refine wpList_append_rd _ rfl _ _ 22 rfl 9 i0 _ 1 16 Tryz.underlying22 HI.out HZ0.out HZ1.out HZ2.out rfl (by decide) _ _ _ rfl (own_turns HCq.out.1 ((Turns.refl (fun _ => False) w4).alloc _) (fun _ _ h => h)) _ 1 _ rfl (rd_new w4 #[.string tn] 9 1 1 rfl (by unfold maxLen; omega)) (by intro u hu; simp at hu; rw [hu]; rfl) (by unfold maxLen; omega) (by omega) ?_; intro v3 w5 hown hg hloc; have C5 := Lib.hid (HCq.out.push (b := tn) hown hg hloc); clear hown hg hloc)
            all_goals go_roundg (a.count - (m + 1))
            all_goals first | exact ⟨m + 1, by omega, by omega, by go_num, by show ColS _ _ _ _; rw [HPP.out, HP.out]; exact C5.out, (C5.out.2.1.block _ (Array.getElem?_eq_some_iff.1 X0.out).1).trans X0.out⟩ | omega
          · have HP : Hid (P' = P) := HOUT.out (by by_cases h : tv = vb; right; cases sn; exact absurd ⟨h, rfl⟩ hc; rfl; left; exact h)
            cases tv <;> cases vb <;> cases sn <;> simp at hc
            all_goals go_wp2_with (fail)
            all_goals go_roundg (a.count - (m + 1))
            all_goals first | exact ⟨m + 1, by omega, by omega, by go_num, by show ColS _ _ _ _; rw [HPP.out, HP.out]; exact HCq.out, HXq.out⟩ | omega
    · have jb : (a.count : Int) ≤ (k : Int) := by omega
      obtain rfl : k = a.count := by omega
      go_wp2_with (fail)
      go_ret
      have h1 := B0.out.size
      exact ⟨_, rfl, HC3.out.1, (by have := B0.out; rw [← HBX.out] at this; exact this.trans (HC3.out.2.1.mono h1)), fun k hk => Nat.le_trans h1 (HC3.out.2.2 k hk)⟩
end Go.Proofs.YtinbfakpjnnagaaGreatDoor
