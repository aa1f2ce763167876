/-
  Chapter 4: Restrict.
-/
import Derived.Test.YtkkkpbnehpfkkaaSg
namespace Go.Proofs.Ytkkkpbnehpfkkaa
open Go.RowKit Go.Vs Go.Maps Go.ChangeMaps Go.WideMaps

/-- What has been collected is P, in a slice of the call's own. -/
def ColB (w : World) (P : List Bd) (v : Value) (wr : World) : Prop :=
  wr.ownsRow 0 36 3 v P.length (P.flatMap Bd.enc) ∧ Below w.heap.size w wr ∧ ∀ k, sblk v = some k → w.heap.size ≤ k

theorem ColB.below {w wr w' : World} {P : List Bd} {v : Value} (c : ColB w P v wr) (t : Below wr.heap.size wr w') : ColB w P v w' :=
  ⟨own_turns c.1 (F := fun _ => False) ⟨t.os, t.tape, t.output, t.size, fun k hk _ => t.block k hk⟩ (fun _ _ h => h), c.2.1.trans (t.mono c.2.1.size), c.2.2⟩

theorem ColB.push {w wr w1 : World} {P : List Bd} {v v' : Value} {b : Bd} {t : TypeId} (c : ColB w P v wr)
    (hown : w1.ownsRow 0 36 3 v' (P.length + 1) (P.flatMap Bd.enc ++ (#[Value.string b.var, Value.bool b.t.v, Value.string b.t.name]).toList))
    (hg : (wr.alloc (.cells #[.string b.var, .bool b.t.v, .string b.t.name] t)).grownBy w1 (sblk v)) (hl : sblk v' = sblk v ∨ sblk v' = some (wr.alloc (.cells #[.string b.var, .bool b.t.v, .string b.t.name] t)).heap.size) :
    ColB w (P ++ [b]) v' w1 := by
  refine ⟨by simpa [Bd.enc] using hown, (c.2.1.alloc c.2.1.size _).grown hg (by rw [hsize_alloc]; have := c.2.1.size; omega) c.2.2, fun k hk => ?_⟩
  rcases hl with h | h
  · exact c.2.2 k (h ▸ hk)
  · rw [h] at hk
    injection hk with hk
    rw [hsize_alloc] at hk
    have := c.2.1.size
    omega

theorem bd_one (b : Bd) : ∀ u ∈ (#[Value.string b.var, Value.bool b.t.v, Value.string b.t.name]).toList, u.oneCell' = true := by
  intro u hu
  simp at hu
  rcases hu with rfl | rfl | rfl <;> rfl

theorem restrict_in {l : List Bd} {vars : List ByteArray} {k : Nat} (hk : k < l.length) (h : pin vars l[k].var = true) : prestrict (l.take (k + 1)) vars = prestrict (l.take k) vars ++ [l[k]] := by
  unfold prestrict
  rw [List.take_succ_eq_append_getElem hk, List.filter_append]
  simp [h]

theorem restrict_out {l : List Bd} {vars : List ByteArray} {k : Nat} (hk : k < l.length) (h : pin vars l[k].var = false) : prestrict (l.take (k + 1)) vars = prestrict (l.take k) vars := by
  unfold prestrict
  rw [List.take_succ_eq_append_getElem hk, List.filter_append]
  simp [h]

set_option maxHeartbeats 2000000 in
theorem restrict_any {w : World} {vl vs : Value} {l : List Bd} {vars : List ByteArray} (hR : RdB w vl l) (hl : l.length ≤ 100000) (hV : RdS w vs vars) :
    Calls Try.prog 13 #[vl, vs] w (NewB (prestrict l vars) w) := by
  obtain ⟨a, cap, rfl, hn, _⟩ := hR.shape
  obtain ⟨sa, caps, rfl, _, _⟩ := hV.shape
  obtain ⟨i0, hi, hz0, hz1, hz2⟩ := info_parts Try.infoB
  have HI := Lib.hid hi
  have HZ0 := Lib.hid hz0
  have HZ1 := Lib.hid hz1
  have HZ2 := Lib.hid hz2
  have HR := Lib.hid hR
  have HV := Lib.hid hV
  clear hR hV hi hz0 hz1 hz2
  unfold maxLen at hn
  go_enter Try.func13, Try.ntmps13
  go_wp2
  go_loopg [5, 10] (l.length) (fun n v i wr => ∃ k : Nat, k ≤ l.length ∧ n = l.length - k ∧ i = .int .i64 k ∧ Aside (ColB w (prestrict (l.take k) vars) v wr))
  case atStart => exact ⟨0, by omega, by omega, rfl, (show ColB w (prestrict (l.take 0) vars) _ w from ⟨World.ownsRow_nil _ _ _ _, Below.refl _ _, by intro k hk; cases hk⟩)⟩
  case round =>
    obtain ⟨k, hk, hnk, rfl, hC⟩ := hrel
    have CC := Lib.hid hC.out
    clear hC
    by_cases hlt : k < l.length
    · have R1 : RdB wr (.slice a l.length cap) l := Rd.kept HR.out CC.out.2.1
      obtain ⟨a', cap', e, _, hc⟩ := R1.shape
      obtain ⟨g, off, rfl, _, _, _, hcell⟩ := hc (by omega)
      injection e with e1 _ e3
      subst e1 e3
      obtain ⟨c0, c1, c2⟩ := RdB.cells hcell hlt
      have ja : (0 : Int) ≤ (k : Int) := by omega
      have jb : (k : Int) < (l.length : Int) := by omega
      clear hc hcell R1
      have HIN := Lib.hid (restrict_in (vars := vars) hlt)
      have HOUT := Lib.hid (restrict_out (vars := vars) hlt)
      have hPl : (prestrict (l.take k) vars).length ≤ 100000 := Nat.le_trans (List.length_filter_le _ _) (by rw [List.length_take]; omega)
      generalize prestrict (l.take k) vars = P at *
      generalize hPP : prestrict (l.take (k + 1)) vars = P' at *
      have HPP := Lib.hid hPP
      clear hPP
      generalize l[k] = b at *
      obtain ⟨bv, ⟨tv, tn⟩⟩ := b
      simp only at c0 c1 c2
      have B1 : Below wr.heap.size wr (wr.alloc (.cells #[.string bv, .bool tv, .string tn] 36)) := (Below.refl _ wr).alloc (Nat.le_refl _) _
      have C1 := Lib.hid (CC.out.below B1)
      have X1 : Hid ((wr.alloc (.cells #[.string bv, .bool tv, .string tn] 36)).heap[wr.heap.size]? = some (.cells #[.string bv, .bool tv, .string tn] 36 (0, 0))) := halloc_new wr _
      have K := Lib.hid (contains_any (Rd.kept HV.out C1.out.2.1) bv)
      clear B1 CC
      go_wp2_with (fail)
      clear c0 c1 c2
      generalize wr.alloc (.cells #[.string bv, .bool tv, .string tn] 36) = w1 at *
      generalize wr.heap.size = bx at *
      refine (K.out).mono ?_
      rintro _ w2 ⟨rfl, q, rfl⟩
      have C2 := Lib.hid (C1.out.below (below_drawn w1 q))
      have X2 : Hid ((w1.drewN q).heap[bx]? = some (.cells #[.string bv, .bool tv, .string tn] 36 (0, 0))) := X1.out
      clear C1 X1 K
      generalize w1.drewN q = w2 at *
      have x0 : w2.cell? ⟨bx, 0, none⟩ = some (.string bv) := cell_of_heap X2.out rfl
      have x1 : w2.cell? ⟨bx, 1, none⟩ = some (.bool tv) := cell_of_heap X2.out rfl
      have x2 : w2.cell? ⟨bx, 2, none⟩ = some (.string tn) := cell_of_heap X2.out rfl
      cases hpn : pin vars bv with
      | true =>
        have HP : Hid (P' = P ++ [⟨bv, ⟨tv, tn⟩⟩]) := HIN.out hpn
        clear hpn HIN HOUT
        go_wp2_with (at_builtin; refine wpList_append_rd _ rfl _ _ 22 rfl 36 i0 _ 3 40 Try.underlying22 HI.out HZ0.out HZ1.out HZ2.out rfl (by decide) _ _ _ rfl (own_turns C2.out.1 ((Turns.refl (fun _ => False) w2).alloc _) (fun _ _ h => h)) _ 1 _ rfl (rd_new w2 #[.string bv, .bool tv, .string tn] 36 3 1 rfl (by unfold maxLen; omega)) (bd_one ⟨bv, ⟨tv, tn⟩⟩) (by unfold maxLen; omega) (by omega) ?_; intro v3 w3 hown hg hloc; have C3 := Lib.hid (C2.out.push (b := ⟨bv, ⟨tv, tn⟩⟩) hown hg hloc); clear hown hg hloc)
        go_roundg (l.length - (k + 1))
        case rel => exact ⟨k + 1, by omega, rfl, by go_num, by show ColB _ _ _ _; rw [HPP.out, HP.out]; exact C3.out⟩
        case measure => omega
      | false =>
        have HP : Hid (P' = P) := HOUT.out hpn
        clear hpn HIN HOUT
        go_wp2_with (fail)
        go_roundg (l.length - (k + 1))
        case rel => exact ⟨k + 1, by omega, rfl, by go_num, by show ColB _ _ _ _; rw [HPP.out, HP.out]; exact C2.out⟩
        case measure => omega
    · have hC1 := CC.out
      rw [List.take_of_length_le (by omega)] at hC1
      have HC := Lib.hid hC1
      clear hC1
      clear CC
      go_wp2_with (fail)
      go_ret
      exact ⟨_, rfl, Rd.of_own HC.out.1, HC.out.2.1, HC.out.2.2⟩

end Go.Proofs.Ytkkkpbnehpfkkaa
