/-
  Chapter 4: the kit's LightBindings, Own.
-/
import Derived.Test.YtkkkpbnehpfkkaaSe
namespace Go.Proofs.Ytkkkpbnehpfkkaa
open Go.RowKit Go.Vs Go.Maps Go.ChangeMaps Go.WideMaps

def smallB (b : Bd) : Bool := decide (b.var.size ≤ 300 ∧ b.t.name.size ≤ 300)
def lightBs (l : List Bd) : Bool := decide (l.length ≤ 20) && l.all smallB

theorem lightB_no {l : List Bd} {i : Nat} (hi : i < l.length) (h : smallB l[i] = false) : lightBs l = false := by
  unfold lightBs
  rw [show l.all smallB = false from List.all_eq_false.2 ⟨l[i], List.getElem_mem _, by simp [h]⟩, Bool.and_false]

theorem lightB_next {l : List Bd} {k : Nat} (h : (l.take k).all smallB = true) (hk : k < l.length) (hs : smallB l[k] = true) : (l.take (k + 1)).all smallB = true := by
  rw [List.take_succ_eq_append_getElem hk, List.all_append, h]
  simp [hs]

set_option maxHeartbeats 1000000 in
theorem lightBs_any {w : World} {v : Value} {l : List Bd} (h : RdB w v l) : Calls Try.prog 10 #[v] w fun e w' => e = .returned (.bool (lightBs l)) ∧ w = w' := by
  obtain ⟨a, cap, rfl, hn, hc⟩ := h.shape
  unfold maxLen at hn
  clear h
  by_cases h80 : l.length ≤ 20
  · have HC := Lib.hid hc
    clear hc
    go_enter Try.func10, Try.ntmps10
    go_wp2
    go_loopg [3] (l.length) (fun n i wr => ∃ k : Nat, k ≤ l.length ∧ n = l.length - k ∧ i = .int .i64 k ∧ Aside ((l.take k).all smallB = true) ∧ w = wr)
    case atStart => exact ⟨0, by omega, by omega, rfl, (by simp [Aside]), rfl⟩
    case round =>
      obtain ⟨k, hk, hn, rfl, htk, rfl⟩ := hrel
      by_cases hlt : k < l.length
      · obtain ⟨b, off, rfl, _, _, _, hcell⟩ := HC.out (by omega)
        obtain ⟨c1, _, c2⟩ := RdB.cells hcell hlt
        clear hcell
        have HN := Lib.hid (lightB_next htk.out hlt)
        have HO := Lib.hid (lightB_no hlt)
        clear htk
        generalize l[k] = x at *
        obtain ⟨xv, ⟨tv, tn⟩⟩ := x
        simp only at c1 c2
        by_cases s1 : xv.size ≤ 300
        · by_cases s2 : tn.size ≤ 300
          · have HS := Lib.hid (HN.out (by simp [smallB, s1, s2]))
            go_wp2
            go_roundg (l.length - (k + 1))
            case rel => exact ⟨k + 1, by omega, rfl, by go_num, HS.out, rfl⟩
            case measure => omega
          · have HL := Lib.hid (HO.out (by simp [smallB, s2]))
            go_wp2
            go_ret
            exact ⟨by rw [HL.out]; rfl, rfl⟩
        · have HL := Lib.hid (HO.out (by simp [smallB, s1]))
          go_wp2
          go_ret
          exact ⟨by rw [HL.out]; rfl, rfl⟩
      · have HL : Hid (lightBs l = true) := by
          show _ = _
          have := htk.out
          rw [List.take_of_length_le (by omega)] at this
          simp [lightBs, this, h80]
        clear htk
        go_wp2
        go_ret
        exact ⟨by rw [HL.out]; rfl, rfl⟩
  · have HL : Hid (lightBs l = false) := by show _ = _; simp [lightBs, h80]
    clear hc
    go_enter Try.func10, Try.ntmps10
    go_wp2
    go_ret
    exact ⟨by rw [HL.out]; rfl, rfl⟩

theorem encB_one {l : List Bd} : ∀ u ∈ l.flatMap Bd.enc, u.oneCell' = true := by
  intro u hu
  obtain ⟨x, _, hx⟩ := List.mem_flatMap.1 hu
  simp [Bd.enc] at hx
  rcases hx with rfl | rfl | rfl <;> rfl

theorem Try.infoB : (Try.prog.info? 36).map (fun i => (i.zero, i.size, i.bytes)) = some (some (.agg #[.string ⟨#[]⟩, .bool false, .string ⟨#[]⟩]), 3, 40) := by kernel_rfl

/-- A new slice of bindings comes back; what was there stays. -/
def NewB (l : List Bd) (w : World) (e : Ending) (w' : World) : Prop :=
  ∃ v, e = .returned v ∧ RdB w' v l ∧ Below w.heap.size w w' ∧ ∀ b, sblk v = some b → w.heap.size ≤ b

set_option maxHeartbeats 1000000 in
theorem ownB_any {w : World} {v : Value} {l : List Bd} (h : RdB w v l) (hl : l.length ≤ 1000000) : Calls Try.prog 14 #[v] w (NewB l w) := by
  obtain ⟨i0, hi, hz0, hz1, hz2⟩ := info_parts Try.infoB
  have HR : Hid (RdB (w.alloc (.cells #[] 36)) v l) := Rd.kept h ((Below.refl _ w).alloc (Nat.le_refl _) _)
  have HI := Lib.hid hi
  have HZ0 := Lib.hid hz0
  have HZ1 := Lib.hid hz1
  have HZ2 := Lib.hid hz2
  obtain ⟨a, cap, rfl, _⟩ := h.shape
  clear h hi hz0 hz1 hz2
  go_enter Try.func14, Try.ntmps14
  go_wp2_with (at_builtin; refine wpList_append_rd _ rfl _ _ 22 rfl 36 i0 _ 3 40 Try.underlying22 HI.out HZ0.out HZ1.out HZ2.out rfl (by decide) _ _ _ rfl (own_new w #[] 36 3 0 rfl (by unfold maxLen; omega)) _ _ _ rfl HR.out encB_one (by unfold maxLen; omega) (by omega) ?_; intro v2 w2 hown hg hloc; have HO := Lib.hid hown; have HG := Lib.hid hg; have HL := Lib.hid hloc; clear hown hg hloc)
  go_ret
  refine ⟨_, rfl, ?_, ((Below.refl _ w).alloc (Nat.le_refl _) _).grown HG.out (by rw [hsize_alloc]; omega) (fun k e => by injection e with e; exact Nat.le_of_eq e), fun y hy => ?_⟩
  · have := Rd.of_own HO.out
    unfold RdB
    simpa using this
  · have hy : sblk v2 = some y := hy
    rcases HL.out with e | e
    · rw [e] at hy; injection hy with hy; exact Nat.le_of_eq hy
    · rw [e] at hy; injection hy with hy; rw [hsize_alloc] at hy; omega

end Go.Proofs.Ytkkkpbnehpfkkaa
