/-
  Chapter 4: the contract of Check.
-/
import Derived.Test.YtkkkpbnehpfkkaaSd
namespace Go.Proofs.Ytkkkpbnehpfkkaa
open Go.RowKit Go.Vs Go.Maps Go.ChangeMaps Go.WideMaps

theorem check_next {l : List Bd} {k : Nat} (hk : k < l.length) (hp : ∀ j (h : j < l.length), j < k → pbad l l[j] = false) (hb : pbad l l[k] = false) : ∀ j (h : j < l.length), j < k + 1 → pbad l l[j] = false := by
  intro j h hj
  by_cases e : j = k
  · subst e; exact hb
  · exact hp j h (by omega)

theorem check_yes {l : List Bd} (hr : prises l = true) (hp : ∀ j (h : j < l.length), pbad l l[j] = false) : pcheck l = true := by
  unfold pcheck
  rw [hr, Bool.true_and, List.all_eq_true]
  intro b hb
  obtain ⟨j, hj, rfl⟩ := List.mem_iff_getElem.1 hb
  rw [hp j hj]
  rfl

theorem check_no {l : List Bd} {k : Nat} (hk : k < l.length) (hb : pbad l l[k] = true) : pcheck l = false := by
  unfold pcheck
  rw [List.all_eq_false.2 ⟨l[k], List.getElem_mem hk, by rw [hb]; simp⟩, Bool.and_false]

def errno (b : Bool) : Value := .int .i64 (if b then 0 else 15)

set_option maxHeartbeats 2000000 in
theorem check_any {w : World} {vl : Value} {l : List Bd} (hR : RdB w vl l) (hl : l.length ≤ 1000000) :
    Calls Try.prog 21 #[vl] w fun e w' => e = .returned (errno (pcheck l)) ∧ Below w.heap.size w w' := by
  obtain ⟨a, cap, rfl, hn, hc⟩ := hR.shape
  have HR := Lib.hid hR
  have K := Lib.hid (rises_any hR)
  clear hc hR
  unfold maxLen at hn
  obtain ⟨pr, hpr⟩ : ∃ b, prises l = b := ⟨_, rfl⟩
  have HPR := Lib.hid hpr
  rw [hpr] at K
  clear hpr
  go_enter Try.func21, Try.ntmps21
  go_wp2_with (fail)
  refine (K.out).mono ?_
  rintro _ w1 ⟨rfl, q, rfl⟩
  clear K
  cases pr with
  | false =>
    have HP : Hid (pcheck l = false) := by show _ = _; unfold pcheck; rw [HPR.out, Bool.false_and]
    go_wp2_with (fail)
    go_ret
    exact ⟨by rw [HP.out]; rfl, below_drawn w q⟩
  | true =>
    go_wp2_with (fail)
    go_loopg [12] (l.length) (fun n i wr => ∃ k : Nat, k ≤ l.length ∧ n = l.length - k ∧ i = .int .i64 k ∧ Aside (∀ j (h : j < l.length), j < k → pbad l l[j] = false) ∧ Aside (Below w.heap.size w wr))
    case atStart => exact ⟨0, by omega, by omega, rfl, (by intro j h hj; omega), below_drawn w q⟩
    case round =>
      obtain ⟨k, hk, hnk, rfl, hp, hB⟩ := hrel
      by_cases hlt : k < l.length
      · have R1 : RdB wr (.slice a l.length cap) l := Rd.kept HR.out hB.out
        obtain ⟨a', cap', e, _, hc⟩ := R1.shape
        obtain ⟨g, off, rfl, _, _, _, hcell⟩ := hc (by omega)
        injection e with e1 _ e3
        subst e1 e3
        obtain ⟨c0, c1, c2⟩ := RdB.cells hcell hlt
        have ja : (0 : Int) ≤ (k : Int) := by omega
        have jb : (k : Int) < (l.length : Int) := by omega
        clear hc hcell R1
        have HBN := Lib.hid (check_next hlt hp.out)
        have HBY := Lib.hid (check_no (l := l) hlt)
        clear hp
        generalize l[k] = b at *
        obtain ⟨bv, ⟨tv, tn⟩⟩ := b
        simp only at c0 c1 c2
        have B1 : Below w.heap.size w (wr.alloc (.cells #[.string bv, .bool tv, .string tn] 36)) := hB.out.alloc hB.out.size _
        have K := Lib.hid (get_any (Rd.kept HR.out B1) hl tn)
        have X1 : Hid ((wr.alloc (.cells #[.string bv, .bool tv, .string tn] 36)).heap[wr.heap.size]? = some (.cells #[.string bv, .bool tv, .string tn] 36 (0, 0))) := halloc_new wr _
        have HB1 := Lib.hid B1
        clear B1 hB
        go_wp2_with (fail)
        clear c0 c1 c2
        generalize wr.alloc (.cells #[.string bv, .bool tv, .string tn] 36) = w1 at *
        generalize wr.heap.size = bx at *
        refine (K.out).mono ?_
        rintro _ w3 ⟨rfl, B3⟩
        have X3 : Hid (w3.heap[bx]? = some (.cells #[.string bv, .bool tv, .string tn] 36 (0, 0))) := (B3.block _ (Array.getElem?_eq_some_iff.1 X1.out).1).trans X1.out
        have HB3 := Lib.hid (HB1.out.trans (B3.mono HB1.out.size))
        clear B3 X1 HB1 K
        generalize hg : (pget l tn).getD noTm = gg at *
        obtain ⟨gv, gn⟩ := gg
        clear hg
        generalize hok : (pget l tn).isSome = ok at *
        have HOK := Lib.hid hok
        clear hok
        unfold tmV
        go_upto_region 7 with (fail)
        have X4 : Hid ((w3.alloc (.cells #[.bool gv, .string gn] 24)).heap[bx]? = some (.cells #[.string bv, .bool tv, .string tn] 36 (0, 0))) := (halloc_old w3 _ bx (Array.getElem?_eq_some_iff.1 X3.out).1).trans X3.out
        have B4 : Hid (Below w.heap.size w (w3.alloc (.cells #[.bool gv, .string gn] 24))) := HB3.out.alloc HB3.out.size _
        clear X3 HB3
        generalize w3.alloc (.cells #[.bool gv, .string gn] 24) = w4 at *
        generalize w3.heap.size = bg at *
        have x1 : w4.cell? ⟨bx, 1, none⟩ = some (.bool tv) := cell_of_heap X4.out rfl
        have x2 : w4.cell? ⟨bx, 2, none⟩ = some (.string tn) := cell_of_heap X4.out rfl
        by_cases htn : tn = ⟨#[]⟩
        · have HY : Hid (pcheck l = false) := HBY.out (by unfold pbad; simp [htn])
          subst htn
          go_wp2_with (fail)
          go_ret
          exact ⟨by rw [HY.out]; rfl, B4.out⟩
        · have hq := str_full htn
          by_cases hb : tv = true ∧ ok = true
          · obtain ⟨rfl, rfl⟩ := hb
            have HY : Hid (pcheck l = false) := HBY.out (by unfold pbad; simp [HOK.out])
            clear htn
            go_wp2_with (fail)
            go_ret
            exact ⟨by rw [HY.out]; rfl, B4.out⟩
          · have HN : Hid (∀ j (h : j < l.length), j < k + 1 → pbad l l[j] = false) := HBN.out (by
              unfold pbad
              simp only [htn, decide_false, Bool.false_or]
              rw [HOK.out]
              cases tv <;> cases ok <;> simp_all)
            clear htn HBN HBY HOK
            cases tv with
            | false =>
              go_wp2_with (fail)
              go_roundg (l.length - (k + 1))
              case rel => exact ⟨k + 1, by omega, rfl, by go_num, HN.out, B4.out⟩
              case measure => omega
            | true =>
              have hok : ok = false := by cases ok <;> simp_all
              subst hok
              go_wp2_with (fail)
              go_roundg (l.length - (k + 1))
              case rel => exact ⟨k + 1, by omega, rfl, by go_num, HN.out, B4.out⟩
              case measure => omega
      · have HP : Hid (pcheck l = true) := check_yes HPR.out fun j h => hp.out j h (by omega)
        have HB := Lib.hid hB.out
        clear hp hB
        go_wp2_with (fail)
        go_ret
        exact ⟨by rw [HP.out]; rfl, HB.out⟩

end Go.Proofs.Ytkkkpbnehpfkkaa
