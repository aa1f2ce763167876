/-
  Chapter 4: A.
-/
import Derived.Test.YtaeehadibckcjaaDoorSk
namespace Go.Proofs.YtaeehadibckcjaaDoor
open Go.RowKit Go.Vs Go.Maps Go.ChangeMaps Go.WideMaps

/-- What A has made: the result's place, the atom. -/
def MkS (W : World) (g : Nat → Tm) (a : Atm) (k : Nat) (w : World) : Prop :=
  Below W.heap.size W w ∧ w.heap[W.heap.size + 1]? = some (.cells (a.fill g k).cells 42 (0, 0)) ∧ ∃ r : Atm, w.heap[W.heap.size]? = some (.cells r.cells 42 (0, 0))

theorem mk_keep {W w w' : World} {g : Nat → Tm} {a : Atm} {k : Nat} (S : MkS W g a k w) (B : Below w.heap.size w w') : MkS W g a k w' := by
  obtain ⟨h1, h2, r, h3⟩ := S
  exact ⟨h1.trans (B.mono h1.size), (B.block _ (Array.getElem?_eq_some_iff.1 h2).1).trans h2, r, (B.block _ (Array.getElem?_eq_some_iff.1 h3).1).trans h3⟩

/-- In mid-turn: the new term stands, not yet marked. -/
def MidS (W : World) (g : Nat → Tm) (a : Atm) (k : Nat) (n : ByteArray) (w : World) : Prop :=
  Below W.heap.size W w ∧ w.heap[W.heap.size + 1]? = some (.cells (((a.fill g k).cells.setIfInBounds (3 + k * 2) (.bool false)).setIfInBounds (3 + k * 2 + 1) (.string n)) 42 (0, 0)) ∧ ∃ r : Atm, w.heap[W.heap.size]? = some (.cells r.cells 42 (0, 0))

theorem mk_mid {W w : World} {g : Nat → Tm} {a : Atm} {k bx : Nat} (S : MkS W g a k w) (hbx : W.heap.size = bx) (n : ByteArray) :
    MidS W g a k n ((w.setCell ⟨bx + 1, 3 + k * 2, none⟩ (.bool false)).setCell ⟨bx + 1, 3 + k * 2 + 1, none⟩ (.string n)) := by
  obtain ⟨h1, h2, r, h3⟩ := S
  subst hbx
  refine ⟨(h1.setCell (Nat.le_succ _) _).setCell (Nat.le_succ _) _, hset_same (hset_same h2 _ _) _ _, r, ?_⟩
  rw [hset_other _ _ _ _ _ (by omega), hset_other _ _ _ _ _ (by omega)]
  exact h3

theorem mid_no {W w : World} {g : Nat → Tm} {a : Atm} {k : Nat} {n : ByteArray} (S : MidS W g a k n w) (hk : k < 4) (hg : g k = ⟨false, n⟩) : MkS W g a (k + 1) w := by
  obtain ⟨h1, h2, r, h3⟩ := S
  have := Atm.fill_set g a hk
  rw [hg] at this
  rw [this] at h2
  exact ⟨h1, h2, r, h3⟩

theorem mid_yes {W w : World} {g : Nat → Tm} {a : Atm} {k bx : Nat} {n : ByteArray} (S : MidS W g a k n w) (hbx : W.heap.size = bx) (hk : k < 4) (hg : g k = ⟨true, n⟩) :
    MkS W g a (k + 1) (w.setCell ⟨bx + 1, 3 + k * 2, none⟩ (.bool true)) := by
  obtain ⟨h1, h2, r, h3⟩ := S
  subst hbx
  have := Atm.fill_set3 g a (b := false) hk
  rw [hg] at this
  refine ⟨h1.setCell (Nat.le_succ _) _, ?_, r, ?_⟩
  · rw [← this]
    exact hset_same h2 _ _
  · rw [hset_other _ _ _ _ _ (by omega)]
    exact h3

theorem fill_mid (g : Nat → Tm) (a : Atm) {k : Nat} (hk : k < 4) (b : Bool) (n : ByteArray) : (((a.fill g k).cells.setIfInBounds (3 + k * 2) (.bool b)).setIfInBounds (3 + k * 2 + 1) (.string n))[3 + k * 2]? = some (.bool b) := by
  obtain rfl | rfl | rfl | rfl : k = 0 ∨ k = 1 ∨ k = 2 ∨ k = 3 := by omega
  all_goals rfl

set_option maxHeartbeats 4000000 in
theorem a_any {w : World} {vs : Value} {xs : List ByteArray} (hV : RdS w vs xs) (hl : xs.length ≤ 1000000) (says pred : ByteArray) :
    Calls Tryd.prog 18 #[.string says, .string pred, vs] w fun e w' => e = .returned (amV (pA says pred xs)) ∧ Below w.heap.size w w' := by
  obtain ⟨sa, caps, rfl, _, hcc⟩ := hV.shape
  have HV := Lib.hid hV
  clear hV hcc
  obtain ⟨base, hbase⟩ : ∃ b : Atm, b = ⟨says, pred, xs.length, noT, noT, noT, noT⟩ := ⟨_, rfl⟩
  obtain ⟨g, hg⟩ : ∃ g : Nat → Tm, g = fun i => mkT (xs[i]?.getD ⟨#[]⟩) := ⟨_, rfl⟩
  have HG := Lib.hid hg
  have HP : Hid (pA says pred xs = base.fill g (min xs.length 4)) := by show _ = _; rw [hbase, hg]; rfl
  have S0 : MkS w g base 0 ((w.alloc (.cells #[.string ⟨#[]⟩, .string ⟨#[]⟩, .int .i64 0, .bool false, .string ⟨#[]⟩, .bool false, .string ⟨#[]⟩, .bool false, .string ⟨#[]⟩, .bool false, .string ⟨#[]⟩] 42)).alloc (.cells #[.string says, .string pred, .int .i64 xs.length, .bool false, .string ⟨#[]⟩, .bool false, .string ⟨#[]⟩, .bool false, .string ⟨#[]⟩, .bool false, .string ⟨#[]⟩] 42)) := by
    have e1 : (w.alloc (.cells #[.string ⟨#[]⟩, .string ⟨#[]⟩, .int .i64 0, .bool false, .string ⟨#[]⟩, .bool false, .string ⟨#[]⟩, .bool false, .string ⟨#[]⟩, .bool false, .string ⟨#[]⟩] 42)).heap.size = w.heap.size + 1 := hsize_alloc _ _
    subst hbase
    refine ⟨((Below.refl _ w).alloc (Nat.le_refl _) _).alloc (by rw [hsize_alloc]; omega) _, ?_, ⟨⟨#[]⟩, ⟨#[]⟩, 0, noT, noT, noT, noT⟩, ?_⟩
    · have := halloc_new (w.alloc (.cells #[.string ⟨#[]⟩, .string ⟨#[]⟩, .int .i64 0, .bool false, .string ⟨#[]⟩, .bool false, .string ⟨#[]⟩, .bool false, .string ⟨#[]⟩, .bool false, .string ⟨#[]⟩] 42)) (.cells #[.string says, .string pred, .int .i64 xs.length, .bool false, .string ⟨#[]⟩, .bool false, .string ⟨#[]⟩, .bool false, .string ⟨#[]⟩, .bool false, .string ⟨#[]⟩] 42)
      rwa [e1] at this
    · rw [halloc_old _ _ _ (by rw [e1]; omega)]
      exact halloc_new _ _
  have HS0 := Lib.hid S0
  clear S0 hbase hg
  go_enter Tryd.func18, Tryd.ntmps18
  go_upto_region 2 with (fail)
  generalize (w.alloc (.cells #[.string ⟨#[]⟩, .string ⟨#[]⟩, .int .i64 0, .bool false, .string ⟨#[]⟩, .bool false, .string ⟨#[]⟩, .bool false, .string ⟨#[]⟩, .bool false, .string ⟨#[]⟩] 42)).alloc (.cells #[.string says, .string pred, .int .i64 xs.length, .bool false, .string ⟨#[]⟩, .bool false, .string ⟨#[]⟩, .bool false, .string ⟨#[]⟩, .bool false, .string ⟨#[]⟩] 42) = w1 at *
  generalize hbx : w.heap.size = bx at *
  have HBX := Lib.hid hbx
  clear hbx
  go_wp2_with (fail)
  go_loopg [8] (xs.length) (fun n i wr => ∃ k : Nat, k ≤ xs.length ∧ k ≤ 4 ∧ n = xs.length - k ∧ i = .int .i64 k ∧ Aside (MkS w g base k wr))
  case atStart => exact ⟨0, by omega, by omega, by omega, rfl, HS0.out⟩
  case round =>
    obtain ⟨k, hk, hk4, hnk, rfl, hS⟩ := hrel
    have HS := Lib.hid hS.out
    clear hS HS0
    have ja : (0 : Int) ≤ (k : Int) := by omega
    by_cases hlt : k < xs.length
    · have jb : (k : Int) < (xs.length : Int) := by omega
      by_cases h4 : k < 4
      · have jc : (k : Int) < 4 := by omega
        have R1 : RdS wr (.slice sa xs.length caps) xs := Rd.kept HV.out HS.out.1
        obtain ⟨a', cap', e, _, hc⟩ := R1.shape
        obtain ⟨gb, off, rfl, _, _, _, hcell⟩ := hc (by omega)
        injection e with e1 _ e3
        subst e1 e3
        have c0 := RdS.cell hcell hlt
        clear hc hcell R1
        have HGK : Hid (g k = mkT xs[k]) := by show _ = _; rw [HG.out]; simp [hlt]
        have HCL : ∀ w4, Below w.heap.size w w4 → w4.cell? ⟨gb, off + k, none⟩ = some (.string xs[k]) := by
          intro w4 B4
          obtain ⟨_, _, e, _, hc⟩ := Rd.shape (Rd.kept HV.out B4)
          obtain ⟨_, _, e5, _, _, _, hcell⟩ := hc (by simpa using Nat.lt_of_le_of_lt (Nat.zero_le k) hlt)
          injection e with e1 _ e3
          rw [e5] at e1
          injection e1 with e1
          injection e1 with e1 e6
          subst e1 e6
          exact RdS.cell hcell hlt
        generalize xs[k] = s at *
        have K := Lib.hid (c_any (w := wr) s)
        unfold tmV at K
        go_wp2_with (fail)
        refine (K.out).mono ?_
        rintro _ w3 ⟨rfl, B3⟩
        have S3 := Lib.hid (mk_keep HS.out B3)
        clear HS K B3 c0
        have X3 := Lib.hid S3.out.2.1
        rw [HBX.out] at X3
        have x0 : w3.cell? ⟨bx + 1, 3 + k * 2, none⟩ = some (.bool (base.arg k).v) := cell_of_heap X3.out (Atm.fill_at g base h4).1
        have x1 : w3.cell? ⟨bx + 1, 3 + k * 2 + 1, none⟩ = some (.string (base.arg k).name) := cell_of_heap X3.out (Atm.fill_at g base h4).2
        have f0 := frozen_of_heap X3.out (3 + k * 2)
        have f1 := frozen_of_heap X3.out (3 + k * 2 + 1)
        clear X3
        go_upto_region 6 with (fail)
        have S4 := Lib.hid (mk_mid S3.out HBX.out s)
        clear S3 x0 x1 f0 f1
        generalize (w3.setCell ⟨bx + 1, 3 + k * 2, none⟩ (.bool false)).setCell ⟨bx + 1, 3 + k * 2 + 1, none⟩ (.string s) = w4 at *
        have c0 := HCL w4 S4.out.1
        have X4 := Lib.hid S4.out.2.1
        rw [HBX.out] at X4
        have x0 : w4.cell? ⟨bx + 1, 3 + k * 2, none⟩ = some (.bool false) := cell_of_heap X4.out (fill_mid g base h4 _ _)
        have f0 := frozen_of_heap X4.out (3 + k * 2)
        clear X4 HCL
        by_cases hE : s = ⟨#[]⟩
        · have HK : Hid (g k = ⟨false, s⟩) := by show _ = _; rw [HGK.out, hE]; rfl
          have hEE : s.toList.isEmpty = true := by rw [hE, empty_toList]; rfl
          clear hE
          go_wp2_with (fail)
          go_roundg (xs.length - (k + 1))
          case rel => exact ⟨k + 1, by omega, by omega, rfl, by go_num, mid_no S4.out h4 HK.out⟩
          case measure => omega
        · have hEE := str_full hE
          have hpos : 0 < s.size := by
            rcases Nat.eq_zero_or_pos s.size with h | h
            · exact absurd (ByteArray.ext (Array.eq_empty_of_size_eq_zero h)) hE
            · exact h
          have HPC := Lib.hid (pcap_eq hpos)
          clear hE
          by_cases h65 : 65 ≤ s[0].toNat
          · have h65' : (65 : Int) ≤ (s[0].toNat : Int) := by omega
            by_cases h90 : s[0].toNat ≤ 90
            · have h90' : (s[0].toNat : Int) ≤ 90 := by omega
              have HK : Hid (g k = ⟨true, s⟩) := by show _ = _; rw [HGK.out]; unfold mkT; rw [HPC.out]; simp [h65, h90]
              clear h65 h90
              go_wp2_with (fail)
              go_roundg (xs.length - (k + 1))
              case rel => exact ⟨k + 1, by omega, by omega, rfl, by go_num, mid_yes S4.out HBX.out h4 HK.out⟩
              case measure => omega
            · have h90' : 90 < (s[0].toNat : Int) := by omega
              have HK : Hid (g k = ⟨false, s⟩) := by show _ = _; rw [HGK.out]; unfold mkT; rw [HPC.out]; simp [h90]
              clear h65 h90
              go_wp2_with (fail)
              go_roundg (xs.length - (k + 1))
              case rel => exact ⟨k + 1, by omega, by omega, rfl, by go_num, mid_no S4.out h4 HK.out⟩
              case measure => omega
          · have h65' : (s[0].toNat : Int) < 65 := by omega
            have HK : Hid (g k = ⟨false, s⟩) := by show _ = _; rw [HGK.out]; unfold mkT; rw [HPC.out]; simp [h65]
            clear h65
            go_wp2_with (fail)
            go_roundg (xs.length - (k + 1))
            case rel => exact ⟨k + 1, by omega, by omega, rfl, by go_num, mid_no S4.out h4 HK.out⟩
            case measure => omega
      · have jb4 : (4 : Int) ≤ (k : Int) := by omega
        have hka : min xs.length 4 = k := by omega
        have HX := Lib.hid HS.out.2.1
        have HQ : Hid (pA says pred xs = base.fill g k) := by show _ = _; rw [HP.out, hka]
        obtain ⟨h1, _, r0, h3⟩ := HS.out
        rw [HBX.out] at h3 HX
        generalize base.fill g k = r at *
        have E := Lib.hid (app_end (r := r) h1 (br := bx) (by rw [HBX.out]; omega) h3)
        have x0 : wr.cell? ⟨bx + 1, 0, none⟩ = some (.string r.says) := cell_of_heap HX.out rfl
        have y0 : wr.cell? ⟨bx, 0, none⟩ = some (.string r0.says) := cell_of_heap h3 rfl
        have f0 := frozen_of_heap h3 0
        have x1 : wr.cell? ⟨bx + 1, 1, none⟩ = some (.string r.pred) := cell_of_heap HX.out rfl
        have y1 : wr.cell? ⟨bx, 1, none⟩ = some (.string r0.pred) := cell_of_heap h3 rfl
        have f1 := frozen_of_heap h3 1
        have x2 : wr.cell? ⟨bx + 1, 2, none⟩ = some (.int .i64 r.n) := cell_of_heap HX.out rfl
        have y2 : wr.cell? ⟨bx, 2, none⟩ = some (.int .i64 r0.n) := cell_of_heap h3 rfl
        have f2 := frozen_of_heap h3 2
        have x3 : wr.cell? ⟨bx + 1, 3, none⟩ = some (.bool r.a0.v) := cell_of_heap HX.out rfl
        have y3 : wr.cell? ⟨bx, 3, none⟩ = some (.bool r0.a0.v) := cell_of_heap h3 rfl
        have f3 := frozen_of_heap h3 3
        have x4 : wr.cell? ⟨bx + 1, 4, none⟩ = some (.string r.a0.name) := cell_of_heap HX.out rfl
        have y4 : wr.cell? ⟨bx, 4, none⟩ = some (.string r0.a0.name) := cell_of_heap h3 rfl
        have f4 := frozen_of_heap h3 4
        have x5 : wr.cell? ⟨bx + 1, 5, none⟩ = some (.bool r.a1.v) := cell_of_heap HX.out rfl
        have y5 : wr.cell? ⟨bx, 5, none⟩ = some (.bool r0.a1.v) := cell_of_heap h3 rfl
        have f5 := frozen_of_heap h3 5
        have x6 : wr.cell? ⟨bx + 1, 6, none⟩ = some (.string r.a1.name) := cell_of_heap HX.out rfl
        have y6 : wr.cell? ⟨bx, 6, none⟩ = some (.string r0.a1.name) := cell_of_heap h3 rfl
        have f6 := frozen_of_heap h3 6
        have x7 : wr.cell? ⟨bx + 1, 7, none⟩ = some (.bool r.a2.v) := cell_of_heap HX.out rfl
        have y7 : wr.cell? ⟨bx, 7, none⟩ = some (.bool r0.a2.v) := cell_of_heap h3 rfl
        have f7 := frozen_of_heap h3 7
        have x8 : wr.cell? ⟨bx + 1, 8, none⟩ = some (.string r.a2.name) := cell_of_heap HX.out rfl
        have y8 : wr.cell? ⟨bx, 8, none⟩ = some (.string r0.a2.name) := cell_of_heap h3 rfl
        have f8 := frozen_of_heap h3 8
        have x9 : wr.cell? ⟨bx + 1, 9, none⟩ = some (.bool r.a3.v) := cell_of_heap HX.out rfl
        have y9 : wr.cell? ⟨bx, 9, none⟩ = some (.bool r0.a3.v) := cell_of_heap h3 rfl
        have f9 := frozen_of_heap h3 9
        have x10 : wr.cell? ⟨bx + 1, 10, none⟩ = some (.string r.a3.name) := cell_of_heap HX.out rfl
        have y10 : wr.cell? ⟨bx, 10, none⟩ = some (.string r0.a3.name) := cell_of_heap h3 rfl
        have f10 := frozen_of_heap h3 10
        clear HS HX h1 h3 hka HP
        go_wp2_with (fail)
        generalize (((((((((((wr.setCell ⟨bx, 0, none⟩ (.string r.says)).setCell ⟨bx, 1, none⟩ (.string r.pred)).setCell ⟨bx, 2, none⟩ (.int .i64 r.n)).setCell ⟨bx, 3, none⟩ (.bool r.a0.v)).setCell ⟨bx, 4, none⟩ (.string r.a0.name)).setCell ⟨bx, 5, none⟩ (.bool r.a1.v)).setCell ⟨bx, 6, none⟩ (.string r.a1.name)).setCell ⟨bx, 7, none⟩ (.bool r.a2.v)).setCell ⟨bx, 8, none⟩ (.string r.a2.name)).setCell ⟨bx, 9, none⟩ (.bool r.a3.v)).setCell ⟨bx, 10, none⟩ (.string r.a3.name)) = w9 at *
        obtain ⟨e, B9⟩ := E.out
        have e0 : w9.cell? ⟨bx, 0, none⟩ = some (.string r.says) := cell_of_heap e rfl
        have e1 : w9.cell? ⟨bx, 1, none⟩ = some (.string r.pred) := cell_of_heap e rfl
        have e2 : w9.cell? ⟨bx, 2, none⟩ = some (.int .i64 r.n) := cell_of_heap e rfl
        have e3 : w9.cell? ⟨bx, 3, none⟩ = some (.bool r.a0.v) := cell_of_heap e rfl
        have e4 : w9.cell? ⟨bx, 4, none⟩ = some (.string r.a0.name) := cell_of_heap e rfl
        have e5 : w9.cell? ⟨bx, 5, none⟩ = some (.bool r.a1.v) := cell_of_heap e rfl
        have e6 : w9.cell? ⟨bx, 6, none⟩ = some (.string r.a1.name) := cell_of_heap e rfl
        have e7 : w9.cell? ⟨bx, 7, none⟩ = some (.bool r.a2.v) := cell_of_heap e rfl
        have e8 : w9.cell? ⟨bx, 8, none⟩ = some (.string r.a2.name) := cell_of_heap e rfl
        have e9 : w9.cell? ⟨bx, 9, none⟩ = some (.bool r.a3.v) := cell_of_heap e rfl
        have e10 : w9.cell? ⟨bx, 10, none⟩ = some (.string r.a3.name) := cell_of_heap e rfl
        exact bodyPost_ret (v := .agg r.cells) (by simp [results, go_sem, e0, e1, e2, e3, e4, e5, e6, e7, e8, e9, e10, Atm.cells]) rfl ⟨by rw [HQ.out]; rfl, B9⟩
    · have jb : (xs.length : Int) ≤ (k : Int) := by omega
      have hka : min xs.length 4 = k := by omega
      have HX := Lib.hid HS.out.2.1
      have HQ : Hid (pA says pred xs = base.fill g k) := by show _ = _; rw [HP.out, hka]
      obtain ⟨h1, _, r0, h3⟩ := HS.out
      rw [HBX.out] at h3 HX
      generalize base.fill g k = r at *
      have E := Lib.hid (app_end (r := r) h1 (br := bx) (by rw [HBX.out]; omega) h3)
      have x0 : wr.cell? ⟨bx + 1, 0, none⟩ = some (.string r.says) := cell_of_heap HX.out rfl
      have y0 : wr.cell? ⟨bx, 0, none⟩ = some (.string r0.says) := cell_of_heap h3 rfl
      have f0 := frozen_of_heap h3 0
      have x1 : wr.cell? ⟨bx + 1, 1, none⟩ = some (.string r.pred) := cell_of_heap HX.out rfl
      have y1 : wr.cell? ⟨bx, 1, none⟩ = some (.string r0.pred) := cell_of_heap h3 rfl
      have f1 := frozen_of_heap h3 1
      have x2 : wr.cell? ⟨bx + 1, 2, none⟩ = some (.int .i64 r.n) := cell_of_heap HX.out rfl
      have y2 : wr.cell? ⟨bx, 2, none⟩ = some (.int .i64 r0.n) := cell_of_heap h3 rfl
      have f2 := frozen_of_heap h3 2
      have x3 : wr.cell? ⟨bx + 1, 3, none⟩ = some (.bool r.a0.v) := cell_of_heap HX.out rfl
      have y3 : wr.cell? ⟨bx, 3, none⟩ = some (.bool r0.a0.v) := cell_of_heap h3 rfl
      have f3 := frozen_of_heap h3 3
      have x4 : wr.cell? ⟨bx + 1, 4, none⟩ = some (.string r.a0.name) := cell_of_heap HX.out rfl
      have y4 : wr.cell? ⟨bx, 4, none⟩ = some (.string r0.a0.name) := cell_of_heap h3 rfl
      have f4 := frozen_of_heap h3 4
      have x5 : wr.cell? ⟨bx + 1, 5, none⟩ = some (.bool r.a1.v) := cell_of_heap HX.out rfl
      have y5 : wr.cell? ⟨bx, 5, none⟩ = some (.bool r0.a1.v) := cell_of_heap h3 rfl
      have f5 := frozen_of_heap h3 5
      have x6 : wr.cell? ⟨bx + 1, 6, none⟩ = some (.string r.a1.name) := cell_of_heap HX.out rfl
      have y6 : wr.cell? ⟨bx, 6, none⟩ = some (.string r0.a1.name) := cell_of_heap h3 rfl
      have f6 := frozen_of_heap h3 6
      have x7 : wr.cell? ⟨bx + 1, 7, none⟩ = some (.bool r.a2.v) := cell_of_heap HX.out rfl
      have y7 : wr.cell? ⟨bx, 7, none⟩ = some (.bool r0.a2.v) := cell_of_heap h3 rfl
      have f7 := frozen_of_heap h3 7
      have x8 : wr.cell? ⟨bx + 1, 8, none⟩ = some (.string r.a2.name) := cell_of_heap HX.out rfl
      have y8 : wr.cell? ⟨bx, 8, none⟩ = some (.string r0.a2.name) := cell_of_heap h3 rfl
      have f8 := frozen_of_heap h3 8
      have x9 : wr.cell? ⟨bx + 1, 9, none⟩ = some (.bool r.a3.v) := cell_of_heap HX.out rfl
      have y9 : wr.cell? ⟨bx, 9, none⟩ = some (.bool r0.a3.v) := cell_of_heap h3 rfl
      have f9 := frozen_of_heap h3 9
      have x10 : wr.cell? ⟨bx + 1, 10, none⟩ = some (.string r.a3.name) := cell_of_heap HX.out rfl
      have y10 : wr.cell? ⟨bx, 10, none⟩ = some (.string r0.a3.name) := cell_of_heap h3 rfl
      have f10 := frozen_of_heap h3 10
      clear HS HX h1 h3 hka HP
      go_wp2_with (fail)
      generalize (((((((((((wr.setCell ⟨bx, 0, none⟩ (.string r.says)).setCell ⟨bx, 1, none⟩ (.string r.pred)).setCell ⟨bx, 2, none⟩ (.int .i64 r.n)).setCell ⟨bx, 3, none⟩ (.bool r.a0.v)).setCell ⟨bx, 4, none⟩ (.string r.a0.name)).setCell ⟨bx, 5, none⟩ (.bool r.a1.v)).setCell ⟨bx, 6, none⟩ (.string r.a1.name)).setCell ⟨bx, 7, none⟩ (.bool r.a2.v)).setCell ⟨bx, 8, none⟩ (.string r.a2.name)).setCell ⟨bx, 9, none⟩ (.bool r.a3.v)).setCell ⟨bx, 10, none⟩ (.string r.a3.name)) = w9 at *
      obtain ⟨e, B9⟩ := E.out
      have e0 : w9.cell? ⟨bx, 0, none⟩ = some (.string r.says) := cell_of_heap e rfl
      have e1 : w9.cell? ⟨bx, 1, none⟩ = some (.string r.pred) := cell_of_heap e rfl
      have e2 : w9.cell? ⟨bx, 2, none⟩ = some (.int .i64 r.n) := cell_of_heap e rfl
      have e3 : w9.cell? ⟨bx, 3, none⟩ = some (.bool r.a0.v) := cell_of_heap e rfl
      have e4 : w9.cell? ⟨bx, 4, none⟩ = some (.string r.a0.name) := cell_of_heap e rfl
      have e5 : w9.cell? ⟨bx, 5, none⟩ = some (.bool r.a1.v) := cell_of_heap e rfl
      have e6 : w9.cell? ⟨bx, 6, none⟩ = some (.string r.a1.name) := cell_of_heap e rfl
      have e7 : w9.cell? ⟨bx, 7, none⟩ = some (.bool r.a2.v) := cell_of_heap e rfl
      have e8 : w9.cell? ⟨bx, 8, none⟩ = some (.string r.a2.name) := cell_of_heap e rfl
      have e9 : w9.cell? ⟨bx, 9, none⟩ = some (.bool r.a3.v) := cell_of_heap e rfl
      have e10 : w9.cell? ⟨bx, 10, none⟩ = some (.string r.a3.name) := cell_of_heap e rfl
      exact bodyPost_ret (v := .agg r.cells) (by simp [results, go_sem, e0, e1, e2, e3, e4, e5, e6, e7, e8, e9, e10, Atm.cells]) rfl ⟨by rw [HQ.out]; rfl, B9⟩
end Go.Proofs.YtaeehadibckcjaaDoor
