/-
  CacheKeeps: the walk's last part.
-/
import Derived.Test.YtbmkeapebmlggaaLe
namespace Go.Proofs.Ytbmkeapebmlggaa
open Go.RowKit Go.Vs Go.Maps Go.ChangeMaps Go.WideMaps

/-- Behind the last append. -/
def FinRel (a : World) (r b : Nat) (T : List ByteArray) (k : Nat) (v : Value) (w11 : World) : Prop :=
  ∃ vb off cap, v = .slice (some ⟨vb, off, none⟩) (T.length + 1) cap ∧
    Below a.heap.size a w11 ∧ (∃ L, (∃ G, CA G w11 (.pointer (some ⟨b, 0, none⟩)) L (1 + (r : Int)) 1 0) ∧ L.map (·.1) = (if hk : k < T.length then keepWant T k T[k] ++ [newK] else []).drop (T.length + 1 - (1 + r))) ∧ vb < w11.heap.size ∧ T.length + 1 ≤ cap ∧ cap ≤ 9223372036854775807 ∧
      RdS w11 (.slice (some ⟨vb, off, none⟩) (if hk : k < T.length then keepWant T k T[k] ++ [newK] else []).length cap) (if hk : k < T.length then keepWant T k T[k] ++ [newK] else [])

theorem fin_rel {a w11 : World} {G : Nat → Prop} {r b k vb off cap : Nat} {T : List ByteArray} (hk : k < T.length) (hl : (keepWant T k T[k]).length = T.length)
    (h : Below a.heap.size a w11 ∧ (∃ L, CA G w11 (.pointer (some ⟨b, 0, none⟩)) L (1 + (r : Int)) 1 0 ∧ L.map (·.1) = (keepWant T k T[k] ++ [newK]).drop (T.length + 1 - (1 + r))) ∧ vb < w11.heap.size ∧ T.length + 1 ≤ cap ∧ cap ≤ 9223372036854775807 ∧
      RdS w11 (.slice (some ⟨vb, off, none⟩) (keepWant T k T[k] ++ [newK]).length cap) (keepWant T k T[k] ++ [newK])) :
    FinRel a r b T k (.slice (some ⟨vb, off, none⟩) ((keepWant T k T[k]).length + 1) cap) w11 := by
  obtain ⟨h1, ⟨L, h2, h3⟩, h4⟩ := h
  unfold FinRel
  simp only [dif_pos hk]
  exact ⟨vb, off, cap, by rw [hl], h1, ⟨L, ⟨G, h2⟩, h3⟩, h4⟩

theorem fin_open {a w11 : World} {r b k : Nat} {T : List ByteArray} {v : Value} (hk : k < T.length) (h : FinRel a r b T k v w11) :
    ∃ vb off cap, v = .slice (some ⟨vb, off, none⟩) (T.length + 1) cap ∧ Below a.heap.size a w11 ∧ (∃ L, (∃ G, CA G w11 (.pointer (some ⟨b, 0, none⟩)) L (1 + (r : Int)) 1 0) ∧ L.map (·.1) = (keepWant T k T[k] ++ [newK]).drop (T.length + 1 - (1 + r))) ∧ vb < w11.heap.size ∧ T.length + 1 ≤ cap ∧ cap ≤ 9223372036854775807 ∧
      RdS w11 (.slice (some ⟨vb, off, none⟩) (keepWant T k T[k] ++ [newK]).length cap) (keepWant T k T[k] ++ [newK]) := by
  unfold FinRel at h
  simp only [dif_pos hk] at h
  exact h

noncomputable def code20 : Code := (Try.f3.body.bind (fromRegion 20)).getD .skip

set_option maxHeartbeats 4000000 in
set_option maxRecDepth 100000 in
theorem keeps_20 (w wc : World) (r b vb off cap k : Nat) (T : List ByteArray) (u15 c1 c2 c3 c4 c5 c6 c8 c9 c10 c16 c17 c18 c19 c20 c21 c22 c23 c24 c25 c26 c27 c28 c29 c30 c31 c32 c33 c34 c35 c36 c37 c38 c39 c40 c41 c42 c43 c44 c45 c46 c47 c48 c49 c50 c51 c52 c53 c54 c55 c56 c57 c58 c59 c60 c61 c62 c63 c64 c65 c66 c67 c68 c69 c70 c71 c72 c73 c74 c75 c76 c77 c78 c79 c80 c81 c82 c83 c84 c85 c86 c87 c88 c89 c90 c91 c92 c93 c94 c95 c96 c97 c98 c99 c100 c101 c102 c103 c104 c105 c106 c107 c108 c109 c110 c111 c112 c113 c114 c115 c116 c117 c118 c119 c120 c121 c122 c123 c124 : Value) (hr1 : r < 20) (t1 : 1 ≤ T.length) (t2 : T.length ≤ r + 1) (t3 : T.length ≤ cap) (t4 : cap ≤ 9223372036854775807)
    (Q8 : Hid (∀ x ∈ T, x.size ≤ 60 ∧ x ≠ ⟨#[110, 101, 119]⟩)) (hk2 : k < T.length)
    (hcut : WantRel w r (.pointer (some ⟨b, 0, none⟩)) (keepWant T k T[k]) (.slice (some ⟨vb, off, none⟩) T.length cap) T u15 wc) :
    Code.wp Try.prog code20 (bodyPost Try.prog Try.f3 (TrueBelow w)) ⟨#[.int .i64 (1 + (r : Int)), c1, c2, c3, c4, c5, c6, .pointer (some ⟨b, 0, none⟩), c8, c9, c10, .slice (some ⟨vb, off, none⟩) T.length cap, .int .i64 (k : Int), .string T[k], .bool true, u15, c16, c17, c18, c19, c20, c21, c22, c23, c24, c25, c26, c27, c28, c29, c30, c31, c32, c33, c34, c35, c36, c37, c38, c39, c40, c41, c42, c43, c44, c45, c46, c47, c48, c49, c50, c51, c52, c53, c54, c55, c56, c57, c58, c59, c60, c61, c62, c63, c64, c65, c66, c67, c68, c69, c70, c71, c72, c73, c74, c75, c76, c77, c78, c79, c80, c81, c82, c83, c84, c85, c86, c87, c88, c89, c90, c91, c92, c93, c94, c95, c96, c97, c98, c99, c100, c101, c102, c103, c104, c105, c106, c107, c108, c109, c110, c111, c112, c113, c114, c115, c116, c117, c118, c119, c120, c121, c122, c123, c124], []⟩ wc := by
  conv => arg 2; whnf
  obtain ⟨i0, hi, hz0, hz1, hz2⟩ := info_parts Try.info9
  have HI := Lib.hid hi
  have HZ0 := Lib.hid hz0
  have HZ1 := Lib.hid hz1
  have HZ2 := Lib.hid hz2
  clear hi hz0 hz1 hz2
  obtain ⟨G2, W1, W2, W3, W4, W5⟩ := hcut
  have V1 := Lib.hid W1
  have V2 := Lib.hid W2
  have V3 := Lib.hid W3
  have V4 := Lib.hid W4
  have V5 := Lib.hid W5
  have HWL := Lib.hid (keepWant_len (x := T[k]) hk2)
  have K5 := Lib.hid (ca_keys W2)
  have hck := rds_cell W5 hk2
  have hk3 : (k : Int) < (T.length : Int) := by omega
  have hbeq : (T[k].toList == T[k].toList) = true := str_eq _
  clear W1 W2 W3 W4 W5
  go_wp2_with (fail)
  refine (K5.out).mono ?_
  rintro _ w8 ⟨v8, rfl, X1, X2, X3⟩
  have Y1 := Lib.hid X1
  have Y2 := Lib.hid X2
  clear X1 X2 X3
  have K6 := Lib.hid (same_any Y1.out ((show RdS _ _ _ from by have := Rd.of_own V3.out; unfold RdS; simpa using this).below Y2.out (fun x hx => own_lt V3.out hx)))
  go_wp2_with (fail)
  refine (K6.out).mono ?_
  rintro _ w9 ⟨rfl, q9, rfl⟩
  rw [show decide (List.map (fun x => x.1) (List.map ent (keepWant T k T[k])) = keepWant T k T[k]) = true from by simp [ent, Function.comp_def]]
  have C9 := Lib.hid ((V2.out.below Y2.out).drewN q9)
  have K7 := Lib.hid (ca_put C9.out ⟨#[110, 101, 119]⟩ ⟨#[115]⟩ ⟨#[]⟩ (by decide))
  go_wp2_with (fail)
  refine (K7.out).mono ?_
  rintro _ w10 ⟨rfl, C10, T10⟩
  have O10 := Lib.hid (show w10.ownsRow 0 9 1 _ _ _ from own_turns (w := w8.drewN q9) (show w8.ownsRow 0 9 1 _ _ _ from own_below V3.out Y2.out) T10 (fun b hb => (V4.out b hb).2))
  have S10 := Lib.hid ((show Since w G2 (w8.drewN q9) from ⟨(V1.out.same Y2.out).below.trans ⟨rfl, rfl, rfl, Nat.le_refl _, fun _ _ => rfl⟩, V1.out.ge⟩).step T10)
  have N10 : Hid (∀ x, sblk u15 = some x → w.heap.size ≤ x ∧ ¬ Fp G2 (w8.drewN q9) w10 x) := fun x hx => ⟨(V4.out x hx).1, fun h => by
    rcases h with h | h
    · exact (V4.out x hx).2 h
    · have h1 : x < wc.heap.size := own_lt V3.out hx
      have h2 := Y2.out.size
      have h3 : (w8.drewN q9).heap.size = w8.heap.size := rfl
      omega⟩
  have CC10 := Lib.hid C10
  clear C10 T10
  generalize Fp G2 (w8.drewN q9) w10 = G3 at CC10 S10 N10
  have hwl : (keepWant T k T[k]).length ≤ 1000 := by rw [HWL.out]; omega
  go_upto_region 24 with (fail)
  go_cut [15] (fun v wc => FinRel w r b T k v wc)
  case first =>
    go_wp2_with (at_builtin; refine wpList_append_rd _ rfl _ _ 28 rfl 9 i0 (.string ⟨#[]⟩) 1 16 Try.underlying28 HI.out HZ0.out HZ1.out HZ2.out rfl (by decide) _ _ _ rfl (own_turns O10.out ((Turns.refl (fun _ => False) w10).alloc _) (fun _ _ h => h)) _ 1 _ rfl (rd_new w10 #[.string ⟨#[110, 101, 119]⟩] 9 1 1 rfl (by unfold maxLen; omega)) (one_str _) (by unfold maxLen; omega) (by omega) ?_; intro v' w11 hown1 hgrow1 hloc1)
    obtain ⟨a', cap', hv', hm', hc'⟩ := (Rd.of_own hown1).shape
    obtain ⟨vb', off', rfl, hc2⟩ := hc' (by omega)
    subst hv'
    have fin := Lib.hid (keep_fin Q8.out hk2 S10.out CC10.out N10.out hown1 hgrow1)
    clear hown1 hgrow1 hloc1 hc' hc2 hm'
    go_meet
    case rel => exact fin_rel hk2 HWL.out fin.out
  case rest =>
    obtain ⟨vb', off', cap', rfl, f1, ⟨L, f2, f3⟩, f4, f5, f6, f7⟩ := fin_open hk2 hcut
    go_step
    exact keeps_25 w wc r b vb' off' cap' T.length _ L _ _ _ _ _ _ _ _ _ _ _ _ _ _ _ _ _ _ _ _ _ _ _ _ _ _ _ _ _ _ _ _ _ _ _ _ _ _ _ _ _ _ _ _ _ _ _ _ _ _ _ _ _ _ _ _ _ _ _ _ _ _ _ _ _ _ _ _ _ _ _ _ _ _ _ _ _ _ _ _ _ _ _ _ _ _ _ _ _ _ _ _ _ _ _ _ _ _ _ _ _ _ _ _ _ _ _ _ _ _ _ _ _ _ _ _ _ _ _ _ _ _ hr1 t2 f5 f6 f1 f2 f3 f4 (by show _ = _; simp [HWL.out]) f7

end Go.Proofs.Ytbmkeapebmlggaa
