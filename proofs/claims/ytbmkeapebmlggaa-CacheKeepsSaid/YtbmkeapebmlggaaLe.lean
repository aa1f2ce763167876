/-
  CacheKeeps: the walk's end.
-/
import Derived.Test.YtbmkeapebmlggaaLb
namespace Go.Proofs.Ytbmkeapebmlggaa
open Go.RowKit Go.Vs Go.Maps Go.ChangeMaps Go.WideMaps

noncomputable def code25 : Code := (Try.f3.body.bind (fromRegion 25)).getD .skip

theorem drew_below {w w' : World} {v : Value} {xs : List ByteArray} {vb : Nat} (X : RdS w v xs) (h : Below w.drew.heap.size w.drew w') (hs : ∀ b, sblk v = some b → b < w.heap.size) : RdS w' v xs :=
  Rd.below (w := w.drew) X h hs

theorem keeps_below {w w11 w12 : World} (h : Below w.heap.size w w11) (h2 : Below w11.drew.heap.size w11.drew w12) (q : Nat) : Below w.heap.size w (w12.drewN q) :=
  ((h.trans (Below.drew (Below.refl _ _))).trans (h2.mono h.size)).trans ⟨rfl, rfl, rfl, Nat.le_refl _, fun _ _ => rfl⟩

theorem same_eq {w : World} {va vb : Value} {xs ys : List ByteArray} (ha : RdS w va xs) (hb : RdS w vb ys) (h : xs = ys) :
    Calls Try.prog 13 #[va, vb] w fun e w' => e = .returned (.bool true) ∧ ∃ k, w' = w.drewN k := by
  refine (same_any ha hb).mono ?_
  rintro _ w' ⟨rfl, k, rfl⟩
  exact ⟨by rw [h]; simp, k, rfl⟩

set_option maxHeartbeats 4000000 in
set_option maxRecDepth 100000 in
theorem keeps_25 (w w11 : World) (r b vb off cap n : Nat) (W : List ByteArray) (L : List Dat) (c1 c2 c3 c4 c5 c6 c8 c9 c10 c11 c12 c13 c14 c16 c17 c18 c19 c20 c21 c22 c23 c24 c25 c26 c27 c28 c29 c30 c31 c32 c33 c34 c35 c36 c37 c38 c39 c40 c41 c42 c43 c44 c45 c46 c47 c48 c49 c50 c51 c52 c53 c54 c55 c56 c57 c58 c59 c60 c61 c62 c63 c64 c65 c66 c67 c68 c69 c70 c71 c72 c73 c74 c75 c76 c77 c78 c79 c80 c81 c82 c83 c84 c85 c86 c87 c88 c89 c90 c91 c92 c93 c94 c95 c96 c97 c98 c99 c100 c101 c102 c103 c104 c105 c106 c107 c108 c109 c110 c111 c112 c113 c114 c115 c116 c117 c118 c119 c120 c121 c122 c123 c124 : Value) (hr1 : r < 20) (t2 : n ≤ r + 1) (t3 : n + 1 ≤ cap) (t4 : cap ≤ 9223372036854775807)
    (F1 : Hid (Below w.heap.size w w11)) (F2 : ∃ G, CA G w11 (.pointer (some ⟨b, 0, none⟩)) L (1 + (r : Int)) 1 0) (F3 : Hid (L.map (·.1) = W.drop (n + 1 - (1 + r)))) (F4 : vb < w11.heap.size)
    (HL : Hid (W.length = n + 1)) (F7 : Hid (RdS w11 (.slice (some ⟨vb, off, none⟩) W.length cap) W)) :
    Code.wp Try.prog code25 (bodyPost Try.prog Try.f3 (TrueBelow w)) ⟨#[.int .i64 (1 + (r : Int)), c1, c2, c3, c4, c5, c6, .pointer (some ⟨b, 0, none⟩), c8, c9, c10, c11, c12, c13, c14, .slice (some ⟨vb, off, none⟩) (n + 1) cap, c16, c17, c18, c19, c20, c21, c22, c23, c24, c25, c26, c27, c28, c29, c30, c31, c32, c33, c34, c35, c36, c37, c38, c39, c40, c41, c42, c43, c44, c45, c46, c47, c48, c49, c50, c51, c52, c53, c54, c55, c56, c57, c58, c59, c60, c61, c62, c63, c64, c65, c66, c67, c68, c69, c70, c71, c72, c73, c74, c75, c76, c77, c78, c79, c80, c81, c82, c83, c84, c85, c86, c87, c88, c89, c90, c91, c92, c93, c94, c95, c96, c97, c98, c99, c100, c101, c102, c103, c104, c105, c106, c107, c108, c109, c110, c111, c112, c113, c114, c115, c116, c117, c118, c119, c120, c121, c122, c123, c124], []⟩ w11 := by
  conv => arg 2; whnf
  obtain ⟨G, f2⟩ := F2
  have K8 := Lib.hid (ca_keys f2.drew)
  have FF4 := Lib.hid F4
  clear f2 F4
  obtain ⟨d, hd⟩ : ∃ d : Nat, d = n + 1 - (1 + r) := ⟨_, rfl⟩
  have hw1 : IntKind.i64.wrap ((n : Int) + 1 - (1 + (r : Int))) = (n : Int) + 1 - (1 + (r : Int)) := IntWalk.i64_in _ (by omega)
  have hif : (if 1 + (r : Int) < (n : Int) + 1 then (n : Int) + 1 - (1 + (r : Int)) else 0) = (d : Int) := by split <;> omega
  have XD : Hid (∀ W', Below w11.drew.heap.size w11.drew W' → RdS W' (.slice (some ⟨vb, off + d, none⟩) (n + 1 - d) (cap - d)) (W.drop d)) := fun W' hW => by
    have X := rds_sub F7.out (lo := d) (hi := n + 1) (by omega) (by rw [HL.out]; omega)
    rw [List.take_of_length_le (by rw [List.length_drop, HL.out]; omega)] at X
    exact drew_below (vb := vb) X hW (by intro x hx; cases hx; exact FF4.out)
  have E : Hid (L.map (·.1) = W.drop d) := by show _ = _; rw [F3.out, hd]
  have hd1 : (d : Int) ≤ (n : Int) + 1 := by omega
  have hd2 : (d : Int) ≤ (cap : Int) := by omega
  have hd3 : (0 : Int) ≤ (d : Int) := by omega
  have hd4 : ¬ cap = d := by omega
  clear hd
  go_wp2_with (fail)
  go_region_with (first | (go_at_call 14; refine (K8.out).mono ?_; rintro e' w12 ⟨v12, rfl, X1, X2, X3⟩; have H1 := Lib.hid X1; have H2 := Lib.hid X2; clear X1 X2 X3) | (go_at_call 13; refine (same_eq H1.out (XD.out _ H2.out) E.out).mono ?_; rintro _ w13 ⟨rfl, q13, rfl⟩))
  all_goals go_wp2
  all_goals go_ret
  all_goals exact ⟨rfl, keeps_below F1.out H2.out q13⟩

end Go.Proofs.Ytbmkeapebmlggaa
