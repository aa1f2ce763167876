/-
  The document's cache: Put.
-/
import Derived.Test.YtbmkeapebmlggaaRb
import Derived.Deep.DeepCutAuto
namespace Go.Proofs.Ytbmkeapebmlggaa
open Go.RowKit Go.Vs Go.Maps Go.ChangeMaps Go.WideMaps

theorem one_dat (x : Dat) : ∀ u ∈ (#[Value.string x.1, Value.string x.2.1, Value.string x.2.2]).toList, u.oneCell' = true := by
  intro u hu
  simp at hu
  rcases hu with rfl | rfl | rfl <;> rfl

theorem Fp.up {F : Nat → Prop} {w w1 w2 : World} (h1 : w1.heap.size ≤ w2.heap.size) (h0 : w.heap.size ≤ w1.heap.size) (k : Nat) (h : Fp (Fp F w w1) w1 w2 k) : Fp F w w2 k := by
  rcases h with (h | h) | h
  · exact Or.inl h
  · exact Or.inr ⟨h.1, Nat.lt_of_lt_of_le h.2 h1⟩
  · exact Or.inr ⟨Nat.le_trans h0 h.1, h.2⟩

theorem RS.mono {F G : Nat → Prop} {w : World} {b : Nat} {L : List Dat} {room h m : Int} (c : RS F w b L room h m) (hF : ∀ k, F k → G k) (hG : ∀ k, G k → k < w.heap.size) : RS G w b L room h m := by
  obtain ⟨v, h1, h2, h3⟩ := c.ex
  exact ⟨⟨v, h1, h2, fun y hy => ⟨hF y (h3 y hy).1, (h3 y hy).2⟩⟩, hF b c.here, hG⟩

/-- Two steps as one. -/
theorem rs_then {F : Nat → Prop} {w w1 w2 : World} {b : Nat} {L : List Dat} {room h m : Int} (hlt : ∀ k, F k → k < w.heap.size) (t1 : Turns F w w1) (c : RS (Fp (Fp F w w1) w1 w2) w2 b L room h m) (t2 : Turns (Fp F w w1) w1 w2) :
    RS (Fp F w w2) w2 b L room h m ∧ Turns F w w2 := by
  refine ⟨c.mono (fun k hk => Fp.up t2.size t1.size k hk) ?_, t1.trans t2 (fun k hk h => ?_)⟩
  · rintro k (h | h)
    · exact Nat.lt_of_lt_of_le (hlt k h) (Nat.le_trans t1.size t2.size)
    · exact h.2
  · rcases h with h | h
    · exact h
    · exact absurd hk (Nat.not_lt_of_le h.1)

/-- An entry appended and stored. -/
theorem rs_pushed {F : Nat → Prop} {w w2 : World} {b : Nat} {L : List Dat} {x : Dat} {v v2 : Value} {room h m : Int} (c : RS F w b L room h m)
    (hb : w.heap[b]? = some (.cells #[v, .int .i64 room, .int .i64 h, .int .i64 m] 53 (0, 0))) (hs : ∀ y, sblk v = some y → F y ∧ y ≠ b)
    (hown : w2.ownsRow 0 67 3 v2 (L.length + 1) (L.flatMap encD ++ (#[Value.string x.1, Value.string x.2.1, Value.string x.2.2]).toList))
    (hg : (w.alloc (.cells #[.string x.1, .string x.2.1, .string x.2.2] 67)).grownBy w2 (sblk v)) (hl : sblk v2 = sblk v ∨ sblk v2 = some (w.alloc (.cells #[.string x.1, .string x.2.1, .string x.2.2] 67)).heap.size) :
    w2.heap[b]? = some (.cells #[v, .int .i64 room, .int .i64 h, .int .i64 m] 53 (0, 0)) ∧
    RS (Fp F w (w2.setCell ⟨b, 0, none⟩ v2)) (w2.setCell ⟨b, 0, none⟩ v2) b (L ++ [x]) room h m ∧ Turns F w (w2.setCell ⟨b, 0, none⟩ v2) := by
  have hlt := c.lt b c.here
  have t : Turns F w w2 := ((Turns.refl F w).alloc _).grown hg (fun k e _ => (hs k e).1)
  have t' : Turns (fun y => sblk v = some y) w w2 := ((Turns.refl _ w).alloc _).grown hg (fun k e _ => e)
  have hb2 : w2.heap[b]? = some (.cells #[v, .int .i64 room, .int .i64 h, .int .i64 m] 53 (0, 0)) := (t'.block b hlt (fun e => (hs b e).2 rfl)).trans hb
  refine ⟨hb2, rs_stored c hb2 ⟨rfl, rfl, rfl⟩ t (by simpa [encD] using hown) (fun y hy => ?_)⟩
  rcases hl with h | h
  · rw [h] at hy; exact ⟨Or.inl (hs y hy).1, (hs y hy).2⟩
  · rw [h] at hy
    injection hy with hy
    rw [hsize_alloc] at hy
    exact ⟨Or.inr (by omega), by omega⟩

/-- A fresh list of entries stored. -/
theorem rs_fresh {F : Nat → Prop} {w w2 : World} {b n : Nat} {L L' : List Dat} {v v2 : Value} {room h m : Int} (c : RS F w b L room h m)
    (hb : w.heap[b]? = some (.cells #[v, .int .i64 room, .int .i64 h, .int .i64 m] 53 (0, 0)))
    (hown : w2.ownsRow 0 67 3 v2 (0 + n) ((#[] : Array Value).toList ++ L'.flatMap encD))
    (hg : (w.alloc (.cells #[] 67)).grownBy w2 (sblk (.slice (some ⟨w.heap.size, 0, none⟩) 0 0))) (hl : sblk v2 = sblk (.slice (some ⟨w.heap.size, 0, none⟩) 0 0) ∨ sblk v2 = some (w.alloc (.cells #[] 67)).heap.size) (hn : n = L'.length := by rfl) :
    w2.heap[b]? = some (.cells #[v, .int .i64 room, .int .i64 h, .int .i64 m] 53 (0, 0)) ∧
    RS (Fp F w (w2.setCell ⟨b, 0, none⟩ v2)) (w2.setCell ⟨b, 0, none⟩ v2) b L' room h m ∧ Turns F w (w2.setCell ⟨b, 0, none⟩ v2) := by
  subst hn
  have hlt := c.lt b c.here
  have t : Below w.heap.size w w2 := ((Below.refl _ w).alloc (Nat.le_refl _) _).grown hg (by rw [hsize_alloc]; omega) (fun k e => by injection e with e; exact Nat.le_of_eq e)
  have hb2 := (t.block b hlt).trans hb
  refine ⟨hb2, rs_stored c hb2 ⟨rfl, rfl, rfl⟩ (turns_of_below t) (by simpa using hown) (fun y hy => ?_)⟩
  rcases hl with h | h
  · rw [h] at hy
    injection hy with hy
    have hy : w.heap.size = y := hy
    exact ⟨Or.inr (Nat.le_of_eq hy), by omega⟩
  · rw [h] at hy
    injection hy with hy
    rw [hsize_alloc] at hy
    exact ⟨Or.inr (by omega), by omega⟩

theorem trim_over {n : Nat} {L : List Dat} (h : L.length = n + 1) : trim n L = L.drop 1 := by
  unfold trim
  rw [h, show n + 1 - n = 1 by omega]

theorem RS.below {F : Nat → Prop} {w w' : World} {b : Nat} {L : List Dat} {room h m : Int} (c : RS F w b L room h m) (t : Below w.heap.size w w') : RS F w' b L room h m := by
  obtain ⟨v, h1, h2, h3⟩ := c.ex
  exact ⟨⟨v, (t.block b (c.lt b c.here)).trans h1, own_turns h2 (turns_of_below (F := fun _ => False) t) (fun _ _ h => h), h3⟩, c.here, fun k hk => Nat.lt_of_lt_of_le (c.lt k hk) t.size⟩

theorem below_drewN (w : World) (n : Nat) : Below w.heap.size w (w.drewN n) := ⟨rfl, rfl, rfl, Nat.le_refl _, fun _ _ => rfl⟩

set_option maxHeartbeats 2000000 in
theorem ref_put {F : Nat → Prop} {w : World} {b : Nat} {L : List Dat} {room h m : Int} (c : RS F w b L room h m) (hd : Dist L) (hl : L.length ≤ room.toNat) (h0 : 0 ≤ room) (h1 : room ≤ 1000) (k s v : ByteArray) :
    Calls Try.prog 24 #[.pointer (some ⟨b, 0, none⟩), .string k, .string s, .string v] w (RLeft F w b (.int .i64 0) (pput room.toNat k s v L) room h m) := by
  obtain ⟨i0, hi, hz0, hz1, hz2⟩ := info_parts Try.info67
  have K := Lib.hid (ref_drop c hd (by omega) k)
  have HLT := Lib.hid c.lt
  have hpl : (pdrop k L).length ≤ room.toNat := Nat.le_trans (List.length_filter_le _ _) hl
  have HI := Lib.hid hi
  have HZ0 := Lib.hid hz0
  have HZ1 := Lib.hid hz1
  have HZ2 := Lib.hid hz2
  clear c hd hi hz0 hz1 hz2
  generalize hP : pdrop k L = P at *
  have HP := Lib.hid hP
  clear hP
  go_enter Try.func24, Try.ntmps24
  go_wp2_with (fail)
  refine (K.out).mono ?_
  rintro _ w1 ⟨rfl, C1', T1'⟩
  obtain ⟨v1, hb1, ho1, hs1⟩ := C1'.ex
  obtain ⟨a1, c1, rfl, _⟩ := (Rd.of_own ho1).shape
  have C1 := Lib.hid C1'
  have T1 := Lib.hid T1'
  have HB1 := Lib.hid hb1
  have HO1 := Lib.hid ho1
  have HS1 := Lib.hid hs1
  have y0 : w1.cell? ⟨b, 0, none⟩ = some (.slice a1 P.length c1) := cell_of_heap hb1 rfl
  have hbl := lt_of_heap' hb1
  clear C1' T1' hb1 ho1 hs1 K
  go_upto_region 3 with (at_builtin; refine wpList_append_rd _ rfl _ _ 51 rfl 67 i0 _ 3 48 Try.underlying51 HI.out HZ0.out HZ1.out HZ2.out rfl (by decide) _ _ _ rfl (own_turns HO1.out ((Turns.refl (fun _ => False) w1).alloc _) (fun _ _ h => h)) _ 1 _ rfl (rd_new w1 #[.string k, .string s, .string v] 67 3 1 rfl (by unfold maxLen; omega)) (one_dat (k, s, v)) (by unfold maxLen; omega) (by omega) ?_; intro v2 w2 hown2 hg2 hl2; have PU := Lib.hid (rs_pushed (x := (k, s, v)) C1.out HB1.out HS1.out hown2 hg2 hl2); obtain ⟨a2, c2, rfl, _⟩ := (Rd.of_own hown2).shape; clear hown2 hg2 hl2; have z0 : w2.cell? ⟨b, 0, none⟩ = some (.slice a1 P.length c1) := cell_of_heap PU.out.1 rfl; have f0 := frozen_of_heap PU.out.1 0)
  have CT := Lib.hid (rs_then HLT.out T1.out PU.out.2.1 PU.out.2.2)
  clear z0 f0 PU C1 T1 HB1 HO1 HS1 y0
  generalize w2.setCell ⟨b, 0, none⟩ (.slice a2 (P.length + 1) c2) = w3 at *
  obtain ⟨v3, hb3, ho3, hs3⟩ := CT.out.1.ex
  have hL2 : (P ++ [(k, s, v)]).length = P.length + 1 := by simp
  have HPP : Hid (pput room.toNat k s v L = trim room.toNat (P ++ [(k, s, v)])) := by show _ = _; unfold pput; rw [HP.out]
  generalize hLL : P ++ [(k, s, v)] = L2 at *
  clear hLL
  have HL2 := Lib.hid hL2
  have hl2a : L2.length ≤ 1001 := by omega
  have hl2b : 1 ≤ L2.length := by omega
  clear hL2
  obtain ⟨a3, c3, rfl, _⟩ := (Rd.of_own ho3).shape
  have HB3 := Lib.hid hb3
  have HO3 := Lib.hid ho3
  have HS3 := Lib.hid hs3
  have z0 : w3.cell? ⟨b, 0, none⟩ = some (.slice a3 L2.length c3) := cell_of_heap hb3 rfl
  have z1 : w3.cell? ⟨b, 1, none⟩ = some (.int .i64 room) := cell_of_heap hb3 rfl
  clear hb3 ho3 hs3
  by_cases hov : room.toNat < L2.length
  · have HT : Hid (pput room.toNat k s v L = L2.drop 1) := by show _ = _; rw [HPP.out, trim_over (by have := HL2.out; omega)]
    have hov' : room < (L2.length : Int) := by omega
    obtain ⟨V, hV⟩ : ∃ V, V = sliced a3 1 L2.length c3 3 := ⟨_, rfl⟩
    have U : Hid (∀ w0 : World, (Instr.sliceAt 51 (.slice a3 L2.length c3) (some (.int .i64 1)) none none).run Try.prog w0 = .ok V w0) := fun w0 => by
      rw [hV]; exact run_sliced_tail w0 51 67 3 Try.underlying51 size67 a3 L2.length c3 .i64 1 (by omega) (by omega)
    have WV : Hid (∀ w0 : World, Below w3.heap.size w3 w0 → RdD w0 V (L2.drop 1)) := fun w0 h0 => by
      rw [hV]; exact rdd_tail (Rd.kept (Rd.of_own HO3.out) h0) (by omega)
    clear hV
    go_quiet (fail)
    have BN := Lib.hid (below_drewN w3 nq)
    have CN : Hid (RS (Fp F w (w3.drewN nq)) (w3.drewN nq) b L2 room h m) := CT.out.1.below BN.out
    have TN := Lib.hid (CT.out.2.trans (turns_of_below (F := F) BN.out) (fun _ _ h => h))
    have HBN : Hid ((w3.drewN nq).heap[b]? = some (.cells #[.slice a3 L2.length c3, .int .i64 room, .int .i64 h, .int .i64 m] 53 (0, 0))) := HB3.out
    have z0' : (w3.drewN nq).cell? ⟨b, 0, none⟩ = some (.slice a3 L2.length c3) := z0
    have hbl3 : b < (w3.drewN nq).heap.size := lt_of_heap' HBN.out
    clear z0 z1
    generalize hw4 : w3.drewN nq = w4 at *
    have HW4 := Lib.hid hw4
    clear hw4
    go_upto_region 4 with (fail)
    refine wp_region_lit ?_
    iterate 6 (refine wpList_by ?_; go_wp2_with (fail); refine nx_intro ?_; skip)
    refine wpList_sliceAt rfl rfl (U.out _) ?_
    go_wp2_with (at_builtin; refine wpList_append_rd _ rfl _ _ 51 rfl 67 i0 _ 3 48 Try.underlying51 HI.out HZ0.out HZ1.out HZ2.out rfl (by decide) _ _ _ rfl (own_new w4 #[] 67 3 0 rfl (by unfold maxLen; omega)) _ _ _ rfl (WV.out _ ((BN.out.alloc BN.out.size _))) encD_one (by rw [List.length_drop]; unfold maxLen; omega) (by rw [List.length_drop]; omega) ?_; intro v5 w5 hown5 hg5 hl5; have P5 := Lib.hid (rs_fresh CN.out HBN.out hown5 hg5 hl5); obtain ⟨a5, c5, rfl, _⟩ := (Rd.of_own hown5).shape; clear hown5 hg5 hl5; have q0 : w5.cell? ⟨b, 0, none⟩ = some (.slice a3 L2.length c3) := cell_of_heap P5.out.1 rfl; have f0 := frozen_of_heap P5.out.1 0)
    go_ret
    have P6 := P5.out.2
    rw [Nat.zero_add, List.length_drop] at P6
    have P7 := rs_then HLT.out TN.out P6.1 P6.2
    unfold RLeft
    rw [HT.out]
    exact ⟨rfl, P7⟩
  · have HT : Hid (pput room.toNat k s v L = L2) := by show _ = _; rw [HPP.out, trim_all (by omega)]
    have hov' : ¬ room < (L2.length : Int) := by omega
    go_quiet (fail)
    go_wp2_with (fail)
    go_ret
    have BN := below_drewN w3 nq
    unfold RLeft
    rw [HT.out]
    refine ⟨rfl, (CT.out.1.below BN).mono (fun k hk => ?_) (fun k hk => ?_), CT.out.2.trans (turns_of_below (F := F) BN) (fun _ _ h => h)⟩
    · exact hk
    · rcases hk with hk | hk
      · exact Nat.lt_of_lt_of_le (HLT.out k hk) CT.out.2.size
      · exact hk.2
end Go.Proofs.Ytbmkeapebmlggaa
