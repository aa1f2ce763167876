/-
  The document's cache: a key's entry dropped.
-/
import Derived.Test.YtbmkeapebmlggaaRa
namespace Go.Proofs.Ytbmkeapebmlggaa
open Go.RowKit Go.Vs Go.Maps Go.ChangeMaps Go.WideMaps

theorem Try.info67 : (Try.prog.info? 67).map (fun i => (i.zero, i.size, i.bytes)) = some (some (.agg #[.string ⟨#[]⟩, .string ⟨#[]⟩, .string ⟨#[]⟩]), 3, 48) := by kernel_rfl
theorem size67 (w : World) : (sizeOf 67).run Try.prog w = .ok 3 w := by kernel_rfl

/-- The document's cache at block b, of entries L, within F. -/
structure RS (F : Nat → Prop) (w : World) (b : Nat) (L : List Dat) (room h m : Int) : Prop where
  ex : ∃ v, w.heap[b]? = some (.cells #[v, .int .i64 room, .int .i64 h, .int .i64 m] 53 (0, 0)) ∧ w.ownsRow 0 67 3 v L.length (L.flatMap encD) ∧ ∀ y, sblk v = some y → F y ∧ y ≠ b
  here : F b
  lt : ∀ k, F k → k < w.heap.size

theorem pdrop_none {k : ByteArray} {L : List Dat} (h : ∀ x ∈ L, x.1 ≠ k) : pdrop k L = L := by
  unfold pdrop
  exact List.filter_eq_self.2 fun x hx => by simpa using h x hx

theorem pfind_none {k : ByteArray} {L : List Dat} (h : ∀ x ∈ L, x.1 ≠ k) : pfind k L = none := by
  unfold pfind
  exact List.find?_eq_none.2 fun x hx => by simpa using h x hx

theorem pdrop_split {k : ByteArray} {A B : List Dat} {x : Dat} (hd : Dist (A ++ x :: B)) (h : x.1 = k) : pdrop k (A ++ x :: B) = A ++ B ∧ pfind k (A ++ x :: B) = some x := by
  obtain ⟨h1, h2, h3⟩ := List.pairwise_append.1 hd
  obtain ⟨h4, h5⟩ := List.pairwise_cons.1 h2
  have n1 : ∀ y ∈ A, y.1 ≠ k := fun y hy => by rw [← h]; exact h3 y hy x (by simp)
  have n2 : ∀ y ∈ B, y.1 ≠ k := fun y hy => by rw [← h]; exact Ne.symm (h4 y hy)
  constructor
  · rw [pdrop_append, pdrop_none n1]
    have e2 : pdrop k (x :: B) = pdrop k B := by unfold pdrop; rw [List.filter_cons]; simp [h]
    rw [e2, pdrop_none n2]
  · unfold pfind
    have : List.find? (fun y => decide (y.1 = k)) A = none := pfind_none n1
    rw [List.find?_append, this]
    simp [h]

theorem pdrop_at {k : ByteArray} {L : List Dat} {i : Nat} (hd : Dist L) (hi : i < L.length) (h : L[i].1 = k) : pdrop k L = L.take i ++ L.drop (i + 1) ∧ pfind k L = some L[i] := by
  have e : L.take i ++ L[i] :: L.drop (i + 1) = L := by rw [List.getElem_cons_drop, List.take_append_drop]
  have := pdrop_split (A := L.take i) (B := L.drop (i + 1)) (x := L[i]) (k := k) (by rw [e]; exact hd) h
  rwa [e] at this

theorem flat_take {T : Type} (enc : T → List Value) (k : Nat) (hk : ∀ x, (enc x).length = k) : ∀ (xs : List T) (i : Nat), (xs.flatMap enc).take (i * k) = (xs.take i).flatMap enc
  | [], i => by simp
  | x :: xs, 0 => by simp
  | x :: xs, i + 1 => by
    rw [List.flatMap_cons, List.take_succ_cons, List.flatMap_cons, ← flat_take enc k hk xs i, List.take_append, hk, List.take_of_length_le (by rw [hk, Nat.add_mul]; omega), show (i + 1) * k - k = i * k by rw [Nat.add_mul]; omega]

theorem flat_drop {T : Type} (enc : T → List Value) (k : Nat) (hk : ∀ x, (enc x).length = k) : ∀ (xs : List T) (i : Nat), (xs.flatMap enc).drop (i * k) = (xs.drop i).flatMap enc
  | [], i => by simp
  | x :: xs, 0 => by simp
  | x :: xs, i + 1 => by
    rw [List.flatMap_cons, List.drop_succ_cons, ← flat_drop enc k hk xs i, List.drop_append, hk, List.drop_of_length_le (by rw [hk, Nat.add_mul]; omega), List.nil_append, show (i + 1) * k - k = i * k by rw [Nat.add_mul]; omega]

theorem rdd_head {w : World} {a : Option Addr} {cap i : Nat} {L : List Dat} (h : RdD w (.slice a L.length cap) L) (hi : i ≤ L.length) : RdD w (sliced a 0 i cap 3) (L.take i) := by
  have := rd_sliced (lo := 0) (hi := i) (by omega) h (Nat.zero_le _) hi
  rw [Nat.zero_mul, List.drop_zero, Nat.sub_zero, flat_take encD 3 (fun _ => rfl)] at this
  unfold RdD
  rw [show (L.take i).length = i by rw [List.length_take]; omega]
  exact this

theorem rdd_tail {w : World} {a : Option Addr} {cap i : Nat} {L : List Dat} (h : RdD w (.slice a L.length cap) L) (hi : i ≤ L.length) : RdD w (sliced a i L.length cap 3) (L.drop i) := by
  have := rd_sliced (lo := i) (hi := L.length) (by omega) h hi (Nat.le_refl _)
  rw [flat_drop encD 3 (fun _ => rfl), List.take_of_length_le (by rw [encD_flat, List.length_drop]; exact Nat.le_refl _)] at this
  unfold RdD
  rw [List.length_drop]
  exact this

theorem own_lt {w : World} {base : Nat} {e : TypeId} {size : Nat} {v : Value} {n : Nat} {xs : List Value} (h : w.ownsRow base e size v n xs) {y : Nat} (hy : sblk v = some y) : y < w.heap.size := by
  rcases h.2 with ⟨rfl, _⟩ | ⟨g, cap, cur, rfl, _, hg, _⟩
  · cases hy
  · injection hy with hy
    subst hy
    exact (Array.getElem?_eq_some_iff.1 hg).1

theorem sblk_len {a : Option Addr} {n c n' c' : Nat} {y : Nat} (h : sblk (.slice a n c) = some y) : sblk (.slice a n' c') = some y := by
  cases a with
  | none => cases h
  | some x => exact h

theorem turns_of_below {F : Nat → Prop} {w w' : World} (t : Below w.heap.size w w') : Turns F w w' := ⟨t.os, t.tape, t.output, t.size, fun k hk _ => t.block k hk⟩

/-- What holds in a region that reads the cache's entries. -/
def DropS (b : Nat) (c : Array Value) (v : Value) (L : List Dat) (w : World) : Prop := w.heap[b]? = some (.cells c 53 (0, 0)) ∧ RdD w v L

theorem DropS.below {b : Nat} {c : Array Value} {v : Value} {L : List Dat} {w w' : World} (h : DropS b c v L w) (t : Below w.heap.size w w') : DropS b c v L w' :=
  ⟨(t.block b (lt_of_heap' h.1)).trans h.1, Rd.kept h.2 t⟩

def RLeft (F : Nat → Prop) (w : World) (b : Nat) (v : Value) (L : List Dat) (room h m : Int) (e : Ending) (w' : World) : Prop :=
  e = .returned v ∧ RS (Fp F w w') w' b L room h m ∧ Turns F w w'

theorem rs_stored {F : Nat → Prop} {w w3 : World} {b : Nat} {L L' : List Dat} {v v3 x1 x2 x3 : Value} {room h m : Int} (c : RS F w b L room h m) (hb : w3.heap[b]? = some (.cells #[v, x1, x2, x3] 53 (0, 0)))
    (hx : x1 = .int .i64 room ∧ x2 = .int .i64 h ∧ x3 = .int .i64 m)
    (t : Turns F w w3) (hown : w3.ownsRow 0 67 3 v3 L'.length (L'.flatMap encD)) (hs : ∀ y, sblk v3 = some y → (F y ∨ w.heap.size ≤ y) ∧ y ≠ b) :
    RS (Fp F w (w3.setCell ⟨b, 0, none⟩ v3)) (w3.setCell ⟨b, 0, none⟩ v3) b L' room h m ∧ Turns F w (w3.setCell ⟨b, 0, none⟩ v3) := by
  obtain ⟨rfl, rfl, rfl⟩ := hx
  have T : Turns F w (w3.setCell ⟨b, 0, none⟩ v3) := t.setCell (fun _ => c.here) v3
  refine ⟨⟨⟨v3, by rw [hset_same hb]; rfl, own_turns hown ((Turns.refl (fun y => y = b) w3).setCell (fun _ => rfl) v3) (fun y hy => (hs y hy).2), fun y hy => ⟨?_, (hs y hy).2⟩⟩, Or.inl c.here, ?_⟩, T⟩
  · rcases (hs y hy).1 with h | h
    · exact Or.inl h
    · exact Or.inr ⟨h, by rw [hsize_set]; exact own_lt hown hy⟩
  · rintro y (h | h)
    · exact Nat.lt_of_lt_of_le (c.lt y h) T.size
    · exact h.2

set_option maxHeartbeats 2000000 in
theorem ref_drop {F : Nat → Prop} {w : World} {b : Nat} {L : List Dat} {room h m : Int} (c : RS F w b L room h m) (hd : Dist L) (hl : L.length ≤ 2000) (k : ByteArray) :
    Calls Try.prog 23 #[.pointer (some ⟨b, 0, none⟩), .string k] w (RLeft F w b (.bool (pfind k L).isSome) (pdrop k L) room h m) := by
  obtain ⟨i0, hi, hz0, hz1, hz2⟩ := info_parts Try.info67
  obtain ⟨v, hb, hown, hs⟩ := c.ex
  have hR : RdD w v L := Rd.of_own hown
  obtain ⟨r, hr⟩ := at_ex k L
  have K := Lib.hid (ref_find hb hR k r hr)
  rcases hr with ⟨rfl, hno⟩ | ⟨i, hi0, rfl, hbe, hk⟩
  · rw [pfind_none hno, pdrop_none hno]
    have CC := Lib.hid c
    clear c hb hown hs hR hno hi hz0 hz1 hz2 hd
    go_enter Try.func23, Try.ntmps23
    go_wp2_with (fail)
    refine (K.out).mono ?_
    rintro _ w ⟨rfl, rfl⟩
    go_wp2_with (fail)
    go_ret
    exact ⟨rfl, ⟨CC.out.ex.imp fun v hv => ⟨hv.1, hv.2.1, fun y hy => ⟨Or.inl (hv.2.2 y hy).1, (hv.2.2 y hy).2⟩⟩, Or.inl CC.out.here, fun x hx => by
      rcases hx with hx | hx
      · exact CC.out.lt x hx
      · exact hx.2⟩, Turns.refl _ _⟩
  · obtain ⟨p1, p2⟩ := pdrop_at hd hi0 hk
    rw [p1, p2]
    obtain ⟨a, cap, rfl, hn, _⟩ := hR.shape
    have hca : L.length ≤ cap := by
      rcases hR.2 with ⟨e, _⟩ | ⟨_, _, e, h3, _⟩
      · injection e; omega
      · injection e with _ _ e; omega
    obtain ⟨V1, hV1⟩ : ∃ V, V = sliced a 0 i cap 3 := ⟨_, rfl⟩
    obtain ⟨V2, hV2⟩ : ∃ V, V = sliced a (i + 1) L.length cap 3 := ⟨_, rfl⟩
    have U1 : Hid (∀ w0 : World, (Instr.sliceAt 51 (.slice a L.length cap) none (some (.int .i64 i)) none).run Try.prog w0 = .ok V1 w0) := fun w0 => by
      rw [hV1]; exact run_sliced_head w0 51 67 3 Try.underlying51 size67 a L.length cap .i64 i (by omega) (by omega)
    have U2 : Hid (∀ w0 : World, (Instr.sliceAt 51 (.slice a L.length cap) (some (.int .i64 ((i : Int) + 1))) none none).run Try.prog w0 = .ok V2 w0) := fun w0 => by
      rw [hV2]; exact run_sliced_tail w0 51 67 3 Try.underlying51 size67 a L.length cap .i64 ((i : Int) + 1) (by omega) (by omega)
    have HS0 : Hid (DropS b #[.slice a L.length cap, .int .i64 room, .int .i64 h, .int .i64 m] (.slice a L.length cap) L w.drew) := ⟨hb, hR⟩
    have HI := Lib.hid hi
    have HZ0 := Lib.hid hz0
    have HZ1 := Lib.hid hz1
    have HZ2 := Lib.hid hz2
    have CC := Lib.hid c
    have W1 : Hid (∀ w0, DropS b #[.slice a L.length cap, .int .i64 room, .int .i64 h, .int .i64 m] (.slice a L.length cap) L w0 → RdD w0 V1 (L.take i)) := fun w0 h0 => by rw [hV1]; exact rdd_head h0.2 (by omega)
    have W2 : Hid (∀ w0, DropS b #[.slice a L.length cap, .int .i64 room, .int .i64 h, .int .i64 m] (.slice a L.length cap) L w0 → RdD w0 V2 (L.drop (i + 1))) := fun w0 h0 => by rw [hV2]; exact rdd_tail h0.2 (by omega)
    clear c hb hown hs hR hi hz0 hz1 hz2 hd hV1 hV2 hbe hk p1 p2
    go_enter Try.func23, Try.ntmps23
    go_wp2_with (fail)
    refine (K.out).mono ?_
    rintro _ w ⟨rfl, rfl⟩
    go_wp2_with (fail)
    refine wp_region_ord 19 [1, 8, 16, 19] [0, 2, 3, 4, 5, 6, 7, 9, 10, 11, 12, 13, 14, 15, 1, 8, 16, 17, 18, 19] (DropS b #[.slice a L.length cap, .int .i64 room, .int .i64 h, .int .i64 m] (.slice a L.length cap) L) (by kernel_rfl) (by kernel_rfl) HS0.out ?_
    iterate 6 (refine wpOrd_one rfl rfl rfl rfl rfl HS0.out ?_; apply Exists.intro; refine ⟨fun w' hS' => ?_, ?_⟩; (have hS0 := cell_of_heap (i := 0) hS'.1 rfl; go_wp2_with (fail); exact ⟨rfl, rfl, rfl⟩); skip)
    refine wpOrd_one rfl rfl rfl rfl rfl HS0.out ?_; apply Exists.intro; refine ⟨fun w' hS' => ?_, ?_⟩; (refine wpList_sliceAt rfl rfl (U1.out w') ?_; go_wp2_with (fail); exact ⟨rfl, rfl, rfl⟩)
    iterate 6 (refine wpOrd_one rfl rfl rfl rfl rfl HS0.out ?_; apply Exists.intro; refine ⟨fun w' hS' => ?_, ?_⟩; (have hS0 := cell_of_heap (i := 0) hS'.1 rfl; go_wp2_with (fail); exact ⟨rfl, rfl, rfl⟩); skip)
    refine wpOrd_one rfl rfl rfl rfl rfl HS0.out ?_; apply Exists.intro; refine ⟨fun w' hS' => ?_, ?_⟩; (refine wpList_sliceAt rfl rfl (U2.out w') ?_; go_wp2_with (fail); exact ⟨rfl, rfl, rfl⟩)
    refine wpOrd_loud rfl rfl ?_
    go_wp2_with (fail)
    have HS1 : Hid (DropS b #[.slice a L.length cap, .int .i64 room, .int .i64 h, .int .i64 m] (.slice a L.length cap) L (w.alloc (.cells #[] 67)).drew) := DropS.below (w := w) HS0.out (((Below.refl _ w).alloc (Nat.le_refl _) _).drew)
    refine ⟨fun _ => HS1.out, ?_⟩
    have O1 : Hid ((w.alloc (.cells #[] 67)).drew.ownsRow 0 67 3 (.slice (some ⟨w.heap.size, 0, none⟩) 0 0) 0 []) := own_new w #[] 67 3 0 rfl (by unfold maxLen; omega)
    have B1 : Hid (Below w.heap.size w (w.alloc (.cells #[] 67)).drew) := ((Below.refl _ w).alloc (Nat.le_refl _) _).drew
    have Z1 : Hid ((w.alloc (.cells #[] 67)).drew.heap.size = w.heap.size + 1) := hsize_alloc w _
    generalize (w.alloc (.cells #[] 67)).drew = w1 at *
    refine wpOrd_loud rfl rfl ?_
    refine wpList_append_rd _ rfl _ _ 51 rfl 67 i0 _ 3 48 Try.underlying51 HI.out HZ0.out HZ1.out HZ2.out rfl (by decide) _ _ _ rfl O1.out _ _ _ rfl (W1.out w1 HS1.out) encD_one (by rw [List.length_take]; unfold maxLen; omega) (by rw [List.length_take]; omega) ?_
    intro v2 w2 hown2 hg2 hl2
    have B2 : Hid (Below w.heap.size w w2) := B1.out.grown hg2 B1.out.size (fun y hy => by injection hy with hy; exact Nat.le_of_eq hy)
    have HS2 : Hid (DropS b #[.slice a L.length cap, .int .i64 room, .int .i64 h, .int .i64 m] (.slice a L.length cap) L w2) := DropS.below (w := w) HS0.out B2.out
    have O2 := Lib.hid hown2
    have L2 : Hid (∀ y, sblk v2 = some y → w.heap.size ≤ y) := fun y hy => by
      rcases hl2 with h | h
      · rw [h] at hy; injection hy with hy; exact Nat.le_of_eq hy
      · rw [h] at hy; injection hy with hy; have := Z1.out; omega
    clear hown2 hg2 hl2
    go_wp2_with (fail)
    refine ⟨fun _ => HS2.out, ?_⟩
    refine wpOrd_loud rfl rfl ?_
    refine wpList_append_rd _ rfl _ _ 51 rfl 67 i0 _ 3 48 Try.underlying51 HI.out HZ0.out HZ1.out HZ2.out rfl (by decide) _ _ _ rfl O2.out _ _ _ rfl (W2.out w2 HS2.out) encD_one (by rw [List.length_take, List.length_drop]; unfold maxLen; omega) (by rw [List.length_take, List.length_drop]; omega) ?_
    intro v3 w3 hown3 hg3 hl3
    have B3 : Hid (Below w.heap.size w w3) := B2.out.grown hg3 B2.out.size (fun y hy => L2.out y hy)
    have HS3 : Hid (DropS b #[.slice a L.length cap, .int .i64 room, .int .i64 h, .int .i64 m] (.slice a L.length cap) L w3) := DropS.below (w := w) HS0.out B3.out
    have O3 := Lib.hid hown3
    have L3 : Hid (∀ y, sblk v3 = some y → w.heap.size ≤ y) := fun y hy => by
      rcases hl3 with h | h
      · exact L2.out y (h ▸ hy)
      · rw [h] at hy; injection hy with hy; have := B2.out.size; omega
    clear hown3 hg3 hl3
    go_wp2_with (fail)
    refine ⟨fun _ => HS3.out, ?_⟩
    iterate 2 (refine wpOrd_one rfl rfl rfl rfl rfl HS3.out ?_; apply Exists.intro; refine ⟨fun w' hS' => ?_, ?_⟩; (have hS0 := cell_of_heap (i := 0) hS'.1 rfl; go_wp2_with (fail); exact ⟨rfl, rfl, rfl⟩); skip)
    obtain ⟨a3, c3, rfl, _⟩ := (Rd.of_own O3.out).shape
    have hS0 := cell_of_heap (i := 0) HS3.out.1 rfl
    have hF0 := frozen_of_heap HS3.out.1 0
    refine wpOrd_loud rfl rfl ?_
    go_wp2_with (fail)
    refine ⟨(fun h => by cases h), ?_⟩
    refine wpOrd_end ?_
    go_wp2_with (fail)
    go_ret
    refine ⟨rfl, rs_stored CC.out HS3.out.1 ⟨rfl, rfl, rfl⟩ (turns_of_below B3.out) (by simpa [List.flatMap_append] using O3.out) (fun y hy => ⟨Or.inr (L3.out y (sblk_len hy)), fun e => ?_⟩)⟩
    have h1 := L3.out y (sblk_len hy)
    have h2 := CC.out.lt b CC.out.here
    omega
end Go.Proofs.Ytbmkeapebmlggaa
