/-
  The document's cache: Get, New.
-/
import Derived.Test.YtbmkeapebmlggaaRc
namespace Go.Proofs.Ytbmkeapebmlggaa
open Go.RowKit Go.Vs Go.Maps Go.ChangeMaps Go.WideMaps

theorem rs_miss {F : Nat → Prop} {w : World} {b : Nat} {L : List Dat} {room h m : Int} (c : RS F w b L room h m) (n : Int) :
    RS (Fp F w (w.setCell ⟨b, 3, none⟩ (.int .i64 n))) (w.setCell ⟨b, 3, none⟩ (.int .i64 n)) b L room h n ∧ Turns F w (w.setCell ⟨b, 3, none⟩ (.int .i64 n)) := by
  obtain ⟨v, h1, h2, h3⟩ := c.ex
  refine ⟨⟨⟨v, by rw [hset_same h1]; rfl, own_turns h2 ((Turns.refl (fun y => y = b) w).setCell (fun _ => rfl) _) (fun y hy => (h3 y hy).2), fun y hy => ⟨Or.inl (h3 y hy).1, (h3 y hy).2⟩⟩, Or.inl c.here, ?_⟩, (Turns.refl F w).setCell (fun _ => c.here) _⟩
  rintro y (hy | hy)
  · rw [hsize_set]; exact c.lt y hy
  · exact hy.2

theorem rs_hit {F : Nat → Prop} {w : World} {b : Nat} {L : List Dat} {room h m : Int} (c : RS F w b L room h m) (n : Int) :
    RS (Fp F w (w.setCell ⟨b, 2, none⟩ (.int .i64 n))) (w.setCell ⟨b, 2, none⟩ (.int .i64 n)) b L room n m ∧ Turns F w (w.setCell ⟨b, 2, none⟩ (.int .i64 n)) := by
  obtain ⟨v, h1, h2, h3⟩ := c.ex
  refine ⟨⟨⟨v, by rw [hset_same h1]; rfl, own_turns h2 ((Turns.refl (fun y => y = b) w).setCell (fun _ => rfl) _) (fun y hy => (h3 y hy).2), fun y hy => ⟨Or.inl (h3 y hy).1, (h3 y hy).2⟩⟩, Or.inl c.here, ?_⟩, (Turns.refl F w).setCell (fun _ => c.here) _⟩
  rintro y (hy | hy)
  · rw [hsize_set]; exact c.lt y hy
  · exact hy.2

set_option maxHeartbeats 2000000 in
theorem ref_get_no {F : Nat → Prop} {w : World} {b : Nat} {L : List Dat} {room h m : Int} (c : RS F w b L room h m) (k s : ByteArray) (hm : 0 ≤ m ∧ m ≤ 1000000) (hno : ∀ x ∈ L, x.1 ≠ k) :
    Calls Try.prog 22 #[.pointer (some ⟨b, 0, none⟩), .string k, .string s] w (RLeft F w b (.tuple #[.string ⟨#[]⟩, .bool false]) L room h (m + 1)) := by
  obtain ⟨v, hb, hown, hs⟩ := c.ex
  have K := Lib.hid (ref_find hb (Rd.of_own hown) k (-1) (Or.inl ⟨rfl, hno⟩))
  have q3 : w.cell? ⟨b, 3, none⟩ = some (.int .i64 m) := cell_of_heap hb rfl
  have f3 := frozen_of_heap hb 3
  have CM := Lib.hid (rs_miss c (m + 1))
  clear c hb hown hs hno
  go_enter Try.func22, Try.ntmps22
  go_wp2_with (fail)
  refine (K.out).mono ?_
  rintro _ w ⟨rfl, rfl⟩
  go_wp2_with (fail)
  go_ret2
  exact ⟨rfl, CM.out⟩

set_option maxHeartbeats 2000000 in
theorem ref_get_other {F : Nat → Prop} {w : World} {b : Nat} {L : List Dat} {room h m : Int} (c : RS F w b L room h m) (k s : ByteArray) (hm : 0 ≤ m ∧ m ≤ 1000000) (hl : L.length ≤ 1000) {i : Nat} (hi : i < L.length)
    (hbe : ∀ x ∈ L.take i, x.1 ≠ k) (hk : L[i].1 = k) (hst : L[i].2.1 ≠ s) :
    Calls Try.prog 22 #[.pointer (some ⟨b, 0, none⟩), .string k, .string s] w (RLeft F w b (.tuple #[.string ⟨#[]⟩, .bool false]) L room h (m + 1)) := by
  obtain ⟨v, hb, hown, hs⟩ := c.ex
  have K := Lib.hid (ref_find hb (Rd.of_own hown) k i (Or.inr ⟨i, hi, rfl, hbe, hk⟩))
  obtain ⟨a, cap, rfl, _, hc⟩ := (Rd.of_own hown).shape
  obtain ⟨g, off, rfl, _, _, _, hcell⟩ := hc (by omega)
  obtain ⟨_, c1, _⟩ := RdD.cells hcell hi
  have q0 : w.cell? ⟨b, 0, none⟩ = some (.slice (some ⟨g, off, none⟩) L.length cap) := cell_of_heap hb rfl
  have q3 : w.cell? ⟨b, 3, none⟩ = some (.int .i64 m) := cell_of_heap hb rfl
  have f3 := frozen_of_heap hb 3
  have hq := str_ne hst
  have CM := Lib.hid (rs_miss c (m + 1))
  have ja : (0 : Int) ≤ (i : Int) := by omega
  have jb : (i : Int) < (L.length : Int) := by omega
  clear c hb hown hs hbe hk hst hc hcell
  go_enter Try.func22, Try.ntmps22
  go_wp2_with (fail)
  refine (K.out).mono ?_
  rintro _ w ⟨rfl, rfl⟩
  go_wp2_with (fail)
  go_ret2
  exact ⟨rfl, CM.out⟩

def GetS (b xb : Nat) (c d : Array Value) (w : World) : Prop := w.heap[b]? = some (.cells c 53 (0, 0)) ∧ w.heap[xb]? = some (.cells d 67 (0, 0))

set_option maxHeartbeats 2000000 in
theorem ref_get_hit {F : Nat → Prop} {w : World} {b : Nat} {L : List Dat} {room h m : Int} (c : RS F w b L room h m) (hd : Dist L) (k s : ByteArray) (hh : 0 ≤ h ∧ h ≤ 1000000) (hl : L.length ≤ 1000) {i : Nat} (hi : i < L.length)
    (hbe : ∀ x ∈ L.take i, x.1 ≠ k) (hk : L[i].1 = k) (hst : L[i].2.1 = s) :
    Calls Try.prog 22 #[.pointer (some ⟨b, 0, none⟩), .string k, .string s] w (RLeft F w b (.tuple #[.string L[i].2.2, .bool true]) (pdrop k L ++ [L[i]]) room (h + 1) m) := by
  obtain ⟨v, hb, hown, hs⟩ := c.ex
  obtain ⟨i0, hI, hz0, hz1, hz2⟩ := info_parts Try.info67
  have HI := Lib.hid hI
  have HZ0 := Lib.hid hz0
  have HZ1 := Lib.hid hz1
  have HZ2 := Lib.hid hz2
  have K := Lib.hid (ref_find hb (Rd.of_own hown) k i (Or.inr ⟨i, hi, rfl, hbe, hk⟩))
  obtain ⟨a, cap, rfl, _, hc⟩ := (Rd.of_own hown).shape
  obtain ⟨g, off, rfl, _, _, _, hcell⟩ := hc (by omega)
  obtain ⟨c0, c1, c2⟩ := RdD.cells hcell hi
  have q0 : w.cell? ⟨b, 0, none⟩ = some (.slice (some ⟨g, off, none⟩) L.length cap) := cell_of_heap hb rfl
  have ja : (0 : Int) ≤ (i : Int) := by omega
  have jb : (i : Int) < (L.length : Int) := by omega
  have CC := Lib.hid c
  have HD := Lib.hid hd
  have HLT := Lib.hid c.lt
  have hpl : (pdrop k L).length ≤ 1000 := Nat.le_trans (List.length_filter_le _ _) hl
  generalize hx : L[i] = x at *
  obtain ⟨xk, xs, xv⟩ := x
  simp only at hk hst c0 c1 c2
  subst hk hst
  have hq := str_eq xs
  clear hI hz0 hz1 hz2 c hb hown hs hbe hc hcell hd hx
  go_enter Try.func22, Try.ntmps22
  go_wp2_with (fail)
  refine (K.out).mono ?_
  rintro _ w ⟨rfl, rfl⟩
  go_upto_region 6 with (fail)
  have B1 : Below w.heap.size w (w.alloc (.cells #[.string xk, .string xs, .string xv] 67)) := (Below.refl _ w).alloc (Nat.le_refl _) _
  have C1 := Lib.hid (CC.out.below B1)
  have X1 : Hid ((w.alloc (.cells #[.string xk, .string xs, .string xv] 67)).heap[w.heap.size]? = some (.cells #[.string xk, .string xs, .string xv] 67 (0, 0))) := halloc_new w _
  have T1 : Hid (Turns F w (w.alloc (.cells #[.string xk, .string xs, .string xv] 67))) := turns_of_below B1
  have Z1 : Hid ((w.alloc (.cells #[.string xk, .string xs, .string xv] 67)).heap.size = w.heap.size + 1) := hsize_alloc w _
  clear B1 q0 c0 c1 c2
  generalize w.alloc (.cells #[.string xk, .string xs, .string xv] 67) = w1 at *
  have LX : Hid (∀ k, F k → k < w.heap.size) := Lib.hid HLT.out
  have SZ : Hid (∀ w' : World, ∀ k, Fp F w1 w' k → Fp F w w' k) := fun w' k hk => by
    rcases hk with hk | hk
    · exact Or.inl hk
    · exact Or.inr ⟨by have := Z1.out; omega, hk.2⟩
  generalize hxb : w.heap.size = xb at *
  have HXB := Lib.hid hxb
  clear hxb
  have K := Lib.hid (ref_drop C1.out HD.out (by omega) xk)
  go_wp2_with (fail)
  refine (K.out).mono ?_
  rintro _ w2 ⟨rfl, C2', T2'⟩
  have X2 : Hid (w2.heap[xb]? = some (.cells #[.string xk, .string xs, .string xv] 67 (0, 0))) := (T2'.block xb (by have := Z1.out; omega) (fun hf => Nat.lt_irrefl xb (LX.out xb hf))).trans X1.out
  obtain ⟨v2, hb2, ho2, hs2⟩ := C2'.ex
  have hxy : ∀ y, sblk v2 = some y → y ≠ xb := fun y hy e => by
    rcases (hs2 y hy).1 with h1 | h1
    · have := LX.out y h1; omega
    · have := Z1.out; omega
  have C2 := Lib.hid C2'
  have S12 : Hid (w1.heap.size ≤ w2.heap.size) := T2'.size
  have T2 := Lib.hid (T1.out.trans T2' (fun k _ h => h))
  clear K C2' T2' X1 T1 C1
  generalize hP : pdrop xk L = P at *
  have HP := Lib.hid hP
  clear hP
  obtain ⟨a2, c2', rfl, _⟩ := (Rd.of_own ho2).shape
  have HB2 := Lib.hid hb2
  have HO2 := Lib.hid ho2
  have HS2 := Lib.hid hs2
  have HXY := Lib.hid hxy
  clear hb2 ho2 hs2 hxy
  have HG2 : Hid (GetS b xb #[.slice a2 P.length c2', .int .i64 room, .int .i64 h, .int .i64 m] #[.string xk, .string xs, .string xv] w2.drew) := ⟨HB2.out, X2.out⟩
  go_upto_region 7 with (fail)
  refine wp_region_ord 10 [6, 7, 10] [0, 1, 2, 3, 4, 5, 6, 7, 8, 9, 10] (GetS b xb #[.slice a2 P.length c2', .int .i64 room, .int .i64 h, .int .i64 m] #[.string xk, .string xs, .string xv]) (by kernel_rfl) (by kernel_rfl) HG2.out ?_
  iterate 6 (refine wpOrd_one rfl rfl rfl rfl rfl HG2.out ?_; apply Exists.intro; refine ⟨fun w' hS' => ?_, ?_⟩; (have hS0 : w'.cell? ⟨b, 0, none⟩ = some (.slice a2 P.length c2') := cell_of_heap hS'.1 rfl; have hX0 : w'.cell? ⟨xb, 0, none⟩ = some (.string xk) := cell_of_heap hS'.2 rfl; have hX1 : w'.cell? ⟨xb, 1, none⟩ = some (.string xs) := cell_of_heap hS'.2 rfl; have hX2 : w'.cell? ⟨xb, 2, none⟩ = some (.string xv) := cell_of_heap hS'.2 rfl; go_wp2_with (fail); exact ⟨rfl, rfl, rfl⟩); skip)
  refine wpOrd_loud rfl rfl ?_
  go_wp2_with (fail)
  have HG3 : Hid (GetS b xb #[.slice a2 P.length c2', .int .i64 room, .int .i64 h, .int .i64 m] #[.string xk, .string xs, .string xv] (w2.alloc (.cells #[.string xk, .string xs, .string xv] 67)).drew) :=
    ⟨(halloc_old w2 _ b (lt_of_heap' HB2.out)).trans HB2.out, (halloc_old w2 _ xb (lt_of_heap' X2.out)).trans X2.out⟩
  refine ⟨fun _ => HG3.out, ?_⟩
  refine wpOrd_loud rfl rfl ?_
  refine wpList_append_rd _ rfl _ _ 51 rfl 67 i0 _ 3 48 Try.underlying51 HI.out HZ0.out HZ1.out HZ2.out rfl (by decide) _ _ _ rfl (own_turns HO2.out (((Turns.refl (fun _ => False) w2).alloc _).drew) (fun _ _ h => h)) _ 1 _ rfl (rd_new w2 #[.string xk, .string xs, .string xv] 67 3 1 rfl (by unfold maxLen; omega)).drew (one_dat (xk, xs, xv)) (by unfold maxLen; omega) (by omega) ?_
  intro v3 w3 hown3 hg3 hl3
  have hg3' : (w2.alloc (.cells #[.string xk, .string xs, .string xv] 67)).grownBy w3 (sblk (.slice a2 P.length c2')) := ⟨hg3.os, hg3.tape, hg3.output, hg3.size, hg3.block⟩
  have PU := Lib.hid (rs_pushed (x := (xk, xs, xv)) C2.out HB2.out HS2.out hown3 hg3' hl3)
  have X3 : Hid (w3.heap[xb]? = some (.cells #[.string xk, .string xs, .string xv] 67 (0, 0))) :=
    (((((Turns.refl (fun y => sblk (.slice a2 P.length c2') = some y) w2).alloc _).grown hg3' (fun k e _ => e)).block xb (lt_of_heap' X2.out) (fun e => HXY.out xb e rfl))).trans X2.out
  obtain ⟨a3, c3, rfl, _⟩ := (Rd.of_own hown3).shape
  have HG4 : Hid (GetS b xb #[.slice a2 P.length c2', .int .i64 room, .int .i64 h, .int .i64 m] #[.string xk, .string xs, .string xv] w3) := ⟨PU.out.1, X3.out⟩
  clear hown3 hg3 hg3' hl3
  go_wp2_with (fail)
  refine ⟨fun _ => HG4.out, ?_⟩
  iterate 2 (refine wpOrd_one rfl rfl rfl rfl rfl HG4.out ?_; apply Exists.intro; refine ⟨fun w' hS' => ?_, ?_⟩; (go_wp2_with (fail); exact ⟨rfl, rfl, rfl⟩); skip)
  have s0 : w3.cell? ⟨b, 0, none⟩ = some (.slice a2 P.length c2') := cell_of_heap PU.out.1 rfl
  have f0 := frozen_of_heap PU.out.1 0
  refine wpOrd_loud rfl rfl ?_
  go_wp2_with (fail)
  refine ⟨(fun h => by cases h), ?_⟩
  refine wpOrd_end ?_
  have hbx : xb ≠ b := fun e => by have := LX.out b CC.out.here; omega
  have X4 : Hid ((w3.setCell ⟨b, 0, none⟩ (.slice a3 (P.length + 1) c3)).heap[xb]? = some (.cells #[.string xk, .string xs, .string xv] 67 (0, 0))) := (hset_other w3 b 0 _ xb hbx).trans X3.out
  have C4 := Lib.hid PU.out.2.1
  have T4 := Lib.hid PU.out.2.2
  clear s0 f0 PU X3 X2 HG2 HG3 HG4 HB2 HO2 HS2
  generalize w3.setCell ⟨b, 0, none⟩ (.slice a3 (P.length + 1) c3) = w4 at *
  have CF : Hid (RS (Fp F w w4) w4 b (P ++ [(xk, xs, xv)]) room h m) := C4.out.mono (fun k hk => SZ.out w4 k (Fp.up T4.out.size S12.out k hk)) (fun k hk => by
    rcases hk with hk | hk
    · have h1 := LX.out k hk; have h2 := T2.out.size; have h3 := T4.out.size; have h4 := HXB.out; omega
    · exact hk.2)
  have TF : Hid (Turns F w w4) := T2.out.trans T4.out (fun k hk hf => by
    rcases hf with hf | hf
    · exact hf
    · have h1 := Z1.out; have h2 := HXB.out; have h3 := hf.1; omega)
  obtain ⟨v4, hb4, _, _⟩ := CF.out.ex
  have q2 : w4.cell? ⟨b, 2, none⟩ = some (.int .i64 h) := cell_of_heap hb4 rfl
  have f2 := frozen_of_heap hb4 2
  have x2 : w4.cell? ⟨xb, 2, none⟩ = some (.string xv) := cell_of_heap X4.out rfl
  have CH := Lib.hid (rs_then (fun k hk => by rw [HXB.out]; exact LX.out k hk) TF.out (rs_hit CF.out (h + 1)).1 (rs_hit CF.out (h + 1)).2)
  clear hb4
  go_wp2_with (fail)
  go_ret2
  exact ⟨rfl, CH.out⟩
end Go.Proofs.Ytbmkeapebmlggaa
