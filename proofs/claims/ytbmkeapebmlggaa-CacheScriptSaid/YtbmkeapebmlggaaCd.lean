/-
  Get and Put of the cache.
-/
import Derived.Test.YtbmkeapebmlggaaCc
namespace Go.Proofs.Ytbmkeapebmlggaa
open Go.RowKit Go.Vs Go.Maps Go.ChangeMaps Go.WideMaps

theorem Cch.setMiss {w : World} {b mb : Nat} {es : List En} {room h m : Int} (C : Cch w b mb es room h m) (m' : Int) :
    Cch (w.setCell ⟨b, 8, none⟩ (.int .i64 m')) b mb es room h m' ∧ Turns (foot b mb es) w (w.setCell ⟨b, 8, none⟩ (.int .i64 m')) := by
  have hmb := C.mb_ne
  obtain ⟨s0, s1, s2, p0, n0, hh⟩ := C.head
  have hm : smap (w.setCell ⟨b, 8, none⟩ (.int .i64 m')) Try.prog 9 mb es.length (finder es) :=
    C.map.block (hset_other _ _ _ _ _ (fun e => hmb (by rw [e]; simp)))
  have hn := C.nodup
  refine ⟨⟨⟨⟨s0, s1, s2, p0, n0, hset_same hh 8 _⟩, fun e he => isEn_block (C.ent e he) (hset_other _ _ _ _ _ (fun h => ?_)), hn, ?_⟩, hm, C.keys, C.sizes⟩, (Turns.refl _ _).setCell (fun _ => Or.inl rfl) _⟩
  · simp only [List.nodup_cons] at hn
    exact hn.1 (by rw [← h]; exact List.mem_map_of_mem he)
  · refine links_stay _ C.links (fun x _ => ?_) (fun x _ => ?_)
    · exact cell_setCell_other _ _ _ _ (Or.inr (by simp)) rfl
    · exact cell_setCell_other _ _ _ _ (Or.inr (by simp)) rfl

theorem Cch.setHit {w : World} {b mb : Nat} {es : List En} {room h m : Int} (C : Cch w b mb es room h m) (h' : Int) :
    Cch (w.setCell ⟨b, 7, none⟩ (.int .i64 h')) b mb es room h' m ∧ Turns (foot b mb es) w (w.setCell ⟨b, 7, none⟩ (.int .i64 h')) := by
  have hmb := C.mb_ne
  obtain ⟨s0, s1, s2, p0, n0, hh⟩ := C.head
  have hm : smap (w.setCell ⟨b, 7, none⟩ (.int .i64 h')) Try.prog 9 mb es.length (finder es) :=
    C.map.block (hset_other _ _ _ _ _ (fun e => hmb (by rw [e]; simp)))
  have hn := C.nodup
  refine ⟨⟨⟨⟨s0, s1, s2, p0, n0, hset_same hh 7 _⟩, fun e he => isEn_block (C.ent e he) (hset_other _ _ _ _ _ (fun h => ?_)), hn, ?_⟩, hm, C.keys, C.sizes⟩, (Turns.refl _ _).setCell (fun _ => Or.inl rfl) _⟩
  · simp only [List.nodup_cons] at hn
    exact hn.1 (by rw [← h]; exact List.mem_map_of_mem he)
  · refine links_stay _ C.links (fun x _ => ?_) (fun x _ => ?_)
    · exact cell_setCell_other _ _ _ _ (Or.inr (by simp)) rfl
    · exact cell_setCell_other _ _ _ _ (Or.inr (by simp)) rfl

set_option maxHeartbeats 1000000 in
theorem get_miss1 {w : World} {b mb : Nat} {es : List En} {room h m : Int} (C : Cch w b mb es room h m) (key stamp : ByteArray) (hk : key.size ≤ maxLen) (hm : 0 ≤ m ∧ m ≤ 1000000)
    (hf : finder es key.data.toList = none) :
    Calls Try.prog 15 #[.pointer (some ⟨b, 0, none⟩), .string key, .string stamp] w fun r w' => r = .returned (.tuple #[.string ⟨#[]⟩, .bool false]) ∧ w' = w.setCell ⟨b, 8, none⟩ (.int .i64 (m + 1)) := by
  obtain ⟨s0, s1, s2, p0, n0, hh⟩ := C.head
  have c6 : w.cell? ⟨b, 6, none⟩ = some (.map (some mb)) := cell_of_heap hh rfl
  have c8 : w.cell? ⟨b, 8, none⟩ = some (.int .i64 m) := cell_of_heap hh rfl
  have f8 : w.frozen? ⟨b, 8, none⟩ = false := frozen_of_heap hh 8
  have hl : (Instr.lookup 54 (.map (some mb)) (.string key) true).run Try.prog w = .ok (.tuple #[.pointer none, .bool false]) w := by
    have := C.map.look law9 Try.underlying54 (zero55 w) (keyOf_string_mk Try.underlying9 hk)
    rw [hf] at this
    exact this
  obtain ⟨hm1, hm2⟩ := hm
  clear hh C hf
  go_enter Try.func15, Try.ntmps15
  go_wp2
  go_ret2
  exact ⟨rfl, rfl⟩

set_option maxHeartbeats 1000000 in
theorem get_miss2 {w : World} {b mb : Nat} {es l1 l2 : List En} {e : En} {room h m : Int} (C : Cch w b mb es room h m) (key stamp : ByteArray) (hk : key.size ≤ maxLen) (hm : 0 ≤ m ∧ m ≤ 1000000)
    (hes : es = l1 ++ e :: l2) (hf : finder es key.data.toList = some (P0 e.blk)) (hst : e.stamp ≠ stamp) :
    Calls Try.prog 15 #[.pointer (some ⟨b, 0, none⟩), .string key, .string stamp] w fun r w' => r = .returned (.tuple #[.string ⟨#[]⟩, .bool false]) ∧ w' = w.setCell ⟨b, 8, none⟩ (.int .i64 (m + 1)) := by
  obtain ⟨s0, s1, s2, p0, n0, hh⟩ := C.head
  obtain ⟨p1, n1, he⟩ := C.ent e (by rw [hes]; simp)
  have c6 : w.cell? ⟨b, 6, none⟩ = some (.map (some mb)) := cell_of_heap hh rfl
  have c8 : w.cell? ⟨b, 8, none⟩ = some (.int .i64 m) := cell_of_heap hh rfl
  have f8 : w.frozen? ⟨b, 8, none⟩ = false := frozen_of_heap hh 8
  have e1 : w.cell? ⟨e.blk, 1, none⟩ = some (.string e.stamp) := cell_of_heap he rfl
  have hl : (Instr.lookup 54 (.map (some mb)) (.string key) true).run Try.prog w = .ok (.tuple #[.pointer (some ⟨e.blk, 0, none⟩), .bool true]) w := by
    have := C.map.look law9 Try.underlying54 (zero55 w) (keyOf_string_mk Try.underlying9 hk)
    rw [hf] at this
    exact this
  obtain ⟨hm1, hm2⟩ := hm
  have hb : (e.stamp.toList == stamp.toList) = false := str_ne hst
  clear hh C hf he hes hst
  go_enter Try.func15, Try.ntmps15
  go_wp2
  go_ret2
  exact ⟨rfl, rfl⟩

theorem finder_moved {l1 l2 : List En} {e : En} (hk : (l1 ++ e :: l2).Pairwise (fun x y => x.key ≠ y.key)) : finder (l1 ++ l2 ++ [e]) = finder (l1 ++ e :: l2) := by
  obtain ⟨h1, h2, h3⟩ := List.pairwise_append.1 hk
  obtain ⟨h4, h5⟩ := List.pairwise_cons.1 h2
  funext s
  show ((l1 ++ l2 ++ [e]).find? (fun e => decide (e.key.data.toList = s))).map (fun e => P0 e.blk) = ((l1 ++ e :: l2).find? (fun e => decide (e.key.data.toList = s))).map (fun e => P0 e.blk)
  congr 1
  rw [List.find?_append, List.find?_append, List.find?_append]
  cases hf : l1.find? (fun e => decide (e.key.data.toList = s)) with
  | some x => simp
  | none =>
    simp only [Option.none_or]
    by_cases he : e.key.data.toList = s
    · have hn : l2.find? (fun e => decide (e.key.data.toList = s)) = none := by
        rw [List.find?_eq_none]
        intro x hx
        simpa using fun h => h4 x hx (str_inj (he.trans h.symm))
      rw [hn]
      simp [he]
    · simp [he]

theorem keys_moved {l1 l2 : List En} {e : En} (hk : (l1 ++ e :: l2).Pairwise (fun x y => x.key ≠ y.key)) : (l1 ++ l2 ++ [e]).Pairwise (fun x y => x.key ≠ y.key) := by
  refine (List.Perm.pairwise_iff (fun h => Ne.symm h) ?_).1 hk
  rw [List.append_assoc]
  exact List.Perm.append_left _ (List.perm_append_comm (l₁ := [e]) (l₂ := l2))

theorem endWorld_other {w : World} {b e l k : Nat} (h1 : k ≠ b) (h2 : k ≠ e) (h3 : k ≠ l) : (endWorld w b e l).heap[k]? = w.heap[k]? := by
  unfold endWorld
  rw [hset_other _ _ _ _ _ h1, hset_other _ _ _ _ _ h3, hset_other _ _ _ _ _ h2, hset_other _ _ _ _ _ h2]
theorem cutWorld_other {w : World} {p n k : Nat} (h1 : k ≠ p) (h2 : k ≠ n) : (cutWorld w p n).heap[k]? = w.heap[k]? := by
  unfold cutWorld
  rw [hset_other _ _ _ _ _ h2, hset_other _ _ _ _ _ h1]
theorem turns_end {F : Nat → Prop} {a w : World} (h : Turns F a w) {b e l : Nat} (h1 : b < a.heap.size → F b) (h2 : e < a.heap.size → F e) (h3 : l < a.heap.size → F l) : Turns F a (endWorld w b e l).drew :=
  ((((h.setCell (p := ⟨e, 3, none⟩) h2 _).setCell (p := ⟨e, 4, none⟩) h2 _).setCell (p := ⟨l, 4, none⟩) h3 _).setCell (p := ⟨b, 3, none⟩) h1 _).drew
theorem turns_cut {F : Nat → Prop} {a w : World} (h : Turns F a w) {p n : Nat} (h1 : p < a.heap.size → F p) (h2 : n < a.heap.size → F n) : Turns F a (cutWorld w p n).drew :=
  ((h.setCell (p := ⟨p, 4, none⟩) h1 _).setCell (p := ⟨n, 3, none⟩) h2 _).drew
theorem mem_sub {b : Nat} {l1 l2 : List En} {e : En} {x : Nat} (h : x ∈ b :: blks (l1 ++ l2)) : x ∈ b :: blks (l1 ++ e :: l2) := by
  simp only [blks, List.map_append, List.map_cons, List.mem_cons, List.mem_append] at h ⊢
  rcases h with h | h | h
  · exact Or.inl h
  · exact Or.inr (Or.inl h)
  · exact Or.inr (Or.inr (Or.inr h))

/-- What a hit leaves. -/
def HitPost (b mb : Nat) (es es' : List En) (room h m : Int) (v : ByteArray) (w : World) (r : Ending) (w' : World) : Prop :=
  r = .returned (.tuple #[.string v, .bool true]) ∧ Cch w' b mb es' room (h + 1) m ∧ Turns (foot b mb es) w w'

set_option maxHeartbeats 1000000 in
theorem get_hit {w : World} {b mb : Nat} {es l1 l2 : List En} {e : En} {room h m : Int} (C : Cch w b mb es room h m) (key stamp : ByteArray) (hk : key.size ≤ maxLen) (hm : 0 ≤ h ∧ h ≤ 1000000)
    (hes : es = l1 ++ e :: l2) (hf : finder es key.data.toList = some (P0 e.blk)) (hst : e.stamp = stamp) :
    Calls Try.prog 15 #[.pointer (some ⟨b, 0, none⟩), .string key, .string stamp] w (HitPost b mb es (l1 ++ l2 ++ [e]) room h m e.val w) := by
  obtain ⟨s0, s1, s2, p0, n0, hh⟩ := C.head
  obtain ⟨p1, n1, he⟩ := C.ent e (by rw [hes]; simp)
  have c6 : w.cell? ⟨b, 6, none⟩ = some (.map (some mb)) := cell_of_heap hh rfl
  have c7 : w.cell? ⟨b, 7, none⟩ = some (.int .i64 h) := cell_of_heap hh rfl
  have f7 : w.frozen? ⟨b, 7, none⟩ = false := frozen_of_heap hh 7
  have e1 : w.cell? ⟨e.blk, 1, none⟩ = some (.string e.stamp) := cell_of_heap he rfl
  have hl : (Instr.lookup 54 (.map (some mb)) (.string key) true).run Try.prog w = .ok (.tuple #[.pointer (some ⟨e.blk, 0, none⟩), .bool true]) w := by
    have := C.map.look law9 Try.underlying54 (zero55 w) (keyOf_string_mk Try.underlying9 hk)
    rw [hf] at this
    exact this
  obtain ⟨hm1, hm2⟩ := hm
  have hb : (e.stamp.toList == stamp.toList) = true := by rw [hst]; exact str_eq _
  -- the world behind the count
  obtain ⟨C7, T7⟩ := C.setHit (h + 1)
  obtain ⟨A, p, n, D, -, -, hpe, hen, hp, hn, hL⟩ := C7.nbrs hes
  obtain ⟨R2, E2, N2⟩ := C7.toRng.cut hes hL
  obtain ⟨l, hl1, hl2, hl3, hl4, R3⟩ := R2.end_ E2 N2
  obtain ⟨p2, n2, he2⟩ := E2
  have k1 : Calls Try.prog 29 #[.pointer (some ⟨b, 0, none⟩), .pointer (some ⟨e.blk, 0, none⟩)] (w.setCell ⟨b, 7, none⟩ (.int .i64 (h + 1))) fun e w' => e = .returned (.tuple #[]) ∧ w' = (cutWorld (w.setCell ⟨b, 7, none⟩ (.int .i64 (h + 1))) p n).drew :=
    cut_any (w.setCell ⟨b, 7, none⟩ (.int .i64 (h + 1))) b e.blk p n _ _ hpe.2 hen.1 hpe.1 hen.2 (C7.frozen hp 4) (C7.frozen hn 3)
  have k2 : Calls Try.prog 27 #[.pointer (some ⟨b, 0, none⟩), .pointer (some ⟨e.blk, 0, none⟩)] (cutWorld (w.setCell ⟨b, 7, none⟩ (.int .i64 (h + 1))) p n).drew fun r w' => r = .returned (.tuple #[]) ∧ w' = (endWorld (cutWorld (w.setCell ⟨b, 7, none⟩ (.int .i64 (h + 1))) p n).drew b e.blk l).drew :=
    end_any (cutWorld (w.setCell ⟨b, 7, none⟩ (.int .i64 (h + 1))) p n).drew b e.blk l _ _ _ hl3 (cell_of_heap he2 rfl) (cell_of_heap he2 rfl) hl4 (R2.frozen (by simp) 3) (frozen_of_heap he2 3) (frozen_of_heap he2 4) (R2.frozen hl1 4) (fun h => N2 (by rw [← h]; simp)) hl2
  have hval : (endWorld (cutWorld (w.setCell ⟨b, 7, none⟩ (.int .i64 (h + 1))) p n).drew b e.blk l).drew.cell? ⟨e.blk, 2, none⟩ = some (.string e.val) := by
    obtain ⟨p4, n4, h4⟩ := R3.ent e (by simp)
    exact cell_of_heap h4 rfl
  have K1 := Lib.hid k1
  have K2 := Lib.hid k2
  have hfin : HitPost b mb es (l1 ++ l2 ++ [e]) room h m e.val w (.returned (.tuple #[.string e.val, .bool true])) (endWorld (cutWorld (w.setCell ⟨b, 7, none⟩ (.int .i64 (h + 1))) p n).drew b e.blk l).drew := by
    have hmb := C.mb_ne
    have heb : e.blk ∈ b :: blks es := by rw [hes]; simp
    have hlb : l ∈ b :: blks es := by rw [hes]; exact mem_sub hl1
    have hne : ∀ x, x ∈ b :: blks es → mb ≠ x := fun x hx h => hmb (h ▸ hx)
    refine ⟨rfl, ⟨R3, ?_, ?_, ?_⟩, ?_⟩
    · have hk := C.keys
      rw [hes] at hk
      have hlen : (l1 ++ l2 ++ [e]).length = es.length := by rw [hes]; simp
      rw [finder_moved hk, hlen, ← hes]
      refine C.map.block ?_
      have a1 := endWorld_other (w := (cutWorld (w.setCell ⟨b, 7, none⟩ (.int .i64 (h + 1))) p n).drew) (hne b (by simp)) (hne _ heb) (hne l hlb)
      have a2 := cutWorld_other (w := w.setCell ⟨b, 7, none⟩ (.int .i64 (h + 1))) (hne p hp) (hne n hn)
      have a3 := hset_other w b 7 (.int .i64 (h + 1)) mb (hne b (by simp))
      rw [hdrew, a1, hdrew, a2, a3]
    · have hk := C.keys
      rw [hes] at hk
      exact keys_moved hk
    · intro x hx
      refine C.sizes x ?_
      rw [hes]
      simp only [List.mem_append, List.mem_cons, List.not_mem_nil, or_false] at hx ⊢
      rcases hx with (h | h) | h
      · exact Or.inl h
      · exact Or.inr (Or.inr h)
      · exact Or.inr (Or.inl h)
    · exact turns_end (turns_cut T7 (fun _ => foot_of_mem hp) (fun _ => foot_of_mem hn)) (fun _ => Or.inl rfl) (fun _ => foot_of_mem heb) (fun _ => foot_of_mem hlb)
  have FN := Lib.hid hfin
  generalize hW2 : (cutWorld (w.setCell ⟨b, 7, none⟩ (.int .i64 (h + 1))) p n).drew = W2 at *
  generalize hW3 : (endWorld W2 b e.blk l).drew = W3 at *
  have X2 := Lib.hid hW2
  have X3 := Lib.hid hW3
  clear k1 k2 hfin hW2 hW3 R3 R2 N2 he2 hl3 hl4 hpe hen C7 T7 C hf he hes hst hh hL hp hn hl1 hl2
  go_enter Try.func15, Try.ntmps15
  go_wp2_with (first | (go_at_call 29; refine (K1.out).mono ?_; rintro e' w' ⟨rfl, rfl⟩) | (go_at_call 27; refine (K2.out).mono ?_; rintro e' w' ⟨rfl, rfl⟩))
  go_ret2
  exact FN.out

end Go.Proofs.Ytbmkeapebmlggaa
