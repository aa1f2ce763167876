/-
  Put of the cache.
-/
import Derived.Test.YtbmkeapebmlggaaCd
namespace Go.Proofs.Ytbmkeapebmlggaa
open Go.RowKit Go.Vs Go.Maps Go.ChangeMaps Go.WideMaps

abbrev Dat := ByteArray × ByteArray × ByteArray
def En.dat (e : En) : Dat := (e.key, e.stamp, e.val)
abbrev dats (es : List En) : List Dat := es.map En.dat
def pdrop (k : ByteArray) (L : List Dat) : List Dat := L.filter (fun x => decide (x.1 ≠ k))
def trim (n : Nat) (L : List Dat) : List Dat := L.drop (L.length - n)
def pput (n : Nat) (k s v : ByteArray) (L : List Dat) : List Dat := trim n (pdrop k L ++ [(k, s, v)])

theorem dats_dropL (k : ByteArray) (es : List En) : dats (dropL k es) = pdrop k (dats es) := by
  unfold dats dropL pdrop
  rw [List.filter_map]
  rfl

theorem trim_cons (n : Nat) (x : Dat) (L : List Dat) (h : n < (x :: L).length) : trim n (x :: L) = trim n L := by
  unfold trim
  simp only [List.length_cons] at h ⊢
  rw [show L.length + 1 - n = (L.length - n) + 1 by omega]
  rfl
theorem trim_le (n : Nat) (L : List Dat) (h : L.length ≤ n) : trim n L = L := by
  unfold trim
  rw [show L.length - n = 0 by omega]; rfl

/-- What a Put leaves. -/
def PutPost (b mb : Nat) (es : List En) (room h m : Int) (k s v : ByteArray) (w : World) (r : Ending) (w' : World) : Prop :=
  r = .returned (.int .i64 0) ∧ ∃ es', Cch w' b mb es' room h m ∧ dats es' = pput room.toNat k s v (dats es) ∧ Turns (foot b mb es) w w' ∧ ∀ x, foot b mb es' x → foot b mb es x ∨ w.heap.size ≤ x

/-- The relation of Put's loop. -/
def PutRel (b mb : Nat) (es : List En) (room h m : Int) (k s v : ByteArray) (w : World) (n : Nat) (w' : World) : Prop :=
  ∃ es', Cch w' b mb es' room h m ∧ es'.length = n ∧ n ≤ 1000001 ∧ trim room.toNat (dats es') = pput room.toNat k s v (dats es) ∧ Turns (foot b mb es) w w' ∧ ∀ x, foot b mb es' x → foot b mb es x ∨ w.heap.size ≤ x

theorem Cch.drew {w : World} {b mb : Nat} {es : List En} {room h m : Int} (C : Cch w b mb es room h m) : Cch w.drew b mb es room h m := C.block fun _ _ => rfl

theorem finder_snoc (es : List En) (e : En) (hn : finder es e.key.data.toList = none) : finder (es ++ [e]) = upd (finder es) e.key.data.toList (some (P0 e.blk)) := by
  funext s
  unfold finder at hn
  show ((es ++ [e]).find? (fun e => decide (e.key.data.toList = s))).map (fun e => P0 e.blk) = if s = e.key.data.toList then some (P0 e.blk) else (es.find? (fun e => decide (e.key.data.toList = s))).map (fun e => P0 e.blk)
  rw [List.find?_append]
  by_cases hs : s = e.key.data.toList
  · subst hs
    rw [Option.map_eq_none_iff] at hn
    rw [hn, if_pos rfl]
    simp
  · rw [if_neg hs, List.find?_cons_of_neg]
    · simp
    · simpa using fun h => hs h.symm

theorem finder_dropL (es : List En) (key : ByteArray) : finder (dropL key es) key.data.toList = none := by
  unfold finder dropL
  rw [Option.map_eq_none_iff, List.find?_eq_none]
  intro x hx
  have := (List.mem_filter.1 hx).2
  simp only [ne_eq, decide_not, Bool.not_eq_eq_eq_not, Bool.not_true, decide_eq_false_iff_not] at this
  simpa using fun h => this (str_inj (by rw [h]))

/-- The entry that a Put lays, put at the ring's end. -/
theorem Cch.put {w1 w2 : World} {b mb : Nat} {es : List En} {room h m : Int} {k s v : ByteArray} (C : Cch w1 b mb es room h m) (hk : k.size ≤ maxLen) (hfn : finder es k.data.toList = none)
    (hm : smap w2 Try.prog 9 mb (es.length + 1) (upd (finder es) k.data.toList (some (P0 w1.heap.size))))
    (ht : (w1.alloc (.cells #[.string k, .string s, .string v, .pointer none, .pointer none] 57)).grownBy w2 (some mb)) :
    ∃ l, l ∈ b :: blks es ∧ l ≠ w1.heap.size ∧ w2.cell? ⟨b, 3, none⟩ = some (P0 l) ∧ w2.cell? ⟨l, 4, none⟩ = some (P0 b) ∧ IsEn w2 ⟨w1.heap.size, k, s, v⟩ ∧ b ≠ w1.heap.size ∧ w2.frozen? ⟨b, 3, none⟩ = false ∧ w2.frozen? ⟨l, 4, none⟩ = false ∧
      Cch (endWorld w2 b w1.heap.size l).drew b mb (es ++ [⟨w1.heap.size, k, s, v⟩]) room h m ∧ Turns (foot b mb es) w1 (endWorld w2 b w1.heap.size l).drew := by
  have hmb := C.mb_ne
  have hlt := C.lt
  have hold : ∀ x, foot b mb es x → x ≠ mb → w2.heap[x]? = w1.heap[x]? := fun x hx hxm => by
    rw [ht.block x (by rw [hsize_alloc]; have := hlt x hx; omega) (by simpa using hxm), halloc_old _ _ _ (hlt x hx)]
  have R : Rng w2 b mb es room h m := C.toRng.block fun x hx => hold x (foot_of_mem hx) (fun e => hmb (e ▸ hx))
  have hmlt := hlt mb (Or.inr (Or.inl rfl))
  have hE : IsEn w2 ⟨w1.heap.size, k, s, v⟩ := by
    refine ⟨.pointer none, .pointer none, ?_⟩
    show w2.heap[w1.heap.size]? = _
    rw [ht.block _ (by rw [hsize_alloc]; omega) (by intro e; injection e with e; omega)]
    exact halloc_new _ _
  have hne : (⟨w1.heap.size, k, s, v⟩ : En).blk ∉ b :: blks es := fun hin => by
    have := hlt _ (foot_of_mem hin)
    exact Nat.lt_irrefl _ this
  obtain ⟨l, h1, h2, h3, h4, R3⟩ := R.end_ hE hne
  have hb : b ≠ w1.heap.size := by have := hlt b (Or.inl rfl); omega
  refine ⟨l, h1, h2, h3, h4, hE, hb, R.frozen (by simp) 3, R.frozen h1 4, ⟨R3, ?_, ?_, ?_⟩, ?_⟩
  · rw [finder_snoc _ _ hfn, List.length_append]
    refine hm.block ?_
    rw [hdrew, endWorld_other (fun e => hmb (by rw [e]; simp)) (by omega) (fun e => hmb (by rw [e]; exact h1))]
  · rw [List.pairwise_append]
    refine ⟨C.keys, by simp, fun x hx y hy => ?_⟩
    simp only [List.mem_singleton] at hy
    subst hy
    unfold finder at hfn
    rw [Option.map_eq_none_iff, List.find?_eq_none] at hfn
    have := hfn x hx
    simp at this
    exact fun e => this (by rw [e])
  · intro x hx
    rcases List.mem_append.1 hx with hx | hx
    · exact C.sizes x hx
    · simp only [List.mem_singleton] at hx; subst hx; exact hk
  · refine turns_end (((Turns.refl _ _).alloc _).grown ht ?_) (fun _ => Or.inl rfl) (fun h => absurd h (Nat.lt_irrefl _)) (fun _ => foot_of_mem h1)
    intro x hx _
    injection hx with hx
    exact Or.inr (Or.inl hx.symm)

theorem foot_dropL {b mb : Nat} {es : List En} {k : ByteArray} {x : Nat} (h : foot b mb (dropL k es) x) : foot b mb es x := by
  rcases h with h | h | h
  · exact Or.inl h
  · exact Or.inr (Or.inl h)
  · refine Or.inr (Or.inr ?_)
    obtain ⟨e, he, rfl⟩ := List.mem_map.1 h
    exact List.mem_map_of_mem ((List.mem_filter.1 he).1)

theorem put_start {w w1 w3 : World} {b mb : Nat} {es : List En} {room h m : Int} {key stamp val : ByteArray} (T1 : Turns (foot b mb es) w w1)
    (C3 : Cch w3 b mb (dropL key es ++ [⟨w1.heap.size, key, stamp, val⟩]) room h m) (T3 : Turns (foot b mb (dropL key es)) w1 w3) (hlen : es.length ≤ 1000000) :
    PutRel b mb es room h m key stamp val w ((dropL key es).length + 1) w3 := by
  have LEN : (dropL key es).length ≤ es.length := List.length_filter_le _ _
  refine ⟨_, C3, by simp, by omega, ?_, T1.trans T3 (fun x _ hx => foot_dropL hx), ?_⟩
  · unfold pput dats
    rw [List.map_append]
    have := dats_dropL key es
    unfold dats at this
    rw [this]
    rfl
  · rintro x (hx | hx | hx)
    · exact Or.inl (Or.inl hx)
    · exact Or.inl (Or.inr (Or.inl hx))
    · simp only [blks, List.map_append, List.mem_append, List.map_cons, List.map_nil, List.mem_singleton] at hx
      rcases hx with hx | hx
      · exact Or.inl (foot_dropL (Or.inr (Or.inr hx)))
      · exact Or.inr (by rw [hx]; exact T1.size)

theorem put_round {w wr w4 : World} {b mb : Nat} {es r : List En} {e0 : En} {room h m : Int} {key stamp val : ByteArray} (ht : trim room.toNat (dats (e0 :: r)) = pput room.toNat key stamp val (dats es))
    (T : Turns (foot b mb es) w wr) (hf : ∀ x, foot b mb (e0 :: r) x → foot b mb es x ∨ w.heap.size ≤ x) (C : Cch wr b mb (e0 :: r) room h m) (hk : (e0 :: r).length ≤ 1000001) (hlt : room < ((e0 :: r).length : Int))
    (C4 : Cch w4 b mb (dropL e0.key (e0 :: r)) room h m) (T4 : Turns (foot b mb (e0 :: r)) wr.drew w4) : PutRel b mb es room h m key stamp val w r.length w4 := by
  have hd : dropL e0.key (e0 :: r) = r := filter_split (l1 := []) C.keys
  rw [hd] at C4
  refine ⟨r, C4, rfl, by simp at hk; omega, ?_, ?_, ?_⟩
  · rw [← ht]
    simp only [dats, List.map_cons]
    rw [trim_cons]
    simp only [List.length_cons, List.length_map] at hlt ⊢
    omega
  · refine T.drew.trans T4 (fun x hx hfx => ?_)
    rcases hf x hfx with h | h
    · exact h
    · omega
  · intro x hx
    refine hf x ?_
    rcases hx with h | h | h
    · exact Or.inl h
    · exact Or.inr (Or.inl h)
    · exact Or.inr (Or.inr (List.mem_cons_of_mem _ h))

set_option maxHeartbeats 2000000 in
theorem put_any {w : World} {b mb : Nat} {es : List En} {room h m : Int} (C : Cch w b mb es room h m) (key stamp val : ByteArray) (hk : key.size ≤ maxLen) (hr : 0 ≤ room) (hr2 : room ≤ 1000) (hlen : es.length ≤ 1000000) :
    Calls Try.prog 12 #[.pointer (some ⟨b, 0, none⟩), .string key, .string stamp, .string val] w (PutPost b mb es room h m key stamp val w) := by
  have K1 := Lib.hid (drop_any C key hk)
  have HK := Lib.hid hk
  have LT := Lib.hid C.lt
  have LEN : (dropL key es).length ≤ es.length := List.length_filter_le _ _
  clear C hk
  go_enter Try.func12, Try.ntmps12
  go_wp2_with (fail)
  refine (K1.out).mono ?_
  rintro _ w1 ⟨rfl, C1, T1⟩
  have c6 : w1.cell? ⟨b, 6, none⟩ = some (.map (some mb)) := by
    obtain ⟨s0, s1, s2, p0, n0, hh⟩ := C1.head
    exact cell_of_heap hh rfl
  have CC1 := Lib.hid C1
  have TT1 := Lib.hid T1
  have hlt1 := C1.lt b (Or.inl rfl)
  have hmm := C1.map
  have hb6 : (w1.alloc (.cells #[.string key, .string stamp, .string val, .pointer none, .pointer none] 57)).cell? ⟨b, 6, none⟩ = some (.map (some mb)) := by
    rw [World.cell?_of_block (w := w1) (halloc_old _ _ _ hlt1)]; exact c6
  have SM := Lib.hid (hmm.block (halloc_old w1 (.cells #[.string key, .string stamp, .string val, .pointer none, .pointer none] 57) mb hmm.lt))
  have FN := Lib.hid (finder_dropL es key)
  clear C1 T1 hmm
  go_wp2_with (at_mapUpdate; refine wpList_mapUpdate_smap _ rfl _ _ _ 54 rfl 9 55 law9 Try.underlying54 mb (dropL key es).length (finder (dropL key es)) rfl SM.out (by unfold maxLen; omega) (.string key) (.pointer (some ⟨w1.heap.size, 0, none⟩)) _ rfl rfl (keyOf_string_mk Try.underlying9 HK.out) ?_; intro w2 hown1 hturn1)
  rw [FN.out] at hown1
  obtain ⟨l, l1, l2, l3, l4, l5, l6, l7, l8, C3, T3⟩ := Cch.put CC1.out HK.out FN.out hown1 hturn1.grown
  obtain ⟨p5, n5, he5⟩ := l5
  have k2 : Calls Try.prog 27 #[.pointer (some ⟨b, 0, none⟩), .pointer (some ⟨w1.heap.size, 0, none⟩)] w2 fun r w' => r = .returned (.tuple #[]) ∧ w' = (endWorld w2 b w1.heap.size l).drew :=
    end_any w2 b w1.heap.size l _ _ _ l3 (cell_of_heap he5 rfl) (cell_of_heap he5 rfl) l4 l7 (frozen_of_heap he5 3) (frozen_of_heap he5 4) l8 l6 l2
  have hb6' : w2.cell? ⟨b, 6, none⟩ = some (.map (some mb)) := by
    rw [World.cell?_of_block (hturn1.grown.block b (by rw [hsize_alloc]; omega) (fun e => by injection e with e; exact (CC1.out.mb_ne (by rw [e]; simp))))]
    exact hb6
  have start : PutRel b mb es room h m key stamp val w ((dropL key es).length + 1) (endWorld w2 b w1.heap.size l).drew := put_start TT1.out C3 T3 hlen
  have K2 := Lib.hid k2
  clear hown1 hturn1 l1 l2 l3 l4 l6 l7 l8 he5 k2 C3 T3 hb6 c6
  generalize (endWorld w2 b w1.heap.size l).drew = w3 at *
  go_wp2_with (go_at_call 27; refine (K2.out).mono ?_; rintro e' w' ⟨rfl, rfl⟩)
  clear K2 hb6' hlt1
  go_loopg [] ((dropL key es).length + 1) (fun k wr => PutRel b mb es room h m key stamp val w k wr)
  case atStart => exact start
  case round =>
    obtain ⟨es', C, hn, hk, ht, T, hfo⟩ := hrel
    clear start K1 HK LT LEN CC1 TT1 SM FN
    have c5 : wr.cell? ⟨b, 5, none⟩ = some (.int .i64 room) := by
      obtain ⟨s0, s1, s2, p0, n0, hh⟩ := C.head
      exact cell_of_heap hh rfl
    have c6 : wr.cell? ⟨b, 6, none⟩ = some (.map (some mb)) := by
      obtain ⟨s0, s1, s2, p0, n0, hh⟩ := C.head
      exact cell_of_heap hh rfl
    have hl := fun ty => C.map.len Try.underlying54 ty
    have hl' := fun ty => C.drew.map.len Try.underlying54 ty
    have A : Aside (trim room.toNat (dats es') = pput room.toNat key stamp val (dats es) ∧ es'.length = gk) := ⟨ht, hn⟩
    have CC := Lib.hid C
    have TT := Lib.hid T
    have HF := Lib.hid hfo
    have hkk : es'.length ≤ 1000001 := by omega
    clear C T hfo ht hn hk
    by_cases hlt : room < (es'.length : Int)
    · obtain ⟨e0, r, rfl⟩ : ∃ e0 r, es' = e0 :: r := by
        cases es' with
        | nil => exact absurd hlt (by simp; omega)
        | cons e0 r => exact ⟨e0, r, rfl⟩
      have c4 : wr.drew.cell? ⟨b, 4, none⟩ = some (.pointer (some ⟨e0.blk, 0, none⟩)) := CC.out.links.1.1
      have e0k : wr.drew.cell? ⟨e0.blk, 0, none⟩ = some (.string e0.key) := by
        obtain ⟨p, n, h⟩ := CC.out.ent e0 (by simp)
        exact cell_of_heap (w := wr.drew) h rfl
      have K1 := Lib.hid (drop_any CC.out.drew e0.key (CC.out.sizes e0 (by simp)))
      have K2 := Lib.hid (oldest_any wr.drew b _ c4)
      have hlt' : room < (r.length : Int) + 1 := by simpa using hlt
      go_wp2
      go_region
      go_wp2_with (first | (go_at_call 28; refine (K2.out).mono ?_; rintro e' w' ⟨rfl, rfl⟩) | (go_at_call 18; refine (K1.out).mono ?_; rintro e' w4 ⟨rfl, C4, T4⟩))
      go_roundg r.length
      case rel => exact put_round A.out.1 TT.out HF.out CC.out hkk hlt C4 T4
      case measure => have := A.out.2; simp at this; omega
    · go_wp2
      go_region
      go_wp2
      go_ret
      refine ⟨rfl, es', CC.out.drew, ?_, TT.out.drew, HF.out⟩
      rw [← A.out.1, trim_le _ _ (by simp; omega)]

end Go.Proofs.Ytbmkeapebmlggaa
