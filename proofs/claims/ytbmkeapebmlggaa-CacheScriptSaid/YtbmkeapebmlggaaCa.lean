/-
  What a cache in memory is: a head, entries linked in a ring, a map from keys to entries; Drop.
-/
import Derived.Test.YtbmkeapebmlggaaWa
namespace Go.Proofs.Ytbmkeapebmlggaa
open Go.RowKit Go.Vs Go.Maps Go.ChangeMaps Go.WideMaps

structure En where
  blk : Nat
  key : ByteArray
  stamp : ByteArray
  val : ByteArray

def IsEn (w : World) (e : En) : Prop := ∃ p n, w.heap[e.blk]? = some (.cells #[.string e.key, .string e.stamp, .string e.val, p, n] 57 (0, 0))
def IsHd (w : World) (b mb : Nat) (room h m : Int) : Prop :=
  ∃ s0 s1 s2 p n, w.heap[b]? = some (.cells #[.string s0, .string s1, .string s2, p, n, .int .i64 room, .map (some mb), .int .i64 h, .int .i64 m] 61 (0, 0))

abbrev blks (es : List En) : List Nat := es.map (·.blk)

def finder (es : List En) : List UInt8 → Option Value := fun s => (es.find? (fun e => decide (e.key.data.toList = s))).map (fun e => P0 e.blk)

/-- The ring alone. -/
structure Rng (w : World) (b mb : Nat) (es : List En) (room h m : Int) : Prop where
  head : IsHd w b mb room h m
  ent : ∀ e ∈ es, IsEn w e
  nodup : (b :: blks es).Nodup
  links : Links w (b :: blks es ++ [b])

structure Cch (w : World) (b mb : Nat) (es : List En) (room h m : Int) : Prop extends Rng w b mb es room h m where
  map : smap w Try.prog 9 mb es.length (finder es)
  keys : es.Pairwise (fun x y => x.key ≠ y.key)
  sizes : ∀ e ∈ es, e.key.size ≤ maxLen

def foot (b mb : Nat) (es : List En) (k : Nat) : Prop := k = b ∨ k = mb ∨ k ∈ blks es

theorem isEn_block {w w' : World} {e : En} (h : IsEn w e) (hb : w'.heap[e.blk]? = w.heap[e.blk]?) : IsEn w' e := by
  obtain ⟨p, n, h⟩ := h
  exact ⟨p, n, hb.trans h⟩

theorem isEn_set {w : World} {e : En} (h : IsEn w e) (x i : Nat) (hi : i = 3 ∨ i = 4) (v : Value) : IsEn (w.setCell ⟨x, i, none⟩ v) e := by
  by_cases hx : e.blk = x
  · obtain ⟨p, n, h⟩ := h
    subst hx
    rcases hi with rfl | rfl
    · exact ⟨v, n, by rw [hset_same h]; rfl⟩
    · exact ⟨p, v, by rw [hset_same h]; rfl⟩
  · exact isEn_block h (hset_other w x i v _ hx)

theorem isHd_block {w w' : World} {b mb : Nat} {room h m : Int} (hh : IsHd w b mb room h m) (hb : w'.heap[b]? = w.heap[b]?) : IsHd w' b mb room h m := by
  obtain ⟨s0, s1, s2, p, n, hh⟩ := hh
  exact ⟨s0, s1, s2, p, n, hb.trans hh⟩

theorem isHd_set {w : World} {b mb : Nat} {room h m : Int} (hh : IsHd w b mb room h m) (x i : Nat) (hi : i = 3 ∨ i = 4) (v : Value) : IsHd (w.setCell ⟨x, i, none⟩ v) b mb room h m := by
  by_cases hx : b = x
  · obtain ⟨s0, s1, s2, p, n, hh⟩ := hh
    subst hx
    rcases hi with rfl | rfl
    · exact ⟨s0, s1, s2, v, n, by rw [hset_same hh]; rfl⟩
    · exact ⟨s0, s1, s2, p, v, by rw [hset_same hh]; rfl⟩
  · exact isHd_block hh (hset_other w x i v _ hx)

section
variable {w : World} {b mb : Nat} {es : List En} {room h m : Int}

theorem Cch.mb_ne (C : Cch w b mb es room h m) : mb ∉ b :: blks es := by
  obtain ⟨en, c, hm⟩ := C.map.isMapBlock
  intro hin
  rcases List.mem_cons.1 hin with e | hin
  · obtain ⟨s0, s1, s2, p, n, hh⟩ := C.head
    rw [e, hh] at hm; cases hm
  · obtain ⟨e, he, rfl⟩ := List.mem_map.1 hin
    obtain ⟨p, n, hh⟩ := C.ent e he
    rw [hh] at hm; cases hm

theorem Cch.lt (C : Cch w b mb es room h m) : ∀ k, foot b mb es k → k < w.heap.size := by
  rintro k (rfl | rfl | hk)
  · obtain ⟨s0, s1, s2, p, n, hh⟩ := C.head
    exact (Array.getElem?_eq_some_iff.1 hh).1
  · exact C.map.lt
  · obtain ⟨e, he, rfl⟩ := List.mem_map.1 hk
    obtain ⟨p, n, hh⟩ := C.ent e he
    exact (Array.getElem?_eq_some_iff.1 hh).1

theorem Cch.block {w' : World} (C : Cch w b mb es room h m) (hb : ∀ k, foot b mb es k → w'.heap[k]? = w.heap[k]?) : Cch w' b mb es room h m := by
  refine ⟨⟨isHd_block C.head (hb _ (Or.inl rfl)), fun e he => isEn_block (C.ent e he) (hb _ (Or.inr (Or.inr (List.mem_map_of_mem he)))), C.nodup, links_block C.links (fun x hx => hb x ?_)⟩, C.map.block (hb _ (Or.inr (Or.inl rfl))), C.keys, C.sizes⟩
  simp only [List.mem_append, List.mem_cons, List.not_mem_nil, or_false] at hx
  rcases hx with (rfl | hx) | rfl
  · exact Or.inl rfl
  · exact Or.inr (Or.inr hx)
  · exact Or.inl rfl

theorem Cch.turns {w' : World} {G : Nat → Prop} (C : Cch w b mb es room h m) (ht : Turns G w w') (hd : ∀ k, foot b mb es k → ¬ G k) : Cch w' b mb es room h m :=
  C.block fun k hk => ht.block k (C.lt k hk) (hd k hk)

theorem Rng.frozen (C : Rng w b mb es room h m) {x : Nat} (hx : x ∈ b :: blks es) (i : Nat) : w.frozen? ⟨x, i, none⟩ = false := by
  rcases List.mem_cons.1 hx with rfl | hx
  · obtain ⟨s0, s1, s2, p, n, hh⟩ := C.head
    exact frozen_of_heap hh i
  · obtain ⟨e, he, rfl⟩ := List.mem_map.1 hx
    obtain ⟨p, n, hh⟩ := C.ent e he
    exact frozen_of_heap hh i

/-- An entry of the list, with its neighbours in the ring. -/
theorem Rng.nbrs (C : Rng w b mb es room h m) {l1 l2 : List En} {e : En} (hes : es = l1 ++ e :: l2) :
    ∃ A p n D, b :: blks l1 = A ++ [p] ∧ blks l2 ++ [b] = n :: D ∧ Link w p e.blk ∧ Link w e.blk n ∧ p ∈ b :: blks es ∧ n ∈ b :: blks es ∧
      Links (cutWorld w p n) (b :: blks (l1 ++ l2) ++ [b]) := by
  obtain ⟨A, p, hp⟩ := split_last b (blks l1)
  obtain ⟨n, D, hn⟩ : ∃ n D, blks l2 ++ [b] = n :: D := by
    cases hl : blks l2 with
    | nil => exact ⟨b, [], rfl⟩
    | cons x r => exact ⟨x, r ++ [b], rfl⟩
  have hring : b :: blks es ++ [b] = A ++ p :: e.blk :: n :: D := by
    subst hes
    have : b :: blks (l1 ++ e :: l2) ++ [b] = (b :: blks l1) ++ e.blk :: (blks l2 ++ [b]) := by simp [blks]
    rw [this, hp, hn]; simp
  have hring2 : b :: blks (l1 ++ l2) ++ [b] = A ++ p :: n :: D := by
    have : b :: blks (l1 ++ l2) ++ [b] = (b :: blks l1) ++ (blks l2 ++ [b]) := by simp [blks]
    rw [this, hp, hn]; simp
  have hL := C.links
  rw [hring] at hL
  have hf : (A ++ p :: e.blk :: n :: D).dropLast.Nodup := by
    rw [← hring, List.dropLast_concat]; exact C.nodup
  have hs : (A ++ p :: e.blk :: n :: D).tail.Nodup := by
    rw [← hring]
    have := C.nodup
    simp only [List.cons_append, List.tail_cons]
    rw [List.nodup_append]
    simp only [List.nodup_cons] at this
    refine ⟨this.2, by simp, fun x hx y hy => ?_⟩
    simp only [List.mem_singleton] at hy
    subst hy
    exact fun e => this.1 (e ▸ hx)
  refine ⟨A, p, n, D, hp, hn, ?_, ?_, ?_, ?_, ?_⟩
  · exact ((links_append w p (e.blk :: n :: D) A).1 hL).2.1
  · exact ((links_append w p (e.blk :: n :: D) A).1 hL).2.2.1
  · have : p ∈ b :: blks l1 := by rw [hp]; simp
    subst hes
    rcases List.mem_cons.1 this with h | h
    · simp [h]
    · simp only [blks, List.map_append, List.mem_cons, List.mem_append]; exact Or.inr (Or.inl h)
  · have : n ∈ blks l2 ++ [b] := by rw [hn]; simp
    subst hes
    rcases List.mem_append.1 this with h | h
    · simp only [blks, List.map_append, List.map_cons, List.mem_cons, List.mem_append]; exact Or.inr (Or.inr (Or.inr h))
    · simp at h; simp [h]
  · rw [hring2]
    exact links_cut hL hf hs
end

theorem find_split {es : List En} {s : List UInt8} {e : En} (h : es.find? (fun e => decide (e.key.data.toList = s)) = some e) : ∃ l1 l2, es = l1 ++ e :: l2 ∧ e.key.data.toList = s := by
  obtain ⟨h1, l1, l2, h2, _⟩ := List.find?_eq_some_iff_append.1 h
  exact ⟨l1, l2, h2, by simpa using h1⟩

theorem filter_split {l1 l2 : List En} {e : En} (hk : (l1 ++ e :: l2).Pairwise (fun x y => x.key ≠ y.key)) : (l1 ++ e :: l2).filter (fun x => decide (x.key ≠ e.key)) = l1 ++ l2 := by
  obtain ⟨h1, h2, h3⟩ := List.pairwise_append.1 hk
  obtain ⟨h4, h5⟩ := List.pairwise_cons.1 h2
  rw [List.filter_append, List.filter_cons]
  simp only [ne_eq, not_true_eq_false, decide_false, Bool.false_eq_true, if_false]
  rw [List.filter_eq_self.2, List.filter_eq_self.2]
  · intro x hx; simpa using Ne.symm (h4 x hx)
  · intro x hx; simpa using h3 x hx e (by simp)

theorem finder_split {l1 l2 : List En} {e : En} (hk : (l1 ++ e :: l2).Pairwise (fun x y => x.key ≠ y.key)) : finder (l1 ++ l2) = upd (finder (l1 ++ e :: l2)) e.key.data.toList none := by
  obtain ⟨h1, h2, h3⟩ := List.pairwise_append.1 hk
  obtain ⟨h4, h5⟩ := List.pairwise_cons.1 h2
  funext s
  show ((l1 ++ l2).find? (fun e => decide (e.key.data.toList = s))).map (fun e => P0 e.blk) = if s = e.key.data.toList then none else ((l1 ++ e :: l2).find? (fun e => decide (e.key.data.toList = s))).map (fun e => P0 e.blk)
  by_cases hs : s = e.key.data.toList
  · subst hs
    rw [if_pos rfl, Option.map_eq_none_iff, List.find?_eq_none]
    intro x hx
    have hne : x.key ≠ e.key := by
      rcases List.mem_append.1 hx with h | h
      · exact h3 x h e (by simp)
      · exact Ne.symm (h4 x h)
    simpa using fun h => hne (str_inj h)
  · rw [if_neg hs, List.find?_append, List.find?_append, List.find?_cons_of_neg]
    simpa using fun h => hs h.symm

theorem links_drew {w : World} {l : List Nat} (h : Links w l) : Links w.drew l := links_block h (fun _ _ => rfl)

theorem foot_of_mem {b mb : Nat} {es : List En} {x : Nat} (hx : x ∈ b :: blks es) : foot b mb es x := by
  rcases List.mem_cons.1 hx with rfl | hx
  · exact Or.inl rfl
  · exact Or.inr (Or.inr hx)

/-- The ring behind a cut. -/
theorem Rng.cut {w : World} {b mb : Nat} {es l1 l2 : List En} {e : En} {room h m : Int} {p n : Nat} (C : Rng w b mb es room h m) (hes : es = l1 ++ e :: l2)
    (hl : Links (cutWorld w p n) (b :: blks (l1 ++ l2) ++ [b])) : Rng (cutWorld w p n).drew b mb (l1 ++ l2) room h m ∧ IsEn (cutWorld w p n).drew e ∧ e.blk ∉ b :: blks (l1 ++ l2) := by
  have hen : ∀ x ∈ es, IsEn (cutWorld w p n).drew x := fun x hx => isEn_set (isEn_set (C.ent x hx) _ _ (Or.inr rfl) _) _ _ (Or.inl rfl) _
  have hnd := C.nodup
  subst hes
  refine ⟨⟨isHd_set (isHd_set C.head _ _ (Or.inr rfl) _) _ _ (Or.inl rfl) _, fun x hx => hen x ?_, ?_, links_drew hl⟩, hen e (by simp), ?_⟩
  · simp only [List.mem_append, List.mem_cons] at hx ⊢
    rcases hx with h | h
    · exact Or.inl h
    · exact Or.inr (Or.inr h)
  · refine hnd.sublist ?_
    refine List.Sublist.cons_cons _ (List.Sublist.map _ ?_)
    exact List.Sublist.append (List.Sublist.refl _) (List.sublist_cons_self _ _)
  · intro hin
    simp only [blks, List.map_append, List.map_cons, List.nodup_cons, List.mem_append, List.mem_cons, not_or, List.nodup_append] at hnd hin
    obtain ⟨⟨h1, h2, h3⟩, h4, ⟨h5, h6⟩, h7⟩ := hnd
    rcases hin with h | h | h
    · exact h2 h.symm
    · exact h7 _ h _ (Or.inl rfl) rfl
    · exact h5 h

/-- The ring behind an 'end'. -/
theorem Rng.end_ {w : World} {b mb : Nat} {es : List En} {e : En} {room h m : Int} (C : Rng w b mb es room h m) (he : IsEn w e) (hne : e.blk ∉ b :: blks es) :
    ∃ l, l ∈ b :: blks es ∧ l ≠ e.blk ∧ w.cell? ⟨b, 3, none⟩ = some (P0 l) ∧ w.cell? ⟨l, 4, none⟩ = some (P0 b) ∧ Rng (endWorld w b e.blk l).drew b mb (es ++ [e]) room h m := by
  obtain ⟨X, l, hX⟩ := split_last b (blks es)
  have hL := C.links
  rw [show b :: blks es ++ [b] = X ++ l :: [b] by rw [hX]; simp] at hL
  have hlk := ((links_append w l [b] X).1 hL).2.1
  have hmem : l ∈ b :: blks es := by rw [hX]; simp
  obtain ⟨p, n, hb⟩ := id he
  have key := links_end (e := e.blk) hL (by rw [← hX]; exact C.nodup) (by
      rw [show X ++ l :: [b] = b :: blks es ++ [b] by rw [hX]; simp]
      have := C.nodup
      simp only [List.cons_append, List.tail_cons]
      rw [List.nodup_append]
      simp only [List.nodup_cons] at this
      refine ⟨this.2, by simp, fun x hx y hy => ?_⟩
      simp only [List.mem_singleton] at hy
      subst hy
      exact fun e => this.1 (e ▸ hx))
    (by
      rw [show X ++ l :: [b] = b :: blks es ++ [b] by rw [hX]; simp]
      simp only [List.mem_append, List.mem_singleton, not_or]
      exact ⟨hne, fun e => hne (by simp [e])⟩)
    (by rw [cell_of_heap (i := 3) hb rfl]; rfl) (by rw [cell_of_heap (i := 4) hb rfl]; rfl)
  have hen : ∀ x, IsEn w x → IsEn (endWorld w b e.blk l).drew x := fun x hx =>
    isEn_set (isEn_set (isEn_set (isEn_set hx _ _ (Or.inl rfl) _) _ _ (Or.inr rfl) _) _ _ (Or.inr rfl) _) _ _ (Or.inl rfl) _
  refine ⟨l, hmem, fun h => hne (h ▸ hmem), hlk.2, hlk.1, ?_, ?_, ?_, ?_⟩
  · exact isHd_set (isHd_set (isHd_set (isHd_set C.head _ _ (Or.inl rfl) _) _ _ (Or.inr rfl) _) _ _ (Or.inr rfl) _) _ _ (Or.inl rfl) _
  · intro x hx
    rcases List.mem_append.1 hx with hx | hx
    · exact hen x (C.ent x hx)
    · simp only [List.mem_singleton] at hx; subst hx; exact hen _ he
  · have h1 := C.nodup
    have h2 : b :: blks (es ++ [e]) = (b :: blks es) ++ [e.blk] := by simp [blks]
    rw [h2, List.nodup_append]
    refine ⟨h1, by simp, fun x hx y hy => ?_⟩
    simp only [List.mem_singleton] at hy
    subst hy
    exact fun e => hne (e ▸ hx)
  · have h2 : b :: blks (es ++ [e]) ++ [b] = X ++ l :: e.blk :: [b] := by
      have : b :: blks (es ++ [e]) ++ [b] = (b :: blks es) ++ (e.blk :: [b]) := by simp [blks]
      rw [this, hX]; simp
    rw [h2]
    exact links_drew key

theorem Rng.block {w w' : World} {b mb : Nat} {es : List En} {room h m : Int} (C : Rng w b mb es room h m) (hb : ∀ k, k ∈ b :: blks es → w'.heap[k]? = w.heap[k]?) : Rng w' b mb es room h m := by
  refine ⟨isHd_block C.head (hb _ (by simp)), fun e he => isEn_block (C.ent e he) (hb _ (List.mem_cons_of_mem _ (List.mem_map_of_mem he))), C.nodup, links_block C.links (fun x hx => hb x ?_)⟩
  simp only [List.mem_append, List.mem_cons, List.not_mem_nil, or_false] at hx
  rcases hx with (rfl | hx) | rfl
  · simp
  · simp [hx]
  · simp

/-- The cache behind a cut of an entry and its key's removal from the map. -/
theorem Cch.dropped {w w1 : World} {b mb : Nat} {es l1 l2 : List En} {e : En} {room h m : Int} {p n : Nat} (C : Cch w b mb es room h m) (hes : es = l1 ++ e :: l2)
    (hl : Links (cutWorld w p n) (b :: blks (l1 ++ l2) ++ [b]))
    (hm : smap w1 Try.prog 9 mb (es.length - 1) (upd (finder es) e.key.data.toList none)) (ht : (cutWorld w p n).drew.grownBy w1 (some mb)) (hp : p ∈ b :: blks es) (hn : n ∈ b :: blks es) :
    Cch w1 b mb (l1 ++ l2) room h m ∧ Turns (foot b mb es) w w1 := by
  have hmb := C.mb_ne
  have hlt := C.lt
  have hsz : (cutWorld w p n).drew.heap.size = w.heap.size := by
    show (cutWorld w p n).heap.size = _
    simp [cutWorld]
  have hsub : ∀ x, x ∈ b :: blks (l1 ++ l2) → x ∈ b :: blks es := by
    intro x hx
    subst hes
    simp only [blks, List.map_append, List.map_cons, List.mem_cons, List.mem_append] at hx ⊢
    rcases hx with h | h | h
    · exact Or.inl h
    · exact Or.inr (Or.inl h)
    · exact Or.inr (Or.inr (Or.inr h))
  constructor
  · refine ⟨(C.toRng.cut hes hl).1.block fun k hk => ?_, ?_, ?_, ?_⟩
    · refine ht.block k ?_ ?_
      · rw [hsz]; exact hlt _ (foot_of_mem (hsub k hk))
      · intro e; injection e with e; exact hmb (e ▸ hsub k hk)
    · subst hes
      rw [finder_split C.keys]
      have : (l1 ++ l2).length = (l1 ++ e :: l2).length - 1 := by simp
      rw [this]; exact hm
    · have := C.keys
      subst hes
      exact this.sublist (List.Sublist.append (List.Sublist.refl _) (List.sublist_cons_self _ _))
    · intro x hx
      refine C.sizes x ?_
      subst hes
      simp only [List.mem_append, List.mem_cons] at hx ⊢
      rcases hx with h | h
      · exact Or.inl h
      · exact Or.inr (Or.inr h)
  · refine (((((Turns.refl _ w).setCell (p := ⟨p, 4, none⟩) (fun _ => foot_of_mem hp) (P0 n)).setCell (p := ⟨n, 3, none⟩) (fun _ => foot_of_mem hn) (P0 p)).drew).grown ht ?_)
    intro k hk _
    injection hk with hk
    exact Or.inr (Or.inl hk.symm)

theorem law9 : Keyed Try.prog 9 := string_keyed Try.underlying9
theorem zero55 (w : World) : (zeroValue 55).run Try.prog w = .ok (.pointer none) w := by kernel_rfl

set_option maxHeartbeats 1000000 in
theorem drop_miss {w : World} {b mb : Nat} {es : List En} {room h m : Int} (C : Cch w b mb es room h m) (key : ByteArray) (hk : key.size ≤ maxLen)
    (hf : finder es key.data.toList = none) :
    Calls Try.prog 18 #[.pointer (some ⟨b, 0, none⟩), .string key] w fun e w' => e = .returned (.bool false) ∧ w = w' := by
  obtain ⟨s0, s1, s2, p, n, hh⟩ := C.head
  have c6 : w.cell? ⟨b, 6, none⟩ = some (.map (some mb)) := cell_of_heap hh rfl
  have hl : (Instr.lookup 54 (.map (some mb)) (.string key) true).run Try.prog w = .ok (.tuple #[.pointer none, .bool false]) w := by
    have := C.map.look law9 Try.underlying54 (zero55 w) (keyOf_string_mk Try.underlying9 hk)
    rw [hf] at this
    exact this
  clear hh C hf
  go_enter Try.func18, Try.ntmps18
  go_wp2
  go_ret
  exact ⟨rfl, rfl⟩

end Go.Proofs.Ytbmkeapebmlggaa
