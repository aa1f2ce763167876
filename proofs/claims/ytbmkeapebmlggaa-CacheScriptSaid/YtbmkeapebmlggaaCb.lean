/-
  Drop, and the walks of the cache's other methods.
-/
import Derived.Test.YtbmkeapebmlggaaCa
import Derived.Lib.Hide
import Derived.BigQuiet
import Derived.Deep.QuietTactic
import Derived.Deep.LoopGhost
namespace Go.Proofs.Ytbmkeapebmlggaa
open Go.RowKit Go.Vs Go.Maps Go.ChangeMaps Go.WideMaps

theorem grown_of_turned {w w' : World} {b : Nat} (h : w.mapTurned w' b) : w.grownBy w' (some b) := h.grown

set_option maxHeartbeats 1000000 in
theorem drop_hit {w : World} {b mb : Nat} {es l1 l2 : List En} {e : En} {room h m : Int} (C : Cch w b mb es room h m) (key : ByteArray) (hk : key.size ≤ maxLen)
    (hes : es = l1 ++ e :: l2) (hke : e.key = key) :
    Calls Try.prog 18 #[.pointer (some ⟨b, 0, none⟩), .string key] w fun r w' => r = .returned (.bool true) ∧ Cch w' b mb (l1 ++ l2) room h m ∧ Turns (foot b mb es) w w' := by
  obtain ⟨A, p, n, D, -, -, hpe, hen, hp, hn, hL⟩ := C.nbrs hes
  obtain ⟨s0, s1, s2, p0, n0, hh⟩ := C.head
  have c6 : w.cell? ⟨b, 6, none⟩ = some (.map (some mb)) := cell_of_heap hh rfl
  have hfin : finder es key.data.toList = some (P0 e.blk) := by
    subst hes; subst hke
    have hk := C.keys
    obtain ⟨h1, h2, h3⟩ := List.pairwise_append.1 hk
    unfold finder
    rw [List.find?_append, List.find?_eq_none.2, List.find?_cons_of_pos]
    · rfl
    · simp
    · intro x hx
      simpa using fun h => h3 x hx e (by simp) (str_inj h)
  have hl : (Instr.lookup 54 (.map (some mb)) (.string key) true).run Try.prog w = .ok (.tuple #[.pointer (some ⟨e.blk, 0, none⟩), .bool true]) w := by
    have := C.map.look law9 Try.underlying54 (zero55 w) (keyOf_string_mk Try.underlying9 hk)
    rw [hfin] at this
    exact this
  have k1 := cut_any w b e.blk p n _ _ hpe.2 hen.1 hpe.1 hen.2 (C.frozen hp 4) (C.frozen hn 3)
  have K1 := Lib.hid k1
  have C1 := Lib.hid C
  have F1 := Lib.hid hfin
  have E1 := Lib.hid hes
  have E2 := Lib.hid hke
  have hmb := C.mb_ne
  have hd : smap (cutWorld w p n).drew Try.prog 9 mb es.length (finder es) := by
    refine C.map.block ?_
    show (cutWorld w p n).heap[mb]? = _
    unfold cutWorld
    rw [hset_other _ _ _ _ _ (fun h => hmb (by rw [h]; exact hn)), hset_other _ _ _ _ _ (fun h => hmb (by rw [h]; exact hp))]
  have D1 := Lib.hid hd
  have k2 : (cutWorld w p n).cell? ⟨b, 6, none⟩ = some (.map (some mb)) := by
    unfold cutWorld
    rw [cell_setCell_other _ _ _ _ (Or.inr (by simp)) rfl, cell_setCell_other _ _ _ _ (Or.inr (by simp)) rfl]; exact c6
  clear hh k1 C hfin hpe hen hd hmb hes hke
  go_enter Try.func18, Try.ntmps18
  go_wp2_with (first | (go_at_call 29; refine (K1.out).mono ?_; rintro e' w' ⟨rfl, rfl⟩) | (at_delete; refine wpList_delete_smap _ rfl _ _ 54 9 rfl 55 law9 Try.underlying54 mb es.length (finder es) rfl D1.out _ _ rfl (keyOf_string_mk Try.underlying9 hk) ?_; intro w1 hown1 hturn1))
  go_ret
  refine ⟨rfl, ?_⟩
  have hsub := F1.out
  rw [hsub] at hown1
  have E := E2.out
  subst E
  exact C1.out.dropped E1.out hL hown1 hturn1.grown hp hn

def dropL (key : ByteArray) (es : List En) : List En := es.filter (fun x => decide (x.key ≠ key))

theorem finder_none {es : List En} {key : ByteArray} (h : finder es key.data.toList = none) : es.filter (fun x => decide (x.key ≠ key)) = es ∧ es.any (fun x => decide (x.key = key)) = false := by
  unfold finder at h
  rw [Option.map_eq_none_iff, List.find?_eq_none] at h
  refine ⟨List.filter_eq_self.2 fun x hx => ?_, List.any_eq_false.2 fun x hx => ?_⟩
  · have := h x hx
    simp at this ⊢
    exact fun e => this (by rw [e])
  · have := h x hx
    simp at this ⊢
    exact fun e => this (by rw [e])

theorem drop_any {w : World} {b mb : Nat} {es : List En} {room h m : Int} (C : Cch w b mb es room h m) (key : ByteArray) (hk : key.size ≤ maxLen) :
    Calls Try.prog 18 #[.pointer (some ⟨b, 0, none⟩), .string key] w fun r w' => r = .returned (.bool (es.any (fun x => decide (x.key = key)))) ∧ Cch w' b mb (dropL key es) room h m ∧ Turns (foot b mb es) w w' := by
  cases hf : finder es key.data.toList with
  | none =>
    obtain ⟨h1, h2⟩ := finder_none hf
    refine (drop_miss C key hk hf).mono ?_
    rintro r w' ⟨rfl, rfl⟩
    rw [h2]
    unfold dropL
    rw [h1]
    exact ⟨rfl, C, Turns.refl _ _⟩
  | some v =>
    unfold finder at hf
    obtain ⟨e, he, -⟩ := Option.map_eq_some_iff.1 hf
    obtain ⟨l1, l2, hes, hke⟩ := find_split he
    have hke' := str_inj hke
    refine (drop_hit C key hk hes hke').mono ?_
    rintro r w' ⟨rfl, h1, h2⟩
    refine ⟨?_, ?_, h2⟩
    · have : es.any (fun x => decide (x.key = key)) = true := by
        rw [List.any_eq_true]; exact ⟨e, by rw [hes]; simp, by simpa using hke'⟩
      rw [this]
    · have := C.keys
      rw [hes] at this
      unfold dropL
      rw [hes, ← hke', filter_split this]
      exact h1

end Go.Proofs.Ytbmkeapebmlggaa
