/-
  New, Len, Hits, Get of the cache.
-/
import Derived.Test.YtbmkeapebmlggaaCb
namespace Go.Proofs.Ytbmkeapebmlggaa
open Go.RowKit Go.Vs Go.Maps Go.ChangeMaps Go.WideMaps

set_option maxHeartbeats 1000000 in
theorem new_bad (w : World) (room : Int) (hr : room < 0 ∨ 1000 < room) :
    Calls Try.prog 10 #[.int .i64 room] w fun e w' => e = .returned (.tuple #[.pointer none, .int .i64 2]) ∧ w = w' := by
  rcases hr with hr | hr
  · go_enter Try.func10, Try.ntmps10
    go_wp2
    go_ret2
    exact ⟨rfl, rfl⟩
  · have h0 : decide (room < 0) = false := by simp; omega
    go_enter Try.func10, Try.ntmps10
    go_wp2
    go_ret2
    exact ⟨rfl, rfl⟩

theorem cch_new (w : World) (room : Int) (s0 s1 s2 : ByteArray) :
    Cch ((w.alloc (.map #[] 0)).alloc (.cells #[.string s0, .string s1, .string s2, .pointer (some ⟨w.heap.size + 1, 0, none⟩), .pointer (some ⟨w.heap.size + 1, 0, none⟩), .int .i64 room, .map (some w.heap.size), .int .i64 0, .int .i64 0] 61)).drew
      (w.heap.size + 1) w.heap.size [] room 0 0 := by
  generalize hw1 : w.alloc (.map #[] 0) = w1
  have e1 : w.heap.size + 1 = w1.heap.size := by rw [← hw1, hsize_alloc]
  generalize hw2 : w1.alloc (.cells #[.string s0, .string s1, .string s2, .pointer (some ⟨w.heap.size + 1, 0, none⟩), .pointer (some ⟨w.heap.size + 1, 0, none⟩), .int .i64 room, .map (some w.heap.size), .int .i64 0, .int .i64 0] 61) = w2
  have hb : w2.heap[w.heap.size + 1]? = some (.cells #[.string s0, .string s1, .string s2, .pointer (some ⟨w.heap.size + 1, 0, none⟩), .pointer (some ⟨w.heap.size + 1, 0, none⟩), .int .i64 room, .map (some w.heap.size), .int .i64 0, .int .i64 0] 61 (0, 0)) := by
    rw [e1] at hw2 ⊢; rw [← hw2]; exact halloc_new _ _
  refine ⟨⟨⟨s0, s1, s2, _, _, hb⟩, by simp, by simp, ⟨⟨cell_of_heap (t := 61) (f := (0, 0)) hb rfl, cell_of_heap (t := 61) (f := (0, 0)) hb rfl⟩, trivial⟩⟩, ?_, List.Pairwise.nil, by simp⟩
  have hm := smap_made w Try.prog 9
  rw [hw1] at hm
  refine hm.block ?_
  show w2.heap[w.heap.size]? = _
  rw [← hw2, halloc_old _ _ _ (by omega)]

def NewPost (w : World) (room : Int) (e : Ending) (w' : World) : Prop :=
  ∃ b mb, e = .returned (.tuple #[.pointer (some ⟨b, 0, none⟩), .int .i64 0]) ∧ Cch w' b mb [] room 0 0 ∧ Turns (fun _ => False) w w' ∧ w.heap.size ≤ b ∧ w.heap.size ≤ mb

set_option maxHeartbeats 1000000 in
theorem new_ok (w : World) (room : Int) (h0 : 0 ≤ room) (h1 : room ≤ 1000) :
    Calls Try.prog 10 #[.int .i64 room] w (NewPost w room) := by
  have hmm := @run_makeMap Try.prog
  go_enter Try.func10, Try.ntmps10
  go_wp2_with (fail)
  refine (close_any _ _ (.pointer none) (.pointer none) (by simp) (by simp) (by simp) (by simp)).mono ?_
  rintro e w' ⟨rfl, rfl⟩
  go_wp2
  go_ret2
  refine ⟨_, _, rfl, cch_new _ _ _ _ _, ?_, ?_, ?_⟩
  · exact (((Turns.refl _ _).alloc _).alloc _).drew
  · omega
  · omega

set_option maxHeartbeats 1000000 in
theorem len_any {w : World} {b mb : Nat} {es : List En} {room h m : Int} (C : Cch w b mb es room h m) :
    Calls Try.prog 19 #[.pointer (some ⟨b, 0, none⟩)] w fun e w' => e = .returned (.int .i64 es.length) ∧ w = w' := by
  obtain ⟨s0, s1, s2, p0, n0, hh⟩ := C.head
  have c6 : w.cell? ⟨b, 6, none⟩ = some (.map (some mb)) := cell_of_heap hh rfl
  have hl := fun ty => C.map.len Try.underlying54 ty
  clear C hh
  go_enter Try.func19, Try.ntmps19
  go_wp2
  go_ret
  exact ⟨rfl, rfl⟩

set_option maxHeartbeats 1000000 in
theorem hits_any {w : World} {b mb : Nat} {es : List En} {room h m : Int} (C : Cch w b mb es room h m) :
    Calls Try.prog 20 #[.pointer (some ⟨b, 0, none⟩)] w fun e w' => e = .returned (.tuple #[.int .i64 h, .int .i64 m]) ∧ w' = w.drew := by
  obtain ⟨s0, s1, s2, p0, n0, hh⟩ := C.head
  have c7 : w.cell? ⟨b, 7, none⟩ = some (.int .i64 h) := cell_of_heap hh rfl
  have c8 : w.cell? ⟨b, 8, none⟩ = some (.int .i64 m) := cell_of_heap hh rfl
  clear C hh
  go_enter Try.func20, Try.ntmps20
  go_wp2
  go_region
  go_wp2
  go_ret2
  exact ⟨rfl, rfl⟩

set_option maxHeartbeats 1000000 in
theorem get_nil (w : World) (k s : ByteArray) : Calls Try.prog 15 #[.pointer none, .string k, .string s] w fun e w' => e = .returned (.tuple #[.string ⟨#[]⟩, .bool false]) ∧ w = w' := by
  go_enter Try.func15, Try.ntmps15
  go_wp2
  go_ret2
  exact ⟨rfl, rfl⟩
set_option maxHeartbeats 1000000 in
theorem put_nil (w : World) (k s v : ByteArray) : Calls Try.prog 12 #[.pointer none, .string k, .string s, .string v] w fun e w' => e = .returned (.int .i64 1) ∧ w = w' := by
  go_enter Try.func12, Try.ntmps12
  go_wp2
  go_ret
  exact ⟨rfl, rfl⟩
set_option maxHeartbeats 1000000 in
theorem drop_nil (w : World) (k : ByteArray) : Calls Try.prog 18 #[.pointer none, .string k] w fun e w' => e = .returned (.bool false) ∧ w = w' := by
  go_enter Try.func18, Try.ntmps18
  go_wp2
  go_ret
  exact ⟨rfl, rfl⟩
set_option maxHeartbeats 1000000 in
theorem len_nil (w : World) : Calls Try.prog 19 #[.pointer none] w fun e w' => e = .returned (.int .i64 0) ∧ w = w' := by
  go_enter Try.func19, Try.ntmps19
  go_wp2
  go_ret
  exact ⟨rfl, rfl⟩
set_option maxHeartbeats 1000000 in
theorem keys_nil (w : World) : Calls Try.prog 14 #[.pointer none] w fun e w' => e = .returned (.slice none 0 0) ∧ w = w' := by
  go_enter Try.func14, Try.ntmps14
  go_wp2
  go_ret
  exact ⟨rfl, rfl⟩
set_option maxHeartbeats 1000000 in
theorem hits_nil (w : World) : Calls Try.prog 20 #[.pointer none] w fun e w' => e = .returned (.tuple #[.int .i64 0, .int .i64 0]) ∧ w = w' := by
  go_enter Try.func20, Try.ntmps20
  go_wp2
  go_ret2
  exact ⟨rfl, rfl⟩

end Go.Proofs.Ytbmkeapebmlggaa
