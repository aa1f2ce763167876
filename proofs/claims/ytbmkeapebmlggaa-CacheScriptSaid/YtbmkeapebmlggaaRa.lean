/-
  The document's cache: entries in memory; where a key is; its keys.
-/
import Derived.Test.YtbmkeapebmlggaaSa
import Derived.Test.YtbmkeapebmlggaaSeq
import Derived.BigQuiet
import Derived.IntWalk
namespace Go.Proofs.Ytbmkeapebmlggaa
open Go.RowKit Go.Vs Go.Maps Go.ChangeMaps Go.WideMaps

theorem lt_of_heap' {w : World} {b : Nat} {o : Obj} (h : w.heap[b]? = some o) : b < w.heap.size := (Array.getElem?_eq_some_iff.1 h).1

def encD (x : Dat) : List Value := [.string x.1, .string x.2.1, .string x.2.2]

theorem encD_flat (L : List Dat) : (L.flatMap encD).length = L.length * 3 := flat_len encD 3 (fun _ => rfl) L

theorem encD_one {L : List Dat} : ∀ u ∈ L.flatMap encD, u.oneCell' = true := by
  intro u hu
  obtain ⟨x, _, hx⟩ := List.mem_flatMap.1 hu
  simp [encD] at hx
  rcases hx with rfl | rfl | rfl <;> rfl

/-- A slice of entries. -/
def RdD (w : World) (v : Value) (L : List Dat) : Prop := Rd w 3 v L.length (L.flatMap encD)

theorem RdD.cells {w : World} {L : List Dat} {b off : Nat} (h : ∀ j u, (L.flatMap encD)[j]? = some u → w.cell? ⟨b, off + j, none⟩ = some u) {i : Nat} (hi : i < L.length) :
    w.cell? ⟨b, off + i * 3, none⟩ = some (.string L[i].1) ∧ w.cell? ⟨b, off + i * 3 + 1, none⟩ = some (.string L[i].2.1) ∧ w.cell? ⟨b, off + i * 3 + 2, none⟩ = some (.string L[i].2.2) := by
  have k : ∀ j u, j < 3 → (encD L[i])[j]? = some u → w.cell? ⟨b, off + i * 3 + j, none⟩ = some u := fun j u hj hu => by
    have := h (i * 3 + j) u (by rw [flat_get encD 3 (fun _ => rfl) L i j hi hj]; exact hu)
    rwa [← Nat.add_assoc] at this
  exact ⟨k 0 _ (by omega) rfl, k 1 _ (by omega) rfl, k 2 _ (by omega) rfl⟩

/-- Where a key is. -/
def At (k : ByteArray) (L : List Dat) (r : Int) : Prop :=
  (r = -1 ∧ ∀ x ∈ L, x.1 ≠ k) ∨ ∃ i, ∃ hi : i < L.length, r = i ∧ (∀ x ∈ L.take i, x.1 ≠ k) ∧ L[i].1 = k

theorem at_ex (k : ByteArray) (L : List Dat) : ∃ r, At k L r := by
  by_cases h : ∀ x ∈ L, x.1 ≠ k
  · exact ⟨-1, Or.inl ⟨rfl, h⟩⟩
  · have h2 : ∃ x ∈ L, x.1 = k := by
      refine Classical.byContradiction fun hn => h fun x hx e => hn ⟨x, hx, e⟩
    obtain ⟨x, hx, e⟩ := h2
    have hf : (L.find? (fun x => decide (x.1 = k))).isSome := by
      rw [List.find?_isSome]
      exact ⟨x, hx, by simpa using e⟩
    obtain ⟨y, hy⟩ := Option.isSome_iff_exists.1 hf
    obtain ⟨h1, l1, l2, h2, h3⟩ := List.find?_eq_some_iff_append.1 hy
    refine ⟨l1.length, Or.inr ⟨l1.length, by rw [h2]; simp, rfl, ?_, ?_⟩⟩
    · intro z hz
      subst h2
      simp at hz
      simpa using h3 z hz
    · subst h2
      simpa using h1

theorem At.here {k : ByteArray} {L : List Dat} {r : Int} (h : At k L r) {j : Nat} (hj : j < L.length) (hp : ∀ x ∈ L.take j, x.1 ≠ k) (he : L[j].1 = k) : r = j := by
  rcases h with ⟨_, h⟩ | ⟨i, hi, rfl, h1, h2⟩
  · exact absurd he (h _ (List.getElem_mem hj))
  · rcases Nat.lt_trichotomy i j with h | h | h
    · exact absurd h2 (hp _ (List.mem_take_iff_getElem.2 ⟨i, by omega, rfl⟩))
    · rw [h]
    · exact absurd he (h1 _ (List.mem_take_iff_getElem.2 ⟨j, by omega, rfl⟩))

theorem At.none {k : ByteArray} {L : List Dat} {r : Int} (h : At k L r) (hp : ∀ x ∈ L, x.1 ≠ k) : r = -1 := by
  rcases h with ⟨h, _⟩ | ⟨i, hi, _, _, h2⟩
  · exact h
  · exact absurd h2 (hp _ (List.getElem_mem hi))

theorem take_ne {k : ByteArray} {L : List Dat} {j : Nat} (hj : j < L.length) (hp : ∀ x ∈ L.take j, x.1 ≠ k) (he : L[j].1 ≠ k) : ∀ x ∈ L.take (j + 1), x.1 ≠ k := by
  intro x hx
  rw [List.take_succ_eq_append_getElem hj] at hx
  rcases List.mem_append.1 hx with hx | hx
  · exact hp x hx
  · rw [List.mem_singleton.1 hx]; exact he

set_option maxHeartbeats 1000000 in
theorem ref_find {w : World} {b : Nat} {v x1 x2 x3 : Value} {L : List Dat} (hb : w.heap[b]? = some (.cells #[v, x1, x2, x3] 53 (0, 0))) (hR : RdD w v L) (k : ByteArray) (r : Int) (hr : At k L r) :
    Calls Try.prog 30 #[.pointer (some ⟨b, 0, none⟩), .string k] w fun e w' => e = .returned (.int .i64 r) ∧ w = w' := by
  obtain ⟨a, cap, rfl, hn, hc⟩ := hR.shape
  have hv : w.cell? ⟨b, 0, none⟩ = some (.slice a L.length cap) := cell_of_heap hb rfl
  have HC := Lib.hid hc
  have HA := Lib.hid hr
  clear hc hr hb hR
  unfold maxLen at hn
  go_enter Try.func30, Try.ntmps30
  go_wp2
  go_loopg [5] (L.length) (fun n i wr => ∃ j : Nat, j ≤ L.length ∧ n = L.length - j ∧ i = .int .i64 j ∧ Aside (∀ x ∈ L.take j, x.1 ≠ k) ∧ w = wr)
  case atStart => exact ⟨0, by omega, by omega, rfl, (by show ∀ x ∈ L.take 0, x.1 ≠ k; simp), rfl⟩
  case round =>
    obtain ⟨j, hj, hnj, rfl, hp, rfl⟩ := hrel
    by_cases hlt : j < L.length
    · obtain ⟨g, off, rfl, _, _, _, hcell⟩ := HC.out (by omega)
      obtain ⟨c0, _, _⟩ := RdD.cells hcell hlt
      clear hcell
      by_cases he : L[j].1 = k
      · have HE := Lib.hid (At.here HA.out hlt hp.out he)
        have hq := str_eq k
        rw [he] at c0
        clear he
        go_wp2
        go_ret
        exact ⟨by rw [HE.out]; rfl, rfl⟩
      · have hq := str_ne he
        have HE := Lib.hid (take_ne hlt hp.out he)
        clear he
        go_wp2
        go_roundg (L.length - (j + 1))
        case rel => exact ⟨j + 1, by omega, rfl, by go_num, HE.out, rfl⟩
        case measure => omega
    · have HE : Hid (r = -1) := At.none HA.out (by have := hp.out; rwa [List.take_of_length_le (by omega)] at this)
      clear hp
      go_wp2
      go_ret
      exact ⟨by rw [HE.out]; rfl, rfl⟩

def RKeysRel (w : World) (L : List Dat) (n : Nat) (v i : Value) (wr : World) : Prop :=
  ∃ j : Nat, j ≤ L.length ∧ n = L.length - j ∧ i = .int .i64 j ∧ wr.ownsRow 0 9 1 v j ((L.take j).map fun x => .string x.1) ∧ Below w.heap.size w wr ∧ ∀ k, sblk v = some k → w.heap.size ≤ k

theorem rkeys_round {L : List Dat} {j : Nat} {w wr w1 : World} {v v' : Value} (hj : j < L.length)
    (hown : w1.ownsRow 0 9 1 v' (j + 1) ((L.take j).map (fun x => Value.string x.1) ++ [.string L[j].1]))
    (hg : (wr.alloc (.cells #[.string L[j].1] 9)).grownBy w1 (sblk v)) (hloc : sblk v' = sblk v ∨ sblk v' = some (wr.alloc (.cells #[.string L[j].1] 9)).heap.size)
    (hb : Below w.heap.size w wr) (hs : ∀ k, sblk v = some k → w.heap.size ≤ k) :
    w1.ownsRow 0 9 1 v' (j + 1) ((L.take (j + 1)).map fun x => .string x.1) ∧ Below w.heap.size w w1 ∧ ∀ k, sblk v' = some k → w.heap.size ≤ k := by
  refine ⟨?_, (hb.alloc hb.size _).grown hg (by rw [hsize_alloc]; have := hb.size; omega) hs, ?_⟩
  · rw [List.take_succ_eq_append_getElem hj, List.map_append]
    exact hown
  · intro k hk
    rcases hloc with h | h
    · exact hs k (h ▸ hk)
    · rw [h] at hk
      injection hk with hk
      rw [hsize_alloc] at hk
      have := hb.size
      omega

set_option maxHeartbeats 1000000 in
theorem ref_keys {w : World} {b : Nat} {v x1 x2 x3 : Value} {L : List Dat} (hb : w.heap[b]? = some (.cells #[v, x1, x2, x3] 53 (0, 0))) (hR : RdD w v L) (hl : L.length ≤ 1000000) :
    Calls Try.prog 25 #[.pointer (some ⟨b, 0, none⟩)] w (NewS (L.map (·.1)) w) := by
  obtain ⟨i0, hi, hz0, hz1, hz2⟩ := info_parts Try.info9
  obtain ⟨a, cap, rfl, hn, hc⟩ := hR.shape
  have HV : Hid (w.cell? ⟨b, 0, none⟩ = some (.slice a L.length cap)) := cell_of_heap hb rfl
  have HBl : Hid (b < w.heap.size) := lt_of_heap' hb
  have HC := Lib.hid hc
  have HI := Lib.hid hi
  have HZ0 := Lib.hid hz0
  have HZ1 := Lib.hid hz1
  have HZ2 := Lib.hid hz2
  clear hc hb hR hi hz0 hz1 hz2
  unfold maxLen at hn
  go_enter Try.func25, Try.ntmps25
  go_wp2
  go_loopg [3, 4] (L.length) (fun n v i wr => RKeysRel w L n v i wr)
  case atStart => exact ⟨0, by omega, by omega, rfl, World.ownsRow_nil _ _ _ _, Below.refl _ _, by intro k hk; cases hk⟩
  case round =>
    obtain ⟨j, hj, hnj, rfl, hown, hB, hs⟩ := hrel
    have HOWN := Lib.hid hown
    have HB := Lib.hid hB
    have HS := Lib.hid hs
    have hv : wr.cell? ⟨b, 0, none⟩ = some (.slice a L.length cap) := by rw [hB.cell (p := ⟨b, 0, none⟩) HBl.out]; exact HV.out
    clear hown hB hs
    by_cases hlt : j < L.length
    · obtain ⟨g, off, rfl, _, _, hg, hcell⟩ := HC.out (by omega)
      have c0 : wr.cell? ⟨g, off + j * 3, none⟩ = some (.string L[j].1) := by rw [HB.out.cell (p := ⟨g, off + j * 3, none⟩) hg]; exact (RdD.cells hcell hlt).1
      clear hcell hg
      go_wp2_with (at_builtin; refine wpList_append_rd _ rfl _ _ 28 rfl 9 i0 (.string ⟨#[]⟩) 1 16 Try.underlying28 HI.out HZ0.out HZ1.out HZ2.out rfl (by decide) _ _ _ rfl (own_turns HOWN.out ((Turns.refl (fun _ => False) wr).alloc _) (fun _ _ h => h)) _ 1 _ rfl (rd_new wr #[.string L[j].1] 9 1 1 rfl (by unfold maxLen; omega)) (one_str _) (by unfold maxLen; omega) (by omega) ?_; intro v' w1 hown1 hgrow1 hloc1; have HR := Lib.hid (rkeys_round hlt hown1 hgrow1 hloc1 HB.out HS.out); clear hown1 hgrow1 hloc1)
      go_roundg (L.length - (j + 1))
      case rel => exact ⟨j + 1, by omega, rfl, by go_num, HR.out⟩
      case measure => omega
    · obtain rfl : j = L.length := by omega
      go_wp2
      go_ret
      refine ⟨_, rfl, ?_, HB.out, HS.out⟩
      have := Rd.of_own HOWN.out
      rw [List.take_of_length_le (Nat.le_refl _)] at this
      unfold RdS
      simpa [Function.comp_def] using this

end Go.Proofs.Ytbmkeapebmlggaa
