/-
  The calls of a script as they lie in memory; 'light' asks whether they are few and short.
-/
import Derived.Test.YtbmkeapebmlggaaLa
import Derived.Test.YtbmkeapebmlggaaOpen
namespace Go.Proofs.Ytbmkeapebmlggaa
open Go.RowKit Go.Vs Go.Maps Go.ChangeMaps Go.WideMaps

structure ActD where
  kind : Int
  key : ByteArray
  stamp : ByteArray
  val : ByteArray

def ActD.enc (a : ActD) : List Value := [.int .i64 a.kind, .string a.key, .string a.stamp, .string a.val]
def ActD.ok (a : ActD) : Prop := (Lit.int .i64 a.kind).wf = true

theorem act_dec {d : Nat} {w : World} {cs : List Value} (h : all2 (okc (d + 1) w) [.int, .str, .str, .str] cs) : ∃ x : ActD, cs = x.enc ∧ x.ok := by
  obtain ⟨c0, r0, rfl, ⟨n, rfl, hw⟩, h1⟩ := all2_cons h
  obtain ⟨c1, r1, rfl, ⟨s1, rfl, _⟩, h2⟩ := all2_cons h1
  obtain ⟨c2, r2, rfl, ⟨s2, rfl, _⟩, h3⟩ := all2_cons h2
  obtain ⟨c3, r3, rfl, ⟨s3, rfl, _⟩, h4⟩ := all2_cons h3
  obtain rfl := all2_nil h4
  exact ⟨⟨n, s1, s2, s3⟩, rfl, hw⟩

/-- v is a slice of the calls xs. -/
def RdA (w : World) (v : Value) (xs : List ActD) : Prop := Rd w 4 v xs.length (xs.flatMap ActD.enc)

theorem RdA.cells {w : World} {xs : List ActD} {b off : Nat} (h : ∀ j u, (xs.flatMap ActD.enc)[j]? = some u → w.cell? ⟨b, off + j, none⟩ = some u) {i : Nat} (hi : i < xs.length) :
    w.cell? ⟨b, off + i * 4, none⟩ = some (.int .i64 xs[i].kind) ∧ w.cell? ⟨b, off + i * 4 + 1, none⟩ = some (.string xs[i].key) ∧ w.cell? ⟨b, off + i * 4 + 2, none⟩ = some (.string xs[i].stamp) ∧ w.cell? ⟨b, off + i * 4 + 3, none⟩ = some (.string xs[i].val) := by
  have k : ∀ j u, j < 4 → (xs[i].enc)[j]? = some u → w.cell? ⟨b, off + i * 4 + j, none⟩ = some u := fun j u hj hu => by
    have := h (i * 4 + j) u (by rw [flat_get ActD.enc 4 (fun _ => rfl) xs i j hi hj]; exact hu)
    rwa [← Nat.add_assoc] at this
  exact ⟨k 0 _ (by omega) rfl, k 1 _ (by omega) rfl, k 2 _ (by omega) rfl, k 3 _ (by omega) rfl⟩

def small (x : ActD) : Bool := decide (x.key.size ≤ 30 ∧ x.stamp.size ≤ 30 ∧ x.val.size ≤ 30)
def lightB (xs : List ActD) : Bool := decide (xs.length ≤ 80) && xs.all small

theorem light_no {xs : List ActD} {i : Nat} (hi : i < xs.length) (h : small xs[i] = false) : lightB xs = false := by
  unfold lightB
  rw [show xs.all small = false from List.all_eq_false.2 ⟨xs[i], List.getElem_mem _, by simp [h]⟩, Bool.and_false]

theorem light_next {xs : List ActD} {k : Nat} (h : (xs.take k).all small = true) (hk : k < xs.length) (hs : small xs[k] = true) : Aside ((xs.take (k + 1)).all small = true) := by
  show _ = _
  rw [List.take_succ_eq_append_getElem hk, List.all_append, h]
  simp [hs]

set_option maxHeartbeats 1000000 in
theorem light_any {w : World} {v : Value} {xs : List ActD} (h : RdA w v xs) : Calls Try.prog 17 #[v] w fun e w' => e = .returned (.bool (lightB xs)) ∧ w = w' := by
  obtain ⟨a, cap, rfl, hn, hc⟩ := h.shape
  unfold maxLen at hn
  clear h
  by_cases h80 : xs.length ≤ 80
  · have HC := Lib.hid hc
    clear hc
    go_enter Try.func17, Try.ntmps17
    go_wp2
    go_loopg [3] (xs.length) (fun n i wr => ∃ k : Nat, k ≤ xs.length ∧ n = xs.length - k ∧ i = .int .i64 k ∧ Aside ((xs.take k).all small = true) ∧ w = wr)
    case atStart => exact ⟨0, by omega, by omega, rfl, (by simp [Aside]), rfl⟩
    case round =>
      obtain ⟨k, hk, hn, rfl, htk, rfl⟩ := hrel
      by_cases hlt : k < xs.length
      · obtain ⟨b, off, rfl, _, _, _, hcell⟩ := HC.out (by omega)
        obtain ⟨_, c1, c2, c3⟩ := RdA.cells hcell hlt
        clear hcell
        generalize hx : xs[k] = x at *
        have HX := Lib.hid hx
        clear hx
        by_cases hs : small x = true
        · have HS := Lib.hid hs
          have hs' := hs
          simp only [small, decide_eq_true_eq] at hs'
          obtain ⟨s1, s2, s3⟩ := hs'
          clear hs
          go_wp2
          go_roundg (xs.length - (k + 1))
          case rel => exact ⟨k + 1, by omega, rfl, by go_num, light_next htk.out hlt (by rw [HX.out]; exact HS.out), rfl⟩
          case measure => omega
        · have hs' : small x = false := by simpa using hs
          have HS := Lib.hid hs'
          have HL := Lib.hid (light_no hlt (by rw [HX.out]; exact hs'))
          simp only [small, decide_eq_false_iff_not] at hs'
          clear hs
          by_cases s1 : x.key.size ≤ 30
          · by_cases s2 : x.stamp.size ≤ 30
            · have s3 : ¬ x.val.size ≤ 30 := fun h => hs' ⟨s1, s2, h⟩
              clear hs'
              go_wp2
              go_ret
              exact ⟨by rw [HL.out]; rfl, rfl⟩
            · clear hs'
              go_wp2
              go_ret
              exact ⟨by rw [HL.out]; rfl, rfl⟩
          · clear hs'
            go_wp2
            go_ret
            exact ⟨by rw [HL.out]; rfl, rfl⟩
      · have hkk : k = xs.length := by omega
        have HL : Hid (lightB xs = true) := by
          show _ = _
          have := htk.out
          rw [List.take_of_length_le (by omega)] at this
          simp [lightB, this, h80]
        clear htk hkk
        go_wp2
        go_ret
        exact ⟨by rw [HL.out]; rfl, rfl⟩
  · have HL : Hid (lightB xs = false) := by show _ = _; simp [lightB, h80]
    clear hc
    go_enter Try.func17, Try.ntmps17
    go_wp2
    go_ret
    exact ⟨by rw [HL.out]; rfl, rfl⟩

end Go.Proofs.Ytbmkeapebmlggaa
