/-
  Keys of the cache.
-/
import Derived.Test.YtbmkeapebmlggaaCe
import Derived.Test.YtbmkeapebmlggaaKa
import Derived.LaidEqlPtr
namespace Go.Proofs.Ytbmkeapebmlggaa
open Go.RowKit Go.Vs Go.Maps Go.ChangeMaps Go.WideMaps

theorem Try.info9 : (Try.prog.info? 9).map (fun i => (i.zero, i.size, i.bytes)) = some (some (.string ⟨#[]⟩), 1, 16) := by kernel_rfl

theorem Try.info57 : (Try.prog.info? 57).map (·.size) = some 5 := by kernel_rfl

theorem ptr_neq_same (w : World) (a : Addr) : (binOp .neq 55 (.pointer (some a)) (.pointer (some a))).run Try.prog w = .ok (.bool false) w := by
  obtain ⟨j, hj, hs⟩ := Option.map_eq_some_iff.1 Try.info57
  have h : ∀ d : Nat, (Op.equalIn (d + 1) 55 (.pointer (some a)) (.pointer (some a))).run Try.prog w = .ok true w := fun d => by
    simp [Op.equalIn, run_underlying Try.underlying55, sizeOf, typeInfo, hj, run_sameAddr_same]
  simp only [binOp]
  simp [Op.equal, Op.maxDepth, h 9999]

theorem ptr_neq_other (w : World) {a b : Addr} {ca cb : Array Value} {ta tb : TypeId} (hne : a ≠ b) (ha : w.heap[a.block]? = some (.cells ca ta (0, 0))) (hb : w.heap[b.block]? = some (.cells cb tb (0, 0))) :
    (binOp .neq 55 (.pointer (some a)) (.pointer (some b))).run Try.prog w = .ok (.bool true) w := by
  obtain ⟨j, hj, hs⟩ := Option.map_eq_some_iff.1 Try.info57
  have h : ∀ d : Nat, (Op.equalIn (d + 1) 55 (.pointer (some a)) (.pointer (some b))).run Try.prog w = .ok false w := fun d => by
    simp [Op.equalIn, run_underlying Try.underlying55, sizeOf, typeInfo, hj, hs, run_sameAddr_other w hne ha hb]
  simp only [binOp]
  simp [Op.equal, Op.maxDepth, h 9999]

/-- A new slice of strings comes back; what was there stays. -/
def NewS (xs : List ByteArray) (w : World) (e : Ending) (w' : World) : Prop :=
  ∃ v, e = .returned v ∧ RdS w' v xs ∧ Below w.heap.size w w' ∧ ∀ b, sblk v = some b → w.heap.size ≤ b

def hdB (b : Nat) : List En → Nat
  | [] => b
  | e :: _ => e.blk

def KeysRel (b : Nat) (es : List En) (w : World) (n : Nat) (v e : Value) (wr : World) : Prop :=
  ∃ done rest, es = done ++ rest ∧ rest.length = n ∧ (∃ x, e = .pointer (some ⟨x, 0, none⟩) ∧ x = hdB b rest) ∧ wr.ownsRow 0 9 1 v done.length (done.map fun x => .string x.key) ∧ Below w.heap.size w wr ∧ ∀ k, sblk v = some k → w.heap.size ≤ k

theorem keys_round {b : Nat} {done rest : List En} {e0 : En} {w wr w1 : World} {v v' : Value}
    (hown : w1.ownsRow 0 9 1 v' (done.length + 1) (done.map (fun x => Value.string x.key) ++ [.string e0.key]))
    (hg : (wr.alloc (.cells #[.string e0.key] 9)).grownBy w1 (sblk v)) (hloc : sblk v' = sblk v ∨ sblk v' = some (wr.alloc (.cells #[.string e0.key] 9)).heap.size)
    (hb : Below w.heap.size w wr) (hs : ∀ k, sblk v = some k → w.heap.size ≤ k) :
    KeysRel b (done ++ e0 :: rest) w rest.length v' (.pointer (some ⟨hdB b rest, 0, none⟩)) w1 := by
  refine ⟨done ++ [e0], rest, by simp, rfl, ⟨_, rfl, rfl⟩, ?_, ?_, ?_⟩
  · simpa using hown
  · exact (hb.alloc hb.size _).grown hg (by rw [hsize_alloc]; have := hb.size; omega) hs
  · intro k hk
    rcases hloc with h | h
    · exact hs k (h ▸ hk)
    · rw [h] at hk
      injection hk with hk
      rw [hsize_alloc] at hk
      have := hb.size
      omega

theorem one_str (s : ByteArray) : ∀ u ∈ (#[Value.string s]).toList, u.oneCell' = true := by
  intro u hu
  simp at hu
  subst hu
  rfl

theorem keys_next {x : Nat} {y : Value} {k : ByteArray} {w wr w1 : World} {v : Value} (hb : Below w.heap.size w wr) (hs : ∀ k, sblk v = some k → w.heap.size ≤ k)
    (hg : (wr.alloc (.cells #[.string k] 9)).grownBy w1 (sblk v)) (hlt : x < w.heap.size) (hn : w.cell? ⟨x, 4, none⟩ = some y) : w1.cell? ⟨x, 4, none⟩ = some y := by
  have : Below w.heap.size w w1 := (hb.alloc hb.size _).grown hg (by rw [hsize_alloc]; have := hb.size; omega) hs
  rw [this.cell (p := ⟨x, 4, none⟩) hlt]
  exact hn

set_option maxHeartbeats 1000000 in
theorem keys_any {w : World} {b mb : Nat} {es : List En} {room h m : Int} (C : Cch w b mb es room h m) (hlen : es.length ≤ 1000000) :
    Calls Try.prog 14 #[.pointer (some ⟨b, 0, none⟩)] w (NewS (es.map (·.key)) w) := by
  obtain ⟨i0, hi, hz0, hz1, hz2⟩ := info_parts Try.info9
  have K1 := Lib.hid (oldest_any w b (.pointer (some ⟨hdB b es, 0, none⟩)) (by
    have hL := C.links
    cases es with
    | nil => exact hL.1.1
    | cons e r => exact hL.1.1))
  have CC := Lib.hid C
  have HI := Lib.hid hi
  have HZ0 := Lib.hid hz0
  have HZ1 := Lib.hid hz1
  have HZ2 := Lib.hid hz2
  clear C hi hz0 hz1 hz2
  go_enter Try.func14, Try.ntmps14
  go_wp2_with (go_at_call 28; refine (K1.out).mono ?_; rintro e' w' ⟨rfl, rfl⟩)
  go_loopg [2, 3] (es.length) (fun n v e wr => KeysRel b es w n v e wr)
  case atStart => exact ⟨[], es, rfl, rfl, ⟨_, rfl, rfl⟩, World.ownsRow_nil _ _ _ _, Below.refl _ _, by intro k hk; cases hk⟩
  case round =>
    obtain ⟨done, rest, hes, hn, ⟨x, rfl, hx⟩, hown, hb, hs⟩ := hrel
    have HES := Lib.hid hes
    have HOWN := Lib.hid hown
    have HB := Lib.hid hb
    have HS := Lib.hid hs
    have HN := Lib.hid hn
    have hl1 : done.length ≤ 1000000 := by
      have : es.length = done.length + rest.length := by rw [hes]; simp
      omega
    clear hes hown hb hs hn
    cases rest with
    | nil =>
      have hxb : x = b := hx
      subst hxb
      clear hx
      have hq := ptr_neq_same wr ⟨x, 0, none⟩
      go_wp2
      go_ret
      refine ⟨_, rfl, ?_, HB.out, HS.out⟩
      have := Rd.of_own HOWN.out
      rw [HES.out]
      unfold RdS
      simpa [Function.comp_def] using this
    | cons e0 r =>
      have hxb : x = e0.blk := hx
      subst hxb
      have hin : e0 ∈ es := by rw [HES.out]; simp
      have hblt : b < w.heap.size := CC.out.lt b (Or.inl rfl)
      have hne : e0.blk ≠ b := by
        have := CC.out.nodup
        simp only [List.nodup_cons] at this
        exact fun h => this.1 (h ▸ List.mem_map_of_mem hin)
      have hlt : e0.blk < w.heap.size := CC.out.lt _ (Or.inr (Or.inr (List.mem_map_of_mem hin)))
      obtain ⟨p, n, he⟩ := CC.out.ent e0 hin
      have c0 : wr.cell? ⟨e0.blk, 0, none⟩ = some (.string e0.key) := by
        rw [HB.out.cell (p := ⟨e0.blk, 0, none⟩) hlt]; exact cell_of_heap he rfl
      have hnx : w.cell? ⟨e0.blk, 4, none⟩ = some (.pointer (some ⟨hdB b r, 0, none⟩)) := by
        have hL := CC.out.links
        rw [HES.out] at hL
        have : b :: blks (done ++ e0 :: r) ++ [b] = (b :: blks done) ++ e0.blk :: (blks r ++ [b]) := by simp [blks]
        rw [this] at hL
        have h2 := ((links_append w e0.blk (blks r ++ [b]) (b :: blks done)).1 hL).2
        cases r with
        | nil => exact h2.1.1
        | cons e1 r => exact h2.1.1
      have hq : (binOp .neq 55 (.pointer (some ⟨e0.blk, 0, none⟩)) (.pointer (some ⟨b, 0, none⟩))).run Try.prog wr = .ok (.bool true) wr := by
        obtain ⟨s0, s1, s2, p0, n0, hh⟩ := CC.out.head
        exact ptr_neq_other wr (by simp) ((HB.out.block _ hlt).trans he) ((HB.out.block _ hblt).trans hh)
      clear hx he hin hne
      have HLT := Lib.hid hlt
      have HNX := Lib.hid hnx
      clear hlt hnx hblt
      go_wp2_with (at_builtin; refine wpList_append_rd _ rfl _ _ 28 rfl 9 i0 (.string ⟨#[]⟩) 1 16 Try.underlying28 HI.out HZ0.out HZ1.out HZ2.out rfl (by decide) _ _ _ rfl (own_turns HOWN.out ((Turns.refl (fun _ => False) wr).alloc _) (fun _ _ h => h)) _ 1 _ rfl (rd_new wr #[.string e0.key] 9 1 1 rfl (by unfold maxLen; omega)) (one_str _) (by unfold maxLen; omega) (by omega) ?_; intro v' w1 hown1 hgrow1 hloc1; have c4 : w1.cell? ⟨e0.blk, 4, none⟩ = some (.pointer (some ⟨hdB b r, 0, none⟩)) := keys_next HB.out HS.out hgrow1 HLT.out HNX.out)
      have HR := Lib.hid (keys_round (b := b) (rest := r) hown1 hgrow1 hloc1 HB.out HS.out)
      clear hown1 hgrow1 hloc1
      go_roundg r.length
      case rel => rw [HES.out]; exact HR.out
      case measure => have := HN.out; simp at this; omega

end Go.Proofs.Ytbmkeapebmlggaa
