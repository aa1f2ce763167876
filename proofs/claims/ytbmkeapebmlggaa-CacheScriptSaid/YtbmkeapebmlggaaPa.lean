/-
  CacheLast: the plain law.
-/
import Derived.Test.YtbmkeapebmlggaaMa
import Derived.Test.YtbmkeapebmlggaaAa
namespace Go.Proofs.Ytbmkeapebmlggaa
open Go.RowKit Go.Vs Go.Maps Go.ChangeMaps Go.WideMaps

/-- What a cache may hold after i calls, f the numbers of the last Puts. -/
structure LastInv (acts : List ActD) (i : Nat) (L : List Dat) (f : List UInt8 → Option Value) : Prop where
  ent : ∀ t ∈ L, ∃ j, ∃ hj : j < acts.length, j < i ∧ f t.1.data.toList = some (.int .i64 ((j : Int) + 1)) ∧ acts[j].stamp = t.2.1 ∧ acts[j].val = t.2.2
  num : ∀ s v, f s = some v → ∃ j : Nat, j ≤ i ∧ v = .int .i64 j

theorem pfind_mem {k : ByteArray} {L : List Dat} {x : Dat} (h : pfind k L = some x) : x ∈ L ∧ x.1 = k :=
  ⟨List.mem_of_find?_eq_some h, by simpa using List.find?_some h⟩

theorem pdrop_mem {k : ByteArray} {L : List Dat} {x : Dat} (h : x ∈ pdrop k L) : x ∈ L ∧ x.1 ≠ k := by
  unfold pdrop at h
  simpa using List.mem_filter.1 h

theorem pgetL_mem {k s : ByteArray} {L : List Dat} {x : Dat} (h : x ∈ pgetL k s L) : x ∈ L := by
  unfold pgetL at h
  split at h
  · rename_i y hy
    split at h
    · rcases List.mem_append.1 h with h | h
      · exact (pdrop_mem h).1
      · rw [List.mem_singleton.1 h]; exact (pfind_mem hy).1
    · exact h
  · exact h

theorem pput_mem {n : Nat} {k s v : ByteArray} {L : List Dat} {x : Dat} (h : x ∈ pput n k s v L) : (x ∈ L ∧ x.1 ≠ k) ∨ x = (k, s, v) := by
  rcases List.mem_append.1 (List.mem_of_mem_drop h) with h | h
  · exact Or.inl (pdrop_mem h)
  · exact Or.inr (List.mem_singleton.1 h)

theorem pgetV_true {k s x : ByteArray} {L : List Dat} (h : pgetV k s L = (x, true)) : (k, s, x) ∈ L := by
  unfold pgetV at h
  split at h
  · rename_i y hy
    split at h
    · rename_i hs
      obtain ⟨h1, rfl⟩ := pfind_mem hy
      injection h with h _
      subst h hs
      exact h1
    · cases h
  · cases h

theorem pgetV_false {k s x : ByteArray} {L : List Dat} (h : pgetV k s L = (x, false)) : x = ⟨#[]⟩ := by
  unfold pgetV at h
  split at h
  · split at h
    · cases h
    · injection h with h _; exact h.symm
  · injection h with h _; exact h.symm

variable {acts : List ActD} {i : Nat} {L : List Dat} {f : List UInt8 → Option Value}

theorem LastInv.start (acts : List ActD) : LastInv acts 0 [] (fun _ => none) := ⟨fun t h => (by cases h), fun s v h => (by cases h)⟩

theorem LastInv.get (h : LastInv acts i L f) (k s : ByteArray) : LastInv acts (i + 1) (pgetL k s L) f :=
  ⟨fun t ht => by
    obtain ⟨j, hj, h1, h2⟩ := h.ent t (pgetL_mem ht)
    exact ⟨j, hj, by omega, h2⟩, fun s v hv => by
    obtain ⟨j, h1, h2⟩ := h.num s v hv
    exact ⟨j, by omega, h2⟩⟩

theorem LastInv.drop (h : LastInv acts i L f) (k : ByteArray) : LastInv acts (i + 1) (pdrop k L) (upd f k.data.toList (some (.int .i64 0))) :=
  ⟨fun t ht => by
    obtain ⟨h0, hk⟩ := pdrop_mem ht
    obtain ⟨j, hj, h1, h2, h3⟩ := h.ent t h0
    refine ⟨j, hj, by omega, ?_, h3⟩
    unfold upd
    rw [if_neg (fun e => hk (str_inj e))]
    exact h2, fun s v hv => by
    unfold upd at hv
    split at hv
    · injection hv with hv; exact ⟨0, by omega, hv.symm⟩
    · obtain ⟨j, h1, h2⟩ := h.num s v hv
      exact ⟨j, by omega, h2⟩⟩

theorem LastInv.put (h : LastInv acts i L f) (hi : i < acts.length) (n : Nat) :
    LastInv acts (i + 1) (pput n acts[i].key acts[i].stamp acts[i].val L) (upd f acts[i].key.data.toList (some (.int .i64 ((i : Int) + 1)))) :=
  ⟨fun t ht => by
    rcases pput_mem ht with ⟨h0, hk⟩ | rfl
    · obtain ⟨j, hj, h1, h2, h3⟩ := h.ent t h0
      refine ⟨j, hj, by omega, ?_, h3⟩
      unfold upd
      rw [if_neg (fun e => hk (str_inj e))]
      exact h2
    · refine ⟨i, hi, by omega, ?_, rfl, rfl⟩
      simp [upd], fun s v hv => by
    unfold upd at hv
    split at hv
    · injection hv with hv; exact ⟨i + 1, by omega, by rw [← hv]; rfl⟩
    · obtain ⟨j, h1, h2⟩ := h.num s v hv
      exact ⟨j, by omega, h2⟩⟩

theorem LastInv.seen (h : LastInv acts i L f) {k s x : ByteArray} (hg : pgetV k s L = (x, true)) :
    ∃ j, ∃ hj : j < acts.length, j < i ∧ (f k.data.toList).getD (.int .i64 0) = .int .i64 ((j : Int) + 1) ∧ acts[j].stamp = s ∧ acts[j].val = x := by
  obtain ⟨j, hj, h1, h2, h3, h4⟩ := h.ent _ (pgetV_true hg)
  exact ⟨j, hj, h1, by rw [h2]; rfl, h3, h4⟩

theorem LastInv.look (h : LastInv acts i L f) (k : List UInt8) : ∃ j : Nat, j ≤ i ∧ (f k).getD (.int .i64 0) = .int .i64 j := by
  cases hf : f k with
  | none => exact ⟨0, by omega, rfl⟩
  | some v =>
    obtain ⟨j, h1, rfl⟩ := h.num k v hf
    exact ⟨j, h1, rfl⟩

end Go.Proofs.Ytbmkeapebmlggaa
