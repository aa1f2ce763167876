/-
  CacheStamps: the plain law; two caches beside each other.
-/
import Derived.Test.YtbmkeapebmlggaaPa
namespace Go.Proofs.Ytbmkeapebmlggaa
open Go.RowKit Go.Vs Go.Maps Go.ChangeMaps Go.WideMaps

abbrev Dist (L : List Dat) : Prop := L.Pairwise (fun x y => x.1 ≠ y.1)

theorem pdrop_append (k : ByteArray) (A B : List Dat) : pdrop k (A ++ B) = pdrop k A ++ pdrop k B := List.filter_append ..
theorem pdrop_pdrop (k : ByteArray) (A : List Dat) : pdrop k (pdrop k A) = pdrop k A := by
  unfold pdrop
  rw [List.filter_filter]
  congr 1
  funext x
  simp
theorem pdrop_one {k : ByteArray} {x : Dat} (h : x.1 = k) : pdrop k [x] = [] := by
  unfold pdrop
  simp [h]
theorem pdrop_dist {k : ByteArray} {L : List Dat} (h : Dist L) : Dist (pdrop k L) := h.filter _

theorem pfind_key {k : ByteArray} {L : List Dat} {x : Dat} (h : pfind k L = some x) : x.1 = k := by
  simpa using List.find?_some h

theorem pdrop_pgetL (k s : ByteArray) (L : List Dat) : pdrop k (pgetL k s L) = pdrop k L := by
  unfold pgetL
  split
  · rename_i x hx
    split
    · unfold pmove
      rw [pdrop_append, pdrop_pdrop, pdrop_one (pfind_key hx), List.append_nil]
    · rfl
  · rfl

theorem pput_pgetL (n : Nat) (k s s' v : ByteArray) (L : List Dat) : pput n k s v (pgetL k s' L) = pput n k s v L := by
  unfold pput
  rw [pdrop_pgetL]

theorem trim_zero (L : List Dat) : trim 0 L = [] := by unfold trim; simp
theorem trim_snoc (n : Nat) (A : List Dat) (x : Dat) : trim (n + 1) (A ++ [x]) = trim n A ++ [x] := by
  unfold trim
  rw [List.length_append, List.length_singleton, show A.length + 1 - (n + 1) = A.length - n by omega, List.drop_append_of_le_length (by omega)]
theorem trim_all {n : Nat} {L : List Dat} (h : L.length ≤ n) : trim n L = L := by
  unfold trim
  rw [show L.length - n = 0 by omega]
  rfl
theorem trim_trim {r R : Nat} (h : r ≤ R) (L : List Dat) : trim r (trim R L) = trim r L := by
  unfold trim
  rw [List.length_drop, List.drop_drop]
  congr 1
  omega
theorem trim_append {n : Nat} {A B : List Dat} (h : n ≤ B.length ∨ A = []) : trim n (A ++ B) = trim n B := by
  rcases h with h | rfl
  · unfold trim
    rw [List.length_append, List.drop_append, List.drop_of_length_le (by omega), List.nil_append]
    congr 1
    omega
  · rfl
theorem trim_sub {n : Nat} {A : List Dat} {x : Dat} (h : x ∈ trim n A) : x ∈ A := List.mem_of_mem_drop h

theorem dist_drop_len {k : ByteArray} : ∀ {L : List Dat}, Dist L → L.length ≤ (pdrop k L).length + 1
  | [], _ => by simp
  | x :: L, h => by
    obtain ⟨h1, h2⟩ := List.pairwise_cons.1 h
    by_cases hx : x.1 = k
    · have e : pdrop k L = L := by
        unfold pdrop
        refine List.filter_eq_self.2 fun y hy => ?_
        simpa [← hx] using Ne.symm (h1 y hy)
      have e2 : pdrop k (x :: L) = pdrop k L := by unfold pdrop; rw [List.filter_cons]; simp [hx]
      rw [e2, e]
      simp
    · have e2 : pdrop k (x :: L) = x :: pdrop k L := by unfold pdrop; rw [List.filter_cons]; simp [hx]
      rw [e2]
      have := dist_drop_len (k := k) h2
      simp
      omega

theorem Dist.trim {n : Nat} {L : List Dat} (h : Dist L) : Dist (trim n L) := List.Pairwise.sublist (List.drop_sublist _ _) h

theorem put_suffix {r R : Nat} (hr : r ≤ R) (k s v : ByteArray) {L M : List Dat} (hM : Dist M) (h : L = trim r M) : pput r k s v L = trim r (pput R k s v M) := by
  subst h
  unfold pput
  rw [trim_trim hr]
  have e : pdrop k M = pdrop k (M.take (M.length - r)) ++ pdrop k (trim r M) := by
    unfold trim
    rw [← pdrop_append, List.take_append_drop]
  rw [e, List.append_assoc]
  refine (trim_append ?_).symm
  by_cases hl : r ≤ M.length
  · left
    have := dist_drop_len (k := k) (Dist.trim (n := r) hM)
    have hl2 : (trim r M).length = r := by unfold trim; rw [List.length_drop]; omega
    rw [List.length_append, List.length_singleton]
    omega
  · right
    rw [show M.length - r = 0 by omega]
    rfl

theorem pput_dist {n : Nat} {k s v : ByteArray} {L : List Dat} (h : Dist L) : Dist (pput n k s v L) := by
  unfold pput
  refine Dist.trim (List.pairwise_append.2 ⟨pdrop_dist h, by simp, fun x hx y hy => ?_⟩)
  rw [List.mem_singleton.1 hy]
  exact (pdrop_mem hx).2

theorem pfind_snoc {k : ByteArray} {A : List Dat} {x : Dat} (hA : ∀ y ∈ A, y.1 ≠ k) (hx : x.1 = k) : pfind k (A ++ [x]) = some x := by
  unfold pfind
  rw [List.find?_append, List.find?_eq_none.2 (fun y hy => by simpa using hA y hy)]
  simp [hx]

theorem get_put (n : Nat) (k s v : ByteArray) (L : List Dat) (hn : 0 < n) : pgetV k s (pput n k s v L) = (v, true) ∧ pgetL k s (pput n k s v L) = pput n k s v L := by
  obtain ⟨m, rfl⟩ : ∃ m, n = m + 1 := ⟨n - 1, by omega⟩
  have hA : ∀ y ∈ trim m (pdrop k L), y.1 ≠ k := fun y hy => (pdrop_mem (trim_sub hy)).2
  have hf : pfind k (pput (m + 1) k s v L) = some (k, s, v) := by
    unfold pput
    rw [trim_snoc]
    exact pfind_snoc hA rfl
  refine ⟨by unfold pgetV; rw [hf]; simp, ?_⟩
  unfold pgetL
  rw [hf]
  simp only [if_true]
  unfold pput pmove
  rw [trim_snoc, pdrop_append, pdrop_one (k := k) (x := (k, s, v)) rfl, List.append_nil]
  congr 1
  unfold pdrop
  exact List.filter_eq_self.2 fun y hy => by simpa using hA y hy

theorem get_put0 (k s v : ByteArray) (L : List Dat) : pgetV k s (pput 0 k s v L) = (⟨#[]⟩, false) ∧ pgetL k s (pput 0 k s v L) = pput 0 k s v L := by
  have e : pput 0 k s v L = [] := trim_zero _
  rw [e]
  exact ⟨rfl, rfl⟩

/-- What the first of two caches holds after i rounds, f the numbers of the last Puts. -/
theorem LastInv.got {acts : List ActD} {i : Nat} {L : List Dat} {f : List UInt8 → Option Value} (h : LastInv acts i L f) (k s : ByteArray) : LastInv acts i (pgetL k s L) f :=
  ⟨fun t ht => h.ent t (pgetL_mem ht), h.num⟩

theorem pgetL_false {k s x : ByteArray} {L : List Dat} (h : pgetV k s L = (x, false)) : pgetL k s L = L := by
  unfold pgetV at h
  unfold pgetL
  split at h
  · split at h
    · cases h
    · rename_i hs
      rw [if_neg hs]
  · rfl

/-! ### two caches -/
structure St2 (X : Nat → Prop) (a w : World) (p : Value) (L : List Dat) (room h m : Int) (q : Value) (M : List Dat) (room2 h2 m2 : Int) : Prop where
  ex : ∃ F G, Since a F w ∧ (∀ k, G k → a.heap.size ≤ k) ∧ CA F w p L room h m ∧ CA G w q M room2 h2 m2 ∧ (∀ k, F k → ¬ G k) ∧ ∀ k, X k → ¬ F k ∧ ¬ G k ∧ k < w.heap.size

variable {X : Nat → Prop} {a w w' : World} {p q : Value} {L M : List Dat} {room h m room2 h2 m2 : Int}

theorem St2.out (s : St2 X a w p L room h m q M room2 h2 m2) : Below a.heap.size a w := by
  obtain ⟨F, G, S, _⟩ := s.ex
  exact S.below

theorem St2.swap (s : St2 X a w p L room h m q M room2 h2 m2) : St2 X a w q M room2 h2 m2 p L room h m := by
  obtain ⟨F, G, S, hg, C, D, hd, hx⟩ := s.ex
  exact ⟨G, F, ⟨S.below, hg⟩, S.ge, D, C, fun k hk hf => hd k hf hk, fun k hk => ⟨(hx k hk).2.1, (hx k hk).1, (hx k hk).2.2⟩⟩

theorem St2.weak {Y : Nat → Prop} (s : St2 X a w p L room h m q M room2 h2 m2) (hy : ∀ k, Y k → X k) : St2 Y a w p L room h m q M room2 h2 m2 := by
  obtain ⟨F, G, S, hg, C, D, hd, hx⟩ := s.ex
  exact ⟨F, G, S, hg, C, D, hd, fun k hk => hx k (hy k hk)⟩

theorem St2.below (s : St2 X a w p L room h m q M room2 h2 m2) (t : Below w.heap.size w w') : St2 X a w' p L room h m q M room2 h2 m2 := by
  obtain ⟨F, G, S, hg, C, D, hd, hx⟩ := s.ex
  exact ⟨F, G, S.same t, hg, C.below t, D.below t, hd, fun k hk => ⟨(hx k hk).1, (hx k hk).2.1, Nat.lt_of_lt_of_le (hx k hk).2.2 t.size⟩⟩

theorem St2.more {Y : Nat → Prop} (s : St2 X a w p L room h m q M room2 h2 m2) (t : Below w.heap.size w w') (hy : ∀ k, Y k → w.heap.size ≤ k ∧ k < w'.heap.size) :
    St2 (fun k => X k ∨ Y k) a w' p L room h m q M room2 h2 m2 := by
  obtain ⟨F, G, S, hg, C, D, hd, hx⟩ := s.ex
  refine ⟨F, G, S.same t, hg, C.below t, D.below t, hd, fun k hk => ?_⟩
  rcases hk with hk | hk
  · exact ⟨(hx k hk).1, (hx k hk).2.1, Nat.lt_of_lt_of_le (hx k hk).2.2 t.size⟩
  · exact ⟨fun hf => Nat.lt_irrefl k (Nat.lt_of_lt_of_le (C.lt k hf) (hy k hk).1), fun hf => Nat.lt_irrefl k (Nat.lt_of_lt_of_le (D.lt k hf) (hy k hk).1), (hy k hk).2⟩

theorem St2.turns {G' : Nat → Prop} (s : St2 X a w p L room h m q M room2 h2 m2) (t : Turns G' w w') (hG : ∀ k, G' k → X k) (ha : ∀ k, G' k → a.heap.size ≤ k) : St2 X a w' p L room h m q M room2 h2 m2 := by
  obtain ⟨F, G, S, hg, C, D, hd, hx⟩ := s.ex
  exact ⟨F, G, ⟨S.below.trans (t.below S.below.size ha), S.ge⟩, hg, C.turns t (fun k hk hk' => (hx k (hG k hk')).1 hk), D.turns t (fun k hk hk' => (hx k (hG k hk')).2.1 hk), hd,
    fun k hk => ⟨(hx k hk).1, (hx k hk).2.1, Nat.lt_of_lt_of_le (hx k hk).2.2 t.size⟩⟩

theorem St2.len (s : St2 X a w p L room h m q M room2 h2 m2) : (L.length : Int) ≤ room ∧ (M.length : Int) ≤ room2 := by
  obtain ⟨F, G, S, hg, C, D, hd, hx⟩ := s.ex
  have := C.len
  have := C.r0
  have := D.len
  have := D.r0
  omega

theorem St2.dist (s : St2 X a w p L room h m q M room2 h2 m2) : Dist L ∧ Dist M := by
  obtain ⟨F, G, S, hg, C, D, hd, hx⟩ := s.ex
  exact ⟨C.keys, D.keys⟩

theorem st2_of (s : St X a w p L room h m) (room2 : Int) (h0 : 0 ≤ room2) (h1 : room2 ≤ 1000) :
    Calls Try.prog 10 #[.int .i64 room2] w fun e w' => ∃ b, e = .returned (.tuple #[.pointer (some ⟨b, 0, none⟩), .int .i64 0]) ∧ St2 X a w' p L room h m (.pointer (some ⟨b, 0, none⟩)) [] room2 0 0 := by
  obtain ⟨F, S, C, hx⟩ := s.ex
  refine (ca_new w room2 h0 h1).mono ?_
  rintro _ w' ⟨b, rfl, D, T⟩
  have hb := T.below (Nat.le_refl _) (fun _ h => h.elim)
  have hn : ∀ k, Fp (fun _ => False) w w' k → w.heap.size ≤ k := fun k hk => by
    rcases hk with hk | hk
    · exact hk.elim
    · exact hk.1
  refine ⟨b, rfl, F, _, S.same hb, fun k hk => Nat.le_trans S.below.size (hn k hk), C.below hb, D, fun k hk hg => Nat.lt_irrefl k (Nat.lt_of_lt_of_le (C.lt k hk) (hn k hg)), fun k hk => ⟨(hx k hk).1, fun hg => Nat.lt_irrefl k (Nat.lt_of_lt_of_le (hx k hk).2 (hn k hg)), Nat.lt_of_lt_of_le (hx k hk).2 hb.size⟩⟩

/-- A step of the first of two caches. -/
def Step2 (X : Nat → Prop) (a w : World) (p v : Value) (L : List Dat) (room h m : Int) (q : Value) (M : List Dat) (room2 h2 m2 : Int) (e : Ending) (w' : World) : Prop :=
  e = .returned v ∧ St2 X a w' p L room h m q M room2 h2 m2 ∧ Turns (fun k => ¬ X k) w w'

theorem St2.left {F G : Nat → Prop} {v : Value} {L' : List Dat} {room' h' m' : Int} {e : Ending} (S : Since a F w) (hg : ∀ k, G k → a.heap.size ≤ k) (D : CA G w q M room2 h2 m2) (hd : ∀ k, F k → ¬ G k)
    (hx : ∀ k, X k → ¬ F k ∧ ¬ G k ∧ k < w.heap.size) (hl : Left F w p v L' room' h' m' e w') : Step2 X a w p v L' room' h' m' q M room2 h2 m2 e w' := by
  obtain ⟨rfl, C, T⟩ := hl
  refine ⟨rfl, ⟨_, G, S.step T, hg, C, D.turns T (fun k hk hf => hd k hf hk), ?_, fun k hk => ⟨?_, (hx k hk).2.1, Nat.lt_of_lt_of_le (hx k hk).2.2 T.size⟩⟩, Turns.away T (fun k hk => (hx k hk).1)⟩
  · rintro k (h | h) hk
    · exact hd k h hk
    · exact Nat.lt_irrefl k (Nat.lt_of_lt_of_le (D.lt k hk) h.1)
  · rintro (h | h)
    · exact (hx k hk).1 h
    · exact Nat.lt_irrefl k (Nat.lt_of_lt_of_le (hx k hk).2.2 h.1)

theorem st2_put (c : St2 X a w p L room h m q M room2 h2 m2) (k s v : ByteArray) (hk : k.size ≤ maxLen) :
    Calls Try.prog 12 #[p, .string k, .string s, .string v] w (Step2 X a w p (.int .i64 0) (pput room.toNat k s v L) room h m q M room2 h2 m2) := by
  obtain ⟨F, G, S, hg, C, D, hd, hx⟩ := c.ex
  exact (ca_put C k s v hk).mono fun _ _ h => St2.left S hg D hd hx h

theorem st2_put' (c : St2 X a w p L room h m q M room2 h2 m2) (k s v : ByteArray) (hk : k.size ≤ maxLen) :
    Calls Try.prog 12 #[q, .string k, .string s, .string v] w fun e w' => e = .returned (.int .i64 0) ∧ St2 X a w' p L room h m q (pput room2.toNat k s v M) room2 h2 m2 ∧ Turns (fun k => ¬ X k) w w' :=
  (st2_put c.swap k s v hk).mono fun _ _ h => ⟨h.1, h.2.1.swap, h.2.2⟩

theorem st2_get (c : St2 X a w p L room h m q M room2 h2 m2) (k s : ByteArray) (hk : k.size ≤ maxLen) (hh : 0 ≤ h ∧ h ≤ 1000000) (hm : 0 ≤ m ∧ m ≤ 1000000)
    (x : ByteArray) (ok : Bool) (hv : pgetV k s L = (x, ok)) :
    Calls Try.prog 15 #[p, .string k, .string s] w (Step2 X a w p (.tuple #[.string x, .bool ok]) (pgetL k s L) room (if ok then h + 1 else h) (if ok then m else m + 1) q M room2 h2 m2) := by
  obtain ⟨F, G, S, hg, C, D, hd, hx⟩ := c.ex
  have := ca_get C k s hk hh hm
  rw [hv] at this
  exact this.mono fun _ _ h => St2.left S hg D hd hx h

theorem st2_keys (c : St2 X a w p L room h m q M room2 h2 m2) : Calls Try.prog 14 #[p] w (NewS (L.map (·.1)) w) := by
  obtain ⟨F, G, S, hg, C, D, hd, hx⟩ := c.ex
  exact ca_keys C

theorem st2_keys' (c : St2 X a w p L room h m q M room2 h2 m2) : Calls Try.prog 14 #[q] w (NewS (M.map (·.1)) w) := st2_keys c.swap

end Go.Proofs.Ytbmkeapebmlggaa
