/-
  The cache and the document's cache beside each other.
-/
import Derived.Test.YtbmkeapebmlggaaRd
namespace Go.Proofs.Ytbmkeapebmlggaa
open Go.RowKit Go.Vs Go.Maps Go.ChangeMaps Go.WideMaps

theorem ref_get {F : Nat → Prop} {w : World} {b : Nat} {L : List Dat} {room h m : Int} (c : RS F w b L room h m) (hd : Dist L) (k s : ByteArray) (hh : 0 ≤ h ∧ h ≤ 1000000) (hm : 0 ≤ m ∧ m ≤ 1000000) (hl : L.length ≤ 1000)
    (x : ByteArray) (ok : Bool) (hv : pgetV k s L = (x, ok)) :
    Calls Try.prog 22 #[.pointer (some ⟨b, 0, none⟩), .string k, .string s] w (RLeft F w b (.tuple #[.string x, .bool ok]) (pgetL k s L) room (if ok then h + 1 else h) (if ok then m else m + 1)) := by
  obtain ⟨r, hr⟩ := at_ex k L
  rcases hr with ⟨_, hno⟩ | ⟨i, hi, _, hbe, hk⟩
  · have e1 : pgetV k s L = (⟨#[]⟩, false) := by unfold pgetV; rw [pfind_none hno]
    have e2 : pgetL k s L = L := by unfold pgetL; rw [pfind_none hno]
    rw [e1] at hv
    injection hv with h1 h2
    subst h1 h2
    rw [e2]
    exact ref_get_no c k s hm hno
  · obtain ⟨p1, p2⟩ := pdrop_at hd hi hk
    by_cases hst : L[i].2.1 = s
    · have e1 : pgetV k s L = (L[i].2.2, true) := by unfold pgetV; rw [p2]; simp [hst]
      have e2 : pgetL k s L = pdrop k L ++ [L[i]] := by unfold pgetL; rw [p2]; simp [hst, pmove]
      rw [e1] at hv
      injection hv with h1 h2
      subst h1 h2
      rw [e2]
      exact ref_get_hit c hd k s hh hl hi hbe hk hst
    · have e1 : pgetV k s L = (⟨#[]⟩, false) := by unfold pgetV; rw [p2]; simp [hst]
      have e2 : pgetL k s L = L := by unfold pgetL; rw [p2]; simp [hst]
      rw [e1] at hv
      injection hv with h1 h2
      subst h1 h2
      rw [e2]
      exact ref_get_other c k s hm hl hi hbe hk hst

theorem ref_new_bad (w : World) (room : Int) (h : room < 0 ∨ 1000 < room) : Calls Try.prog 21 #[.int .i64 room] w fun e w' => e = .returned (.tuple #[.pointer none, .int .i64 2]) ∧ w = w' := by
  rcases h with h | h
  · have h2 : decide (room < 0) = true := by simpa using h
    go_enter Try.func21, Try.ntmps21
    go_wp2
    go_ret2
    exact ⟨rfl, rfl⟩
  · have h2 : ¬ room < 0 := by omega
    go_enter Try.func21, Try.ntmps21
    go_wp2
    go_ret2
    exact ⟨rfl, rfl⟩

theorem ref_new (w : World) (room : Int) (h0 : 0 ≤ room) (h1 : room ≤ 1000) : Calls Try.prog 21 #[.int .i64 room] w fun e w' => e = .returned (.tuple #[.pointer (some ⟨w.heap.size, 0, none⟩), .int .i64 0]) ∧ w' = w.alloc (.cells #[.slice none 0 0, .int .i64 room, .int .i64 0, .int .i64 0] 53) := by
  have h2 : ¬ room < 0 := by omega
  have h3 : ¬ 1000 < room := by omega
  go_enter Try.func21, Try.ntmps21
  go_wp2
  go_ret2
  exact ⟨rfl, rfl⟩

structure St3 (X : Nat → Prop) (a w : World) (p : Value) (L : List Dat) (h m : Int) (b : Nat) (M : List Dat) (h2 m2 room : Int) : Prop where
  ex : ∃ F G, Since a F w ∧ (∀ k, G k → a.heap.size ≤ k) ∧ CA F w p L room h m ∧ RS G w b M room h2 m2 ∧ (∀ k, F k → ¬ G k) ∧ ∀ k, X k → ¬ F k ∧ ¬ G k ∧ k < w.heap.size

variable {X : Nat → Prop} {a w w' : World} {p : Value} {b : Nat} {L M : List Dat} {h m h2 m2 room : Int}

theorem St3.out (s : St3 X a w p L h m b M h2 m2 room) : Below a.heap.size a w := by
  obtain ⟨F, G, S, _⟩ := s.ex
  exact S.below

theorem St3.weak {Y : Nat → Prop} (s : St3 X a w p L h m b M h2 m2 room) (hy : ∀ k, Y k → X k) : St3 Y a w p L h m b M h2 m2 room := by
  obtain ⟨F, G, S, hg, C, D, hd, hx⟩ := s.ex
  exact ⟨F, G, S, hg, C, D, hd, fun k hk => hx k (hy k hk)⟩

theorem St3.below (s : St3 X a w p L h m b M h2 m2 room) (t : Below w.heap.size w w') : St3 X a w' p L h m b M h2 m2 room := by
  obtain ⟨F, G, S, hg, C, D, hd, hx⟩ := s.ex
  exact ⟨F, G, S.same t, hg, C.below t, D.below t, hd, fun k hk => ⟨(hx k hk).1, (hx k hk).2.1, Nat.lt_of_lt_of_le (hx k hk).2.2 t.size⟩⟩

theorem St3.more {Y : Nat → Prop} (s : St3 X a w p L h m b M h2 m2 room) (t : Below w.heap.size w w') (hy : ∀ k, Y k → w.heap.size ≤ k ∧ k < w'.heap.size) :
    St3 (fun k => X k ∨ Y k) a w' p L h m b M h2 m2 room := by
  obtain ⟨F, G, S, hg, C, D, hd, hx⟩ := s.ex
  refine ⟨F, G, S.same t, hg, C.below t, D.below t, hd, fun k hk => ?_⟩
  rcases hk with hk | hk
  · exact ⟨(hx k hk).1, (hx k hk).2.1, Nat.lt_of_lt_of_le (hx k hk).2.2 t.size⟩
  · exact ⟨fun hf => Nat.lt_irrefl k (Nat.lt_of_lt_of_le (C.lt k hf) (hy k hk).1), fun hf => Nat.lt_irrefl k (Nat.lt_of_lt_of_le (D.lt k hf) (hy k hk).1), (hy k hk).2⟩

theorem St3.facts (s : St3 X a w p L h m b M h2 m2 room) : Dist L ∧ L.length ≤ 1000 ∧ (L.length : Int) ≤ room ∧ 0 ≤ room ∧ room ≤ 1000 := by
  obtain ⟨F, G, S, hg, C, D, hd, hx⟩ := s.ex
  have := C.len
  have := C.r0
  have := C.r1
  exact ⟨C.keys, by omega, by omega, C.r0, C.r1⟩

theorem St3.ref (s : St3 X a w p L h m b M h2 m2 room) : ∃ v, w.heap[b]? = some (.cells #[v, .int .i64 room, .int .i64 h2, .int .i64 m2] 53 (0, 0)) ∧ RdD w v M := by
  obtain ⟨F, G, S, hg, C, D, hd, hx⟩ := s.ex
  obtain ⟨v, h1, h2, _⟩ := D.ex
  exact ⟨v, h1, Rd.of_own h2⟩

/-- A step of the cache. -/
def Step3 (X : Nat → Prop) (a w : World) (v : Value) (p : Value) (L : List Dat) (h m : Int) (b : Nat) (M : List Dat) (h2 m2 room : Int) (e : Ending) (w' : World) : Prop :=
  e = .returned v ∧ St3 X a w' p L h m b M h2 m2 room ∧ Turns (fun k => ¬ X k) w w'

theorem RS.turns {G F : Nat → Prop} (c : RS G w b M room h2 m2) (t : Turns F w w') (hd : ∀ k, G k → ¬ F k) : RS G w' b M room h2 m2 := by
  obtain ⟨v, h1, h2, h3⟩ := c.ex
  exact ⟨⟨v, (t.block b (c.lt b c.here) (hd b c.here)).trans h1, own_turns h2 t (fun y hy => hd y (h3 y hy).1), h3⟩, c.here, fun k hk => Nat.lt_of_lt_of_le (c.lt k hk) t.size⟩

theorem St3.left1 {F G : Nat → Prop} {v : Value} {L' : List Dat} {h' m' : Int} {e : Ending} (S : Since a F w) (hg : ∀ k, G k → a.heap.size ≤ k) (D : RS G w b M room h2 m2) (hd : ∀ k, F k → ¬ G k)
    (hx : ∀ k, X k → ¬ F k ∧ ¬ G k ∧ k < w.heap.size) (hl : Left F w p v L' room h' m' e w') : Step3 X a w v p L' h' m' b M h2 m2 room e w' := by
  obtain ⟨rfl, C, T⟩ := hl
  refine ⟨rfl, ⟨_, G, S.step T, hg, C, D.turns T (fun k hk hf => hd k hf hk), ?_, fun k hk => ⟨?_, (hx k hk).2.1, Nat.lt_of_lt_of_le (hx k hk).2.2 T.size⟩⟩, Turns.away T (fun k hk => (hx k hk).1)⟩
  · rintro k (h | h) hk
    · exact hd k h hk
    · exact Nat.lt_irrefl k (Nat.lt_of_lt_of_le (D.lt k hk) h.1)
  · rintro (h | h)
    · exact (hx k hk).1 h
    · exact Nat.lt_irrefl k (Nat.lt_of_lt_of_le (hx k hk).2.2 h.1)

theorem St3.left2 {F G : Nat → Prop} {v : Value} {M' : List Dat} {h' m' : Int} {e : Ending} (S : Since a F w) (hg : ∀ k, G k → a.heap.size ≤ k) (C : CA F w p L room h m) (hd : ∀ k, F k → ¬ G k)
    (hx : ∀ k, X k → ¬ F k ∧ ¬ G k ∧ k < w.heap.size) (hl : RLeft G w b v M' room h' m' e w') : Step3 X a w v p L h m b M' h' m' room e w' := by
  obtain ⟨rfl, D, T⟩ := hl
  refine ⟨rfl, ⟨F, _, ⟨S.below.trans (T.below S.below.size hg), S.ge⟩, ?_, C.turns T hd, D, ?_, fun k hk => ⟨(hx k hk).1, ?_, Nat.lt_of_lt_of_le (hx k hk).2.2 T.size⟩⟩, Turns.away T (fun k hk => (hx k hk).2.1)⟩
  · rintro k (h | h)
    · exact hg k h
    · exact Nat.le_trans S.below.size h.1
  · rintro k hk (h | h)
    · exact hd k hk h
    · exact Nat.lt_irrefl k (Nat.lt_of_lt_of_le (C.lt k hk) h.1)
  · rintro (h | h)
    · exact (hx k hk).2.1 h
    · exact Nat.lt_irrefl k (Nat.lt_of_lt_of_le (hx k hk).2.2 h.1)

theorem st3_put (c : St3 X a w p L h m b M h2 m2 room) (k s v : ByteArray) (hk : k.size ≤ maxLen) :
    Calls Try.prog 12 #[p, .string k, .string s, .string v] w (Step3 X a w (.int .i64 0) p (pput room.toNat k s v L) h m b M h2 m2 room) := by
  obtain ⟨F, G, S, hg, C, D, hd, hx⟩ := c.ex
  exact (ca_put C k s v hk).mono fun _ _ h => St3.left1 S hg D hd hx h

theorem st3_drop (c : St3 X a w p L h m b M h2 m2 room) (k : ByteArray) (hk : k.size ≤ maxLen) :
    Calls Try.prog 18 #[p, .string k] w (Step3 X a w (.bool (pfind k L).isSome) p (pdrop k L) h m b M h2 m2 room) := by
  obtain ⟨F, G, S, hg, C, D, hd, hx⟩ := c.ex
  exact (ca_drop C k hk).mono fun _ _ h => St3.left1 S hg D hd hx h

theorem st3_get (c : St3 X a w p L h m b M h2 m2 room) (k s : ByteArray) (hk : k.size ≤ maxLen) (hh : 0 ≤ h ∧ h ≤ 1000000) (hm : 0 ≤ m ∧ m ≤ 1000000) (x : ByteArray) (ok : Bool) (hv : pgetV k s L = (x, ok)) :
    Calls Try.prog 15 #[p, .string k, .string s] w (Step3 X a w (.tuple #[.string x, .bool ok]) p (pgetL k s L) (if ok then h + 1 else h) (if ok then m else m + 1) b M h2 m2 room) := by
  obtain ⟨F, G, S, hg, C, D, hd, hx⟩ := c.ex
  have := ca_get C k s hk hh hm
  rw [hv] at this
  exact this.mono fun _ _ h => St3.left1 S hg D hd hx h

theorem st3_rput (c : St3 X a w p L h m b M h2 m2 room) (hd : Dist M) (hl : M.length ≤ room.toNat) (k s v : ByteArray) :
    Calls Try.prog 24 #[.pointer (some ⟨b, 0, none⟩), .string k, .string s, .string v] w (Step3 X a w (.int .i64 0) p L h m b (pput room.toNat k s v M) h2 m2 room) := by
  obtain ⟨F, G, S, hg, C, D, hd', hx⟩ := c.ex
  exact (ref_put D hd hl C.r0 C.r1 k s v).mono fun _ _ h => St3.left2 S hg C hd' hx h

theorem st3_rdrop (c : St3 X a w p L h m b M h2 m2 room) (hd : Dist M) (hl : M.length ≤ 2000) (k : ByteArray) :
    Calls Try.prog 23 #[.pointer (some ⟨b, 0, none⟩), .string k] w (Step3 X a w (.bool (pfind k M).isSome) p L h m b (pdrop k M) h2 m2 room) := by
  obtain ⟨F, G, S, hg, C, D, hd', hx⟩ := c.ex
  exact (ref_drop D hd hl k).mono fun _ _ h => St3.left2 S hg C hd' hx h

theorem st3_rget (c : St3 X a w p L h m b M h2 m2 room) (hd : Dist M) (hl : M.length ≤ 1000) (k s : ByteArray) (hh : 0 ≤ h2 ∧ h2 ≤ 1000000) (hm : 0 ≤ m2 ∧ m2 ≤ 1000000) (x : ByteArray) (ok : Bool) (hv : pgetV k s M = (x, ok)) :
    Calls Try.prog 22 #[.pointer (some ⟨b, 0, none⟩), .string k, .string s] w (Step3 X a w (.tuple #[.string x, .bool ok]) p L h m b (pgetL k s M) (if ok then h2 + 1 else h2) (if ok then m2 else m2 + 1) room) := by
  obtain ⟨F, G, S, hg, C, D, hd', hx⟩ := c.ex
  exact (ref_get D hd k s hh hm hl x ok hv).mono fun _ _ h => St3.left2 S hg C hd' hx h

theorem st3_len (c : St3 X a w p L h m b M h2 m2 room) : Calls Try.prog 19 #[p] w fun e w' => e = .returned (.int .i64 L.length) ∧ w = w' := by
  obtain ⟨F, G, S, hg, C, D, hd, hx⟩ := c.ex
  exact ca_len C
theorem st3_hits (c : St3 X a w p L h m b M h2 m2 room) : Calls Try.prog 20 #[p] w fun e w' => e = .returned (.tuple #[.int .i64 h, .int .i64 m]) ∧ w' = w.drew := by
  obtain ⟨F, G, S, hg, C, D, hd, hx⟩ := c.ex
  exact ca_hits C
theorem st3_keys (c : St3 X a w p L h m b M h2 m2 room) : Calls Try.prog 14 #[p] w (NewS (L.map (·.1)) w) := by
  obtain ⟨F, G, S, hg, C, D, hd, hx⟩ := c.ex
  exact ca_keys C
theorem st3_rkeys (c : St3 X a w p L h m b M h2 m2 room) (hl : M.length ≤ 1000000) : Calls Try.prog 25 #[.pointer (some ⟨b, 0, none⟩)] w (NewS (M.map (·.1)) w) := by
  obtain ⟨v, h1, h2⟩ := c.ref
  exact ref_keys h1 h2 hl

theorem st3_new (s : St X a w p [] room 0 0) (h0 : 0 ≤ room) (h1 : room ≤ 1000) :
    Calls Try.prog 21 #[.int .i64 room] w fun e w' => ∃ b, e = .returned (.tuple #[.pointer (some ⟨b, 0, none⟩), .int .i64 0]) ∧ St3 X a w' p [] 0 0 b [] 0 0 room := by
  obtain ⟨F, S, C, hx⟩ := s.ex
  refine (ref_new w room h0 h1).mono ?_
  rintro _ w' ⟨rfl, rfl⟩
  have hb : Below w.heap.size w (w.alloc (.cells #[.slice none 0 0, .int .i64 room, .int .i64 0, .int .i64 0] 53)) := (Below.refl _ w).alloc (Nat.le_refl _) _
  refine ⟨_, rfl, F, fun k => k = w.heap.size, S.same hb, fun k hk => hk ▸ S.below.size, C.below hb, ⟨⟨.slice none 0 0, halloc_new w _, World.ownsRow_nil _ _ _ _, by intro y hy; cases hy⟩, rfl, fun k hk => by rw [hk, hsize_alloc]; omega⟩, fun k hk e => by have := C.lt k hk; omega, fun k hk => ⟨(hx k hk).1, fun e => by have := (hx k hk).2; omega, by rw [hsize_alloc]; have := (hx k hk).2; omega⟩⟩

end Go.Proofs.Ytbmkeapebmlggaa
