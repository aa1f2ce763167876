/-
  A cache in a law's walk: its state since the law's first world, apart from what X names.
-/
import Derived.Test.YtbmkeapebmlggaaLa
namespace Go.Proofs.Ytbmkeapebmlggaa
open Go.RowKit Go.Vs Go.Maps Go.ChangeMaps Go.WideMaps

/-- A cache of entries L, all of it made since a, apart from X. -/
structure St (X : Nat → Prop) (a w : World) (p : Value) (L : List Dat) (room h m : Int) : Prop where
  ex : ∃ F, Since a F w ∧ CA F w p L room h m ∧ ∀ k, X k → ¬ F k ∧ k < w.heap.size

/-- A step of a cache: its value, the new state, and X as it was. -/
def Step (X : Nat → Prop) (a w : World) (p v : Value) (L : List Dat) (room h m : Int) (e : Ending) (w' : World) : Prop :=
  e = .returned v ∧ St X a w' p L room h m ∧ Turns (fun k => ¬ X k) w w'

theorem Turns.away {F X : Nat → Prop} {w w' : World} (t : Turns F w w') (h : ∀ k, X k → ¬ F k) : Turns (fun k => ¬ X k) w w' :=
  ⟨t.os, t.tape, t.output, t.size, fun k hk hx => t.block k hk (h k (Classical.not_not.1 hx))⟩

theorem St.left {X F : Nat → Prop} {a w w' : World} {p v : Value} {room' h' m' : Int} {L' : List Dat} {e : Ending}
    (s : Since a F w) (hx : ∀ k, X k → ¬ F k ∧ k < w.heap.size) (hl : Left F w p v L' room' h' m' e w') : Step X a w p v L' room' h' m' e w' := by
  obtain ⟨rfl, C, T⟩ := hl
  refine ⟨rfl, ⟨_, s.step T, C, fun k hk => ⟨?_, Nat.lt_of_lt_of_le (hx k hk).2 T.size⟩⟩, Turns.away T (fun k hk => (hx k hk).1)⟩
  rintro (h | h)
  · exact (hx k hk).1 h
  · exact Nat.lt_irrefl k (Nat.lt_of_lt_of_le (hx k hk).2 h.1)

theorem St.below {X : Nat → Prop} {a w w' : World} {p : Value} {L : List Dat} {room h m : Int} (s : St X a w p L room h m) (t : Below w.heap.size w w') : St X a w' p L room h m := by
  obtain ⟨F, S, C, hx⟩ := s.ex
  exact ⟨F, S.same t, C.below t, fun k hk => ⟨(hx k hk).1, Nat.lt_of_lt_of_le (hx k hk).2 t.size⟩⟩

theorem St.more {X Y : Nat → Prop} {a w w' : World} {p : Value} {L : List Dat} {room h m : Int} (s : St X a w p L room h m) (t : Below w.heap.size w w') (hy : ∀ k, Y k → w.heap.size ≤ k ∧ k < w'.heap.size) :
    St (fun k => X k ∨ Y k) a w' p L room h m := by
  obtain ⟨F, S, C, hx⟩ := s.ex
  refine ⟨F, S.same t, C.below t, fun k hk => ?_⟩
  rcases hk with hk | hk
  · exact ⟨(hx k hk).1, Nat.lt_of_lt_of_le (hx k hk).2 t.size⟩
  · exact ⟨fun hf => Nat.lt_irrefl k (Nat.lt_of_lt_of_le (C.lt k hf) (hy k hk).1), (hy k hk).2⟩

theorem St.out {X : Nat → Prop} {a w : World} {p : Value} {L : List Dat} {room h m : Int} (s : St X a w p L room h m) : Below a.heap.size a w := by
  obtain ⟨F, S, _⟩ := s.ex
  exact S.below

theorem st_new (X : Nat → Prop) {a w : World} (hb : Below a.heap.size a w) (hx : ∀ k, X k → k < w.heap.size) (room : Int) (h0 : 0 ≤ room) (h1 : room ≤ 1000) :
    Calls Try.prog 10 #[.int .i64 room] w fun e w' => ∃ b, e = .returned (.tuple #[.pointer (some ⟨b, 0, none⟩), .int .i64 0]) ∧ St X a w' (.pointer (some ⟨b, 0, none⟩)) [] room 0 0 ∧ Below w.heap.size w w' := by
  refine (ca_new w room h0 h1).mono ?_
  rintro _ w' ⟨b, rfl, C, T⟩
  refine ⟨b, rfl, ⟨_, ⟨hb.trans (T.below hb.size (fun _ h => h.elim)), fun k hk => ?_⟩, C, fun k hk => ⟨?_, Nat.lt_of_lt_of_le (hx k hk) T.size⟩⟩, T.below (Nat.le_refl _) (fun _ h => h.elim)⟩
  · rcases hk with hk | hk
    · exact hk.elim
    · exact Nat.le_trans hb.size hk.1
  · rintro (h | h)
    · exact h
    · exact Nat.lt_irrefl k (Nat.lt_of_lt_of_le (hx k hk) h.1)

theorem st_put {X : Nat → Prop} {a w : World} {p : Value} {L : List Dat} {room h m : Int} (c : St X a w p L room h m) (k s v : ByteArray) (hk : k.size ≤ maxLen) (L' : List Dat) (hL : pput room.toNat k s v L = L') :
    Calls Try.prog 12 #[p, .string k, .string s, .string v] w (Step X a w p (.int .i64 0) L' room h m) := by
  obtain ⟨F, S, C, hx⟩ := c.ex
  subst hL
  exact (ca_put C k s v hk).mono fun _ _ h => St.left S hx h

theorem st_drop {X : Nat → Prop} {a w : World} {p : Value} {L : List Dat} {room h m : Int} (c : St X a w p L room h m) (k : ByteArray) (hk : k.size ≤ maxLen) (L' : List Dat) (x : Bool) (hL : pdrop k L = L') (hv : (pfind k L).isSome = x) :
    Calls Try.prog 18 #[p, .string k] w (Step X a w p (.bool x) L' room h m) := by
  obtain ⟨F, S, C, hx⟩ := c.ex
  subst hL hv
  exact (ca_drop C k hk).mono fun _ _ h => St.left S hx h

theorem st_get {X : Nat → Prop} {a w : World} {p : Value} {L : List Dat} {room h m : Int} (c : St X a w p L room h m) (k s : ByteArray) (hk : k.size ≤ maxLen) (hh : 0 ≤ h ∧ h ≤ 1000000) (hm : 0 ≤ m ∧ m ≤ 1000000)
    (L' : List Dat) (x : ByteArray) (ok : Bool) (hL : pgetL k s L = L') (hv : pgetV k s L = (x, ok)) :
    Calls Try.prog 15 #[p, .string k, .string s] w (Step X a w p (.tuple #[.string x, .bool ok]) L' room (if ok then h + 1 else h) (if ok then m else m + 1)) := by
  obtain ⟨F, S, C, hx⟩ := c.ex
  subst hL
  have := ca_get C k s hk hh hm
  rw [hv] at this
  exact this.mono fun _ _ h => St.left S hx h

theorem st_len {X : Nat → Prop} {a w : World} {p : Value} {L : List Dat} {room h m : Int} (c : St X a w p L room h m) : Calls Try.prog 19 #[p] w fun e w' => e = .returned (.int .i64 L.length) ∧ w = w' := by
  obtain ⟨F, S, C, hx⟩ := c.ex
  exact ca_len C

theorem st_hits {X : Nat → Prop} {a w : World} {p : Value} {L : List Dat} {room h m : Int} (c : St X a w p L room h m) : Calls Try.prog 20 #[p] w fun e w' => e = .returned (.tuple #[.int .i64 h, .int .i64 m]) ∧ w' = w.drew := by
  obtain ⟨F, S, C, hx⟩ := c.ex
  exact ca_hits C

theorem st_keys {X : Nat → Prop} {a w : World} {p : Value} {L : List Dat} {room h m : Int} (c : St X a w p L room h m) : Calls Try.prog 14 #[p] w (NewS (L.map (·.1)) w) := by
  obtain ⟨F, S, C, hx⟩ := c.ex
  exact ca_keys C

end Go.Proofs.Ytbmkeapebmlggaa
