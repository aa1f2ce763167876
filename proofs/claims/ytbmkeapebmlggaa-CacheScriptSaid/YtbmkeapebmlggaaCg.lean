/-
  The cache's methods as functions of a list of entries, within a footprint.
-/
import Derived.Test.YtbmkeapebmlggaaKb
namespace Go.Proofs.Ytbmkeapebmlggaa
open Go.RowKit Go.Vs Go.Maps Go.ChangeMaps Go.WideMaps

def TrueBelow (w : World) (e : Ending) (w' : World) : Prop := e = .returned (.bool true) ∧ Below w.heap.size w w'

def pfind (k : ByteArray) (L : List Dat) : Option Dat := L.find? (fun x => decide (x.1 = k))
def pmove (k : ByteArray) (x : Dat) (L : List Dat) : List Dat := pdrop k L ++ [x]

/-- F, and what is new between two worlds. -/
def Fp (F : Nat → Prop) (w w' : World) (k : Nat) : Prop := F k ∨ (w.heap.size ≤ k ∧ k < w'.heap.size)

/-- A cache of entries L, within F. -/
structure CA (F : Nat → Prop) (w : World) (p : Value) (L : List Dat) (room h m : Int) : Prop where
  ex : ∃ b mb es, p = .pointer (some ⟨b, 0, none⟩) ∧ Cch w b mb es room h m ∧ dats es = L ∧ ∀ k, foot b mb es k → F k
  lt : ∀ k, F k → k < w.heap.size
  len : L.length ≤ room.toNat
  r0 : 0 ≤ room
  r1 : room ≤ 1000

theorem CA.keys {F : Nat → Prop} {w : World} {p : Value} {L : List Dat} {room h m : Int} (c : CA F w p L room h m) : L.Pairwise (fun x y => x.1 ≠ y.1) := by
  obtain ⟨b, mb, es, rfl, C, rfl, hF⟩ := c.ex
  exact List.pairwise_map.2 C.keys

theorem CA.turns {F G : Nat → Prop} {w w' : World} {p : Value} {L : List Dat} {room h m : Int} (c : CA F w p L room h m) (ht : Turns G w w') (hd : ∀ k, F k → ¬ G k) : CA F w' p L room h m := by
  obtain ⟨b, mb, es, rfl, C, rfl, hF⟩ := c.ex
  exact ⟨⟨b, mb, es, rfl, C.turns ht (fun k hk => hd k (hF k hk)), rfl, hF⟩, fun k hk => Nat.lt_of_lt_of_le (c.lt k hk) ht.size, c.len, c.r0, c.r1⟩

theorem CA.drew {F : Nat → Prop} {w : World} {p : Value} {L : List Dat} {room h m : Int} (c : CA F w p L room h m) : CA F w.drew p L room h m :=
  c.turns ((Turns.refl (fun _ => False) w).drew) (fun _ _ h => h)

theorem CA.ptr {F : Nat → Prop} {w : World} {p : Value} {L : List Dat} {room h m : Int} (c : CA F w p L room h m) : ∃ b, p = .pointer (some ⟨b, 0, none⟩) := by
  obtain ⟨b, mb, es, rfl, C, rfl, hF⟩ := c.ex
  exact ⟨b, rfl⟩

theorem trim_len (n : Nat) (L : List Dat) : (trim n L).length ≤ n := by
  unfold trim
  rw [List.length_drop]
  omega

def NewCA (w : World) (room : Int) (e : Ending) (w' : World) : Prop :=
  ∃ b, e = .returned (.tuple #[.pointer (some ⟨b, 0, none⟩), .int .i64 0]) ∧ CA (Fp (fun _ => False) w w') w' (.pointer (some ⟨b, 0, none⟩)) [] room 0 0 ∧ Turns (fun _ => False) w w'

theorem ca_new (w : World) (room : Int) (h0 : 0 ≤ room) (h1 : room ≤ 1000) : Calls Try.prog 10 #[.int .i64 room] w (NewCA w room) := by
  refine (new_ok w room h0 h1).mono ?_
  rintro _ w' ⟨b, mb, rfl, C, T, hb, hmb⟩
  refine ⟨b, rfl, ⟨⟨b, mb, [], rfl, C, rfl, fun k hk => Or.inr ⟨?_, C.lt k hk⟩⟩, ?_, by simp, h0, h1⟩, T⟩
  · rcases hk with rfl | rfl | hk
    · exact hb
    · exact hmb
    · cases hk
  · rintro k (h | h)
    · exact h.elim
    · exact h.2

/-- What a call on a cache leaves: a result, the entries, the counts; nothing but the footprint has turned. -/
def Left (F : Nat → Prop) (w : World) (p v : Value) (L : List Dat) (room h m : Int) (e : Ending) (w' : World) : Prop :=
  e = .returned v ∧ CA (Fp F w w') w' p L room h m ∧ Turns F w w'

theorem ca_put {F : Nat → Prop} {w : World} {p : Value} {L : List Dat} {room h m : Int} (c : CA F w p L room h m) (k s v : ByteArray) (hk : k.size ≤ maxLen) :
    Calls Try.prog 12 #[p, .string k, .string s, .string v] w (Left F w p (.int .i64 0) (pput room.toNat k s v L) room h m) := by
  obtain ⟨b, mb, es, rfl, C, rfl, hF⟩ := c.ex
  have hl := c.len
  have := c.r1
  refine (put_any C k s v hk c.r0 c.r1 (by simp at hl; omega)).mono ?_
  rintro _ w' ⟨rfl, es', C', D, T, F'⟩
  refine ⟨rfl, ⟨⟨b, mb, es', rfl, C', D, fun x hx => ?_⟩, ?_, trim_len _ _, c.r0, c.r1⟩, T.mono fun x _ hx => hF x hx⟩
  · rcases F' x hx with h | h
    · exact Or.inl (hF x h)
    · exact Or.inr ⟨h, C'.lt x hx⟩
  · rintro x (hx | hx)
    · exact Nat.lt_of_lt_of_le (c.lt x hx) T.size
    · exact hx.2

theorem ca_drop {F : Nat → Prop} {w : World} {p : Value} {L : List Dat} {room h m : Int} (c : CA F w p L room h m) (k : ByteArray) (hk : k.size ≤ maxLen) :
    Calls Try.prog 18 #[p, .string k] w (Left F w p (.bool (pfind k L).isSome) (pdrop k L) room h m) := by
  obtain ⟨b, mb, es, rfl, C, rfl, hF⟩ := c.ex
  have hl := c.len
  refine (drop_any C k hk).mono ?_
  rintro _ w' ⟨rfl, C', T⟩
  refine ⟨?_, ⟨⟨b, mb, _, rfl, C', dats_dropL k es, fun x hx => Or.inl (hF x (foot_dropL hx))⟩, ?_, ?_, c.r0, c.r1⟩, T.mono fun x _ hx => hF x hx⟩
  · congr 2
    unfold pfind
    rw [List.find?_map, Option.isSome_map]
    rw [Bool.eq_iff_iff, List.any_eq_true, List.find?_isSome]
    rfl
  · rintro x (hx | hx)
    · exact Nat.lt_of_lt_of_le (c.lt x hx) T.size
    · exact hx.2
  · exact Nat.le_trans (List.length_filter_le _ _) hl

theorem ca_len {F : Nat → Prop} {w : World} {p : Value} {L : List Dat} {room h m : Int} (c : CA F w p L room h m) : Calls Try.prog 19 #[p] w fun e w' => e = .returned (.int .i64 L.length) ∧ w = w' := by
  obtain ⟨b, mb, es, rfl, C, rfl, hF⟩ := c.ex
  have := len_any C
  simpa using this

theorem ca_hits {F : Nat → Prop} {w : World} {p : Value} {L : List Dat} {room h m : Int} (c : CA F w p L room h m) : Calls Try.prog 20 #[p] w fun e w' => e = .returned (.tuple #[.int .i64 h, .int .i64 m]) ∧ w' = w.drew := by
  obtain ⟨b, mb, es, rfl, C, rfl, hF⟩ := c.ex
  exact hits_any C

theorem ca_keys {F : Nat → Prop} {w : World} {p : Value} {L : List Dat} {room h m : Int} (c : CA F w p L room h m) : Calls Try.prog 14 #[p] w (NewS (L.map (·.1)) w) := by
  obtain ⟨b, mb, es, rfl, C, rfl, hF⟩ := c.ex
  have hl := c.len
  have := c.r1
  have := keys_any C (by simp at hl; omega)
  rwa [show (dats es).map (·.1) = es.map (·.key) from by simp [dats, En.dat]]

/-- What a Get returns and leaves. -/
def pgetV (k s : ByteArray) (L : List Dat) : ByteArray × Bool :=
  match pfind k L with
  | some x => if x.2.1 = s then (x.2.2, true) else (⟨#[]⟩, false)
  | none => (⟨#[]⟩, false)
def pgetL (k s : ByteArray) (L : List Dat) : List Dat :=
  match pfind k L with
  | some x => if x.2.1 = s then pmove k x L else L
  | none => L

theorem pmove_len {k : ByteArray} {x : Dat} {L : List Dat} (hk : L.Pairwise (fun x y => x.1 ≠ y.1)) (hf : pfind k L = some x) : ∃ l1 l2, L = l1 ++ x :: l2 ∧ x.1 = k ∧ pmove k x L = l1 ++ l2 ++ [x] := by
  obtain ⟨h1, l1, l2, h2, _⟩ := List.find?_eq_some_iff_append.1 hf
  have hxk : x.1 = k := by simpa using h1
  refine ⟨l1, l2, h2, hxk, ?_⟩
  subst h2
  obtain ⟨g1, g2, g3⟩ := List.pairwise_append.1 hk
  obtain ⟨g4, g5⟩ := List.pairwise_cons.1 g2
  unfold pmove pdrop
  rw [List.filter_append, List.filter_cons]
  simp only [hxk, ne_eq, not_true_eq_false, decide_false, Bool.false_eq_true, if_false]
  rw [List.filter_eq_self.2, List.filter_eq_self.2]
  · intro y hy; simpa [← hxk] using Ne.symm (g4 y hy)
  · intro y hy; simpa [← hxk] using g3 y hy x (by simp)

theorem ca_get {F : Nat → Prop} {w : World} {p : Value} {L : List Dat} {room h m : Int} (c : CA F w p L room h m) (k s : ByteArray) (hk : k.size ≤ maxLen) (hh : 0 ≤ h ∧ h ≤ 1000000) (hm : 0 ≤ m ∧ m ≤ 1000000) :
    Calls Try.prog 15 #[p, .string k, .string s] w
      (Left F w p (.tuple #[.string (pgetV k s L).1, .bool (pgetV k s L).2]) (pgetL k s L) room (if (pgetV k s L).2 then h + 1 else h) (if (pgetV k s L).2 then m else m + 1)) := by
  have hkeys := c.keys
  obtain ⟨b, mb, es, rfl, C, rfl, hF⟩ := c.ex
  have hl := c.len
  have hlt := c.lt
  have miss : ∀ {w' : World}, w' = w.setCell ⟨b, 8, none⟩ (.int .i64 (m + 1)) → CA (Fp F w w') w' (.pointer (some ⟨b, 0, none⟩)) (dats es) room h (m + 1) ∧ Turns F w w' := by
    rintro w' rfl
    obtain ⟨C', T⟩ := C.setMiss (m + 1)
    refine ⟨⟨⟨b, mb, es, rfl, C', rfl, fun x hx => Or.inl (hF x hx)⟩, ?_, hl, c.r0, c.r1⟩, T.mono fun x _ hx => hF x hx⟩
    rintro x (hx | hx)
    · exact Nat.lt_of_lt_of_le (hlt x hx) T.size
    · exact hx.2
  have hpf : pfind k (dats es) = (es.find? (fun e => decide (e.key.data.toList = k.data.toList))).map En.dat := by
    unfold pfind
    rw [List.find?_map]
    have : ((fun x : Dat => decide (x.1 = k)) ∘ En.dat) = fun e : En => decide (e.key.data.toList = k.data.toList) := by
      funext e
      show decide (e.key = k) = decide (e.key.data.toList = k.data.toList)
      exact decide_eq_decide.2 ⟨fun h => by rw [h], str_inj⟩
    rw [this]
  cases hf : es.find? (fun e => decide (e.key.data.toList = k.data.toList)) with
  | none =>
    have hp : pfind k (dats es) = none := by rw [hpf, hf]; rfl
    refine (get_miss1 C k s hk hm (by unfold finder; rw [hf]; rfl)).mono ?_
    rintro _ w' ⟨rfl, hw⟩
    obtain ⟨h1, h2⟩ := miss hw
    unfold Left pgetV pgetL
    rw [hp]
    exact ⟨rfl, h1, h2⟩
  | some e =>
    have hp : pfind k (dats es) = some e.dat := by rw [hpf, hf]; rfl
    obtain ⟨l1, l2, hes, hke⟩ := find_split hf
    have hfin : finder es k.data.toList = some (P0 e.blk) := by unfold finder; rw [hf]; rfl
    by_cases hst : e.stamp = s
    · refine (get_hit C k s hk hh hes hfin hst).mono ?_
      rintro _ w' ⟨rfl, C', T⟩
      have hst' : e.dat.2.1 = s := hst
      have hmv : pmove k e.dat (dats es) = dats (l1 ++ l2 ++ [e]) := by
        unfold pmove
        rw [← dats_dropL]
        have hkk := C.keys
        have hke' := str_inj hke
        unfold dropL
        rw [hes] at hkk ⊢
        rw [← hke', filter_split hkk]
        simp [dats]
      unfold Left pgetV pgetL
      rw [hp]
      simp only [hst', if_true]
      refine ⟨rfl, ⟨⟨b, mb, _, rfl, C', hmv.symm, fun x hx => Or.inl (hF x ?_)⟩, ?_, ?_, c.r0, c.r1⟩, T.mono fun x _ hx => hF x hx⟩
      · rcases hx with h | h | h
        · exact Or.inl h
        · exact Or.inr (Or.inl h)
        · refine Or.inr (Or.inr ?_)
          rw [hes]
          simp only [blks, List.map_append, List.map_cons, List.map_nil, List.mem_append, List.mem_cons, List.not_mem_nil, or_false] at h ⊢
          rcases h with (h | h) | h
          · exact Or.inl h
          · exact Or.inr (Or.inr h)
          · exact Or.inr (Or.inl h)
      · rintro x (hx | hx)
        · exact Nat.lt_of_lt_of_le (hlt x hx) T.size
        · exact hx.2
      · rw [hmv]
        rw [hes] at hl
        simp at hl ⊢
        omega
    · refine (get_miss2 C k s hk hm hes hfin hst).mono ?_
      rintro _ w' ⟨rfl, hw⟩
      obtain ⟨h1, h2⟩ := miss hw
      have hst' : ¬ e.dat.2.1 = s := hst
      have e1 : pgetV k s (dats es) = (⟨#[]⟩, false) := by unfold pgetV; rw [hp]; exact if_neg hst'
      have e2 : pgetL k s (dats es) = dats es := by unfold pgetL; rw [hp]; exact if_neg hst'
      rw [e1, e2]
      exact ⟨rfl, h1, h2⟩

end Go.Proofs.Ytbmkeapebmlggaa
