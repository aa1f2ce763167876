/-
  CacheKeeps: the walk.
-/
import Derived.Test.YtbmkeapebmlggaaLa
import Derived.StillTailTactics
import Derived.Deep.RegionWith
import Derived.Deep.RegionHeld3
import Derived.IntWalk
import Derived.Deep.DeepCutAuto
namespace Go.Proofs.Ytbmkeapebmlggaa
open Go.RowKit Go.Vs Go.Maps Go.ChangeMaps Go.WideMaps

def kk : ByteArray := ⟨#[107]⟩
def ss : ByteArray := ⟨#[115]⟩
def keysN (n : Nat) : List ByteArray := (List.range n).map fun i => rep kk (i + 1)
def entsN (n : Nat) : List Dat := (keysN n).map fun x => (x, ss, x)

theorem trim_snoc (r : Nat) (A : List Dat) (x : Dat) : trim r (trim r A ++ [x]) = trim r (A ++ [x]) := by
  unfold trim
  simp only [List.length_append, List.length_drop, List.length_cons, List.length_nil]
  rw [List.drop_append, List.drop_append, List.drop_drop]
  simp only [List.length_drop]
  congr 2
  · omega
  · omega

theorem rep_kk_size (n : Nat) : (rep kk n).size = n := by rw [rep_size]; show n * 1 = n; omega

theorem keysN_mem {n : Nat} {x : ByteArray} (h : x ∈ keysN n) : 1 ≤ x.size ∧ x.size ≤ n := by
  unfold keysN at h
  obtain ⟨i, hi, rfl⟩ := List.mem_map.1 h
  rw [rep_kk_size]
  have := List.mem_range.1 hi
  omega

theorem keysN_succ (n : Nat) : keysN (n + 1) = keysN n ++ [rep kk (n + 1)] := by simp [keysN, List.range_succ]
theorem entsN_succ (n : Nat) : entsN (n + 1) = entsN n ++ [(rep kk (n + 1), ss, rep kk (n + 1))] := by simp [entsN, keysN_succ]

theorem trim_mem {r : Nat} {A : List Dat} {x : Dat} (h : x ∈ trim r A) : x ∈ A := List.mem_of_mem_drop h

theorem puts_step (r n : Nat) : pput r (rep kk (n + 1)) ss (rep kk (n + 1)) (trim r (entsN n)) = trim r (entsN (n + 1)) := by
  have h : pdrop (rep kk (n + 1)) (trim r (entsN n)) = trim r (entsN n) := by
    unfold pdrop
    refine List.filter_eq_self.2 fun x hx => ?_
    obtain ⟨y, hy, rfl⟩ := List.mem_map.1 (trim_mem hx)
    have := keysN_mem hy
    simp only [ne_eq, decide_not, Bool.not_eq_eq_eq_not, Bool.not_true, decide_eq_false_iff_not]
    intro e
    rw [e, rep_kk_size] at this
    omega
  unfold pput
  rw [h, trim_snoc, entsN_succ]

theorem keysN_length (n : Nat) : (keysN n).length = n := by simp [keysN]

/-- The relation of the loop that puts. -/
def KeepRel (a : World) (room : Int) (p : Value) (k : Nat) (v : Value) (w : World) : Prop :=
  ∃ F, Since a F w ∧ CA F w p (trim room.toNat (entsN k)) room 0 0 ∧ w.ownsRow 0 9 1 v k ((keysN k).map Value.string) ∧ ∀ b, sblk v = some b → a.heap.size ≤ b ∧ ¬ F b

theorem keep_start {a w : World} {F : Nat → Prop} {room : Int} {p : Value} (s : Since a F w) (c : CA F w p [] room 0 0) : KeepRel a room p 0 (.slice none 0 0) w :=
  ⟨F, s, by simpa [trim, entsN, keysN] using c, World.ownsRow_nil _ _ _ _, by intro b hb; cases hb⟩

/-- What the append of a new key leaves. -/
def KeepMid (a : World) (room : Int) (p : Value) (k : Nat) (v : Value) (w : World) : Prop :=
  ∃ F, Since a F w ∧ CA F w p (trim room.toNat (entsN k)) room 0 0 ∧ w.ownsRow 0 9 1 v (k + 1) ((keysN (k + 1)).map Value.string) ∧ ∀ b, sblk v = some b → a.heap.size ≤ b ∧ ¬ F b

theorem keep_mid {a wr w1 : World} {F : Nat → Prop} {room : Int} {p v v' : Value} {k : Nat} {x : ByteArray} (hx : x = rep kk (k + 1)) (s : Since a F wr) (c : CA F wr p (trim room.toNat (entsN k)) room 0 0)
    (hv : ∀ b, sblk v = some b → a.heap.size ≤ b ∧ ¬ F b)
    (h1 : w1.ownsRow 0 9 1 v' (k + 1) ((keysN k).map Value.string ++ (#[Value.string x]).toList)) (hg : (wr.alloc (.cells #[.string x] 9)).grownBy w1 (sblk v))
    (hl : sblk v' = sblk v ∨ sblk v' = some (wr.alloc (.cells #[.string x] 9)).heap.size) : KeepMid a room p k v' w1 := by
  have hT : Turns (fun b => sblk v = some b) wr w1 := ((Turns.refl _ wr).alloc _).grown hg (fun b h _ => h)
  refine ⟨F, ⟨(s.below.alloc s.below.size _).grown hg (by rw [hsize_alloc]; have := s.below.size; omega) (fun b h => (hv b h).1), s.ge⟩, c.turns hT (fun b hb hs => (hv b hs).2 hb), ?_, ?_⟩
  · rw [keysN_succ, ← hx]
    simpa using h1
  · intro b hb
    rcases hl with h | h
    · exact hv b (h ▸ hb)
    · rw [h] at hb
      injection hb with hb
      rw [hsize_alloc] at hb
      have := s.below.size
      refine ⟨by omega, fun hF => ?_⟩
      have := c.lt b hF
      omega

theorem keep_next {a w3 w4 : World} {F : Nat → Prop} {room : Int} {p v : Value} {k : Nat} (s : Since a F w3)
    (h1 : w3.ownsRow 0 9 1 v (k + 1) ((keysN (k + 1)).map Value.string)) (hv : ∀ b, sblk v = some b → a.heap.size ≤ b ∧ ¬ F b)
    (C4 : CA (Fp F w3.drew w4) w4 p (pput room.toNat (rep kk (k + 1)) ⟨#[115]⟩ (rep kk (k + 1)) (trim room.toNat (entsN k))) room 0 0) (T4 : Turns F w3.drew w4) : KeepRel a room p (k + 1) v w4 := by
  rw [show (⟨#[115]⟩ : ByteArray) = ss from rfl, puts_step] at C4
  have s' : Since a F w3.drew := ⟨s.below.drew, s.ge⟩
  refine ⟨_, s'.step T4, C4, own_turns (show w3.drew.ownsRow 0 9 1 v (k + 1) ((keysN (k + 1)).map Value.string) from h1) T4 (fun b hb => (hv b hb).2), fun b hb => ⟨(hv b hb).1, ?_⟩⟩
  rintro (h | h)
  · exact (hv b hb).2 h
  · rw [← sblk_own] at hb
    have := (h1.lt b hb).2
    have h2 : w3.drew.heap.size = w3.heap.size := rfl
    omega

theorem own_cap {w : World} {vb off n cap : Nat} {xs : List Value} (h : w.ownsRow 0 9 1 (.slice (some ⟨vb, off, none⟩) n cap) n xs) (_hn : 0 < n) : n ≤ cap ∧ cap ≤ 9223372036854775807 := by
  rcases h.2 with ⟨h, _⟩ | ⟨g, cap', cur, e, _, _, h3, h4, _⟩
  · cases h
  · injection e with e1 e2 e3
    subst e3
    unfold maxLen at h4
    omega

def keepWant (T : List ByteArray) (k : Nat) (x : ByteArray) : List ByteArray := T.take k ++ T.drop (k + 1) ++ [x]

def ent (x : ByteArray) : Dat := (x, ss, x)

theorem find_self (x : ByteArray) : ∀ T : List ByteArray, x ∈ T → T.find? (fun y => decide (y = x)) = some x
  | [], h => by cases h
  | y :: r, h => by
    by_cases e : y = x
    · simp [e]
    · rw [List.find?_cons_of_neg (by simpa using e)]
      rcases List.mem_cons.1 h with h | h
      · exact absurd h.symm e
      · exact find_self x r h

theorem filter_mid {A B : List ByteArray} {x : ByteArray} (hn : (A ++ x :: B).Nodup) : (A ++ x :: B).filter (fun y => decide (y ≠ x)) = A ++ B := by
  obtain ⟨h1, h2, h3⟩ := List.nodup_append.1 hn
  obtain ⟨h4, h5⟩ := List.nodup_cons.1 h2
  rw [List.filter_append, List.filter_cons]
  simp only [ne_eq, not_true_eq_false, decide_false, Bool.false_eq_true, if_false]
  rw [List.filter_eq_self.2, List.filter_eq_self.2]
  · intro y hy; simpa using fun e : y = x => h4 (e ▸ hy)
  · intro y hy; simpa using fun e : y = x => h3 y hy x (by simp) e

theorem pget_mid {A B : List ByteArray} {x : ByteArray} (hn : (A ++ x :: B).Nodup) :
    pgetV x ⟨#[115]⟩ ((A ++ x :: B).map ent) = (x, true) ∧ pgetL x ⟨#[115]⟩ ((A ++ x :: B).map ent) = (A ++ B ++ [x]).map ent := by
  have hf : pfind x ((A ++ x :: B).map ent) = some (ent x) := by
    unfold pfind
    rw [List.find?_map]
    have : ((fun y : Dat => decide (y.1 = x)) ∘ ent) = fun y => decide (y = x) := rfl
    rw [this, find_self x _ (by simp)]
    rfl
  have hd : pdrop x ((A ++ x :: B).map ent) = (A ++ B).map ent := by
    unfold pdrop
    rw [List.filter_map]
    have : ((fun y : Dat => decide (y.1 ≠ x)) ∘ ent) = fun y => decide (y ≠ x) := rfl
    rw [this, filter_mid hn]
  unfold pgetV pgetL
  rw [hf]
  have he : (ent x).2.1 = ⟨#[115]⟩ := rfl
  simp only [he, if_true]
  refine ⟨rfl, ?_⟩
  unfold pmove
  rw [hd]
  simp

theorem pget_there {T : List ByteArray} (hn : T.Nodup) {k : Nat} (hk : k < T.length) :
    pgetV T[k] ⟨#[115]⟩ (T.map ent) = (T[k], true) ∧ pgetL T[k] ⟨#[115]⟩ (T.map ent) = (keepWant T k T[k]).map ent := by
  have hT : T = T.take k ++ T[k] :: T.drop (k + 1) := by rw [List.getElem_cons_drop, List.take_append_drop]
  have hn' := hn
  rw [hT] at hn'
  have := pget_mid hn'
  rw [← hT] at this
  exact this

theorem CA.drewN {F : Nat → Prop} {w : World} {p : Value} {L : List Dat} {room h m : Int} (c : CA F w p L room h m) (q : Nat) : CA F (w.drewN q) p L room h m :=
  c.turns (G := fun _ => False) ⟨rfl, rfl, rfl, Nat.le_refl _, fun _ _ _ => rfl⟩ (fun _ _ h => h)

theorem rds_cell {w : World} {vb off cap k : Nat} {T : List ByteArray} (h : RdS w (.slice (some ⟨vb, off, none⟩) T.length cap) T) (hk : k < T.length) : w.cell? ⟨vb, off + k, none⟩ = some (.string T[k]) := by
  obtain ⟨a, cap', e, _, h2⟩ := h.shape
  obtain ⟨b', off', rfl, h3⟩ := h2 (by omega)
  injection e with e1
  injection e1 with e1
  injection e1 with e1 e2
  subst e1 e2
  exact RdS.cell h3 hk

/-- The part of a slice behind an index, at whatever address the empty part has. -/
theorem rds_tail {w : World} {vb off cap k vo : Nat} {T : List ByteArray} (h : RdS w (.slice (some ⟨vb, off, none⟩) T.length cap) T) (hk : k < T.length)
    (hvo : (if cap = k + 1 then some (⟨vb, off, none⟩ : Addr) else some ⟨vb, off + (k + 1), none⟩) = some ⟨vb, vo, none⟩) :
    RdS w (.slice (some ⟨vb, vo, none⟩) (T.length - (k + 1)) (cap - (k + 1))) (T.drop (k + 1)) := by
  have hB := rds_sub h (lo := k + 1) (hi := T.length) (by omega) (by omega)
  rw [List.take_of_length_le (by simp)] at hB
  by_cases hc : cap = k + 1
  · have hd : T.drop (k + 1) = [] := by
      obtain ⟨a, cap', e, _, _⟩ := h.shape
      rcases h.2 with ⟨e, _⟩ | ⟨b', off', cap', e, h3, _⟩
      · cases e
      · injection e with e1 e2 e3
        subst e3
        exact List.drop_of_length_le (by omega)
    rw [hd] at hB ⊢
    refine ⟨rfl, Or.inr ⟨vb, vo, cap - (k + 1), ?_, Nat.zero_le _, ?_, by simp⟩⟩
    · have : T.length - (k + 1) = 0 := by
        have := congrArg List.length hd
        simpa using this
      rw [this]
      rfl
    · rw [hc]; simp
  · rw [if_neg hc] at hvo
    injection hvo with hvo
    injection hvo with _ hvo
    rw [← hvo]
    exact hB

/-- What is wanted, in a slice of its own; the cache. -/
def WantRel (a : World) (r : Nat) (p : Value) (W : List ByteArray) (t : Value) (T : List ByteArray) (v : Value) (w : World) : Prop :=
  ∃ G, Since a G w ∧ CA G w p (W.map ent) (1 + (r : Int)) 1 0 ∧ w.ownsRow 0 9 1 v W.length (W.map Value.string) ∧ (∀ b, sblk v = some b → a.heap.size ≤ b ∧ ¬ G b) ∧ RdS w t T

/-- Since w7 only new blocks have turned; v is a slice of the call's own, made since. -/
structure St (w7 X : World) (v : Value) (n : Nat) (xs : List Value) : Prop where
  below : Below w7.heap.size w7 X
  own : X.ownsRow 0 9 1 v n xs
  ge : ∀ b, sblk v = some b → w7.heap.size ≤ b

theorem St.first {w7 X Y : World} {v : Value} {n b : Nat} {xs : List Value} (h : Below w7.heap.size w7 X) (hb : Below X.heap.size X Y) (ho : Y.ownsRow 0 9 1 v n xs) (hs : sblk v = some b) (hg : X.heap.size ≤ b) : St w7 Y v n xs :=
  ⟨h.trans (hb.mono h.size), ho, fun c hc => by rw [hs] at hc; injection hc with hc; have := h.size; omega⟩
theorem St.alloc {w7 X : World} {v : Value} {n : Nat} {xs : List Value} (s : St w7 X v n xs) (o : Obj) : St w7 (X.alloc o) v n xs :=
  ⟨s.below.alloc s.below.size o, s.own.alloc o, s.ge⟩
theorem St.app {w7 X Y : World} {v v' : Value} {n m : Nat} {xs ys : List Value} (s : St w7 X v n xs) (h : Y.ownsRow 0 9 1 v' m ys) (hg : X.grownBy Y (sblk v)) (hl : sblk v' = sblk v ∨ sblk v' = some X.heap.size) : St w7 Y v' m ys :=
  ⟨s.below.grown hg s.below.size s.ge, h, fun c hc => by
    rcases hl with h | h
    · exact s.ge c (h ▸ hc)
    · rw [h] at hc; injection hc with hc; have := s.below.size; omega⟩
theorem St.cell {w7 X : World} {v : Value} {n : Nat} {xs : List Value} (s : St w7 X v n xs) {b o : Nat} {u : Value} (hb : b < w7.heap.size) (h : w7.drew.cell? ⟨b, o, none⟩ = some u) : X.cell? ⟨b, o, none⟩ = some u := by
  rw [s.below.cell (p := ⟨b, o, none⟩) hb]; exact h

theorem rdc_mid {w7 wA wB : World} {v : Value} {n : Nat} {xs : List Value} {x : ByteArray} (s : St w7 wA v n xs) (g : (wA.alloc (.cells #[.string x] 9)).grownBy wB (sblk v)) :
    Rd wB 1 (.slice (some ⟨wA.heap.size, 0, none⟩) 1 1) 1 (#[Value.string x]).toList := by
  refine (rd_new wA #[.string x] 9 1 1 rfl (by unfold maxLen; omega)).turns (F := fun k => sblk v = some k) ((Turns.refl _ _).grown g (fun k h _ => h)) ?_
  intro b hb h
  cases hb
  have := (s.own.lt wA.heap.size (by rw [sblk_own]; exact h)).2
  omega

theorem rdc_old {w7 wA wB : World} {v : Value} {b : Nat} {x : ByteArray} (hb : Below (w7.alloc (.cells #[.string x] 9)).drew.heap.size (w7.alloc (.cells #[.string x] 9)).drew wA) (hg : (w7.alloc (.cells #[.string x] 9)).drew.heap.size ≤ b) (hs : sblk v = some b)
    (g : wA.grownBy wB (sblk v)) : Rd wB 1 (.slice (some ⟨w7.heap.size, 0, none⟩) 1 1) 1 (#[Value.string x]).toList := by
  have e : (w7.alloc (.cells #[.string x] 9)).drew.heap.size = w7.heap.size + 1 := hsize_alloc _ _
  have h1 : Rd (w7.alloc (.cells #[.string x] 9)).drew 1 (.slice (some ⟨w7.heap.size, 0, none⟩) 1 1) 1 (#[Value.string x]).toList := rd_new w7 #[.string x] 9 1 1 rfl (by unfold maxLen; omega)
  refine (h1.below hb (by intro c hc; cases hc; show w7.heap.size < _; omega)).turns (F := fun k => sblk v = some k) ((Turns.refl _ _).grown g (fun k h _ => h)) ?_
  intro c hc h
  cases hc
  rw [hs] at h
  injection h with h
  have h2 : b = w7.heap.size := h
  omega

theorem keepWant_len {T : List ByteArray} {k : Nat} {x : ByteArray} (hk : k < T.length) : (keepWant T k x).length = T.length := by
  unfold keepWant
  simp
  omega

theorem want_end {a w7 wD : World} {G : Nat → Prop} {r vb off cap k : Nat} {p v : Value} {T : List ByteArray} {n : Nat} (hk : k < T.length) (c : CA G w7 p ((keepWant T k T[k]).map ent) (1 + (r : Int)) 1 0)
    (rd : RdS w7 (.slice (some ⟨vb, off, none⟩) T.length cap) T) (s : Since a G w7)
    (st : St w7 wD v n (((T.take k).map Value.string ++ (T.drop (k + 1)).map Value.string) ++ (#[Value.string T[k]]).toList)) :
    WantRel a r p (keepWant T k T[k]) (.slice (some ⟨vb, off, none⟩) T.length cap) T v wD := by
  have hl := keepWant_len (x := T[k]) hk
  have ho := st.own
  have hn : n = T.length := by
    have := ho.1
    simp at this
    omega
  subst hn
  refine ⟨G, s.same st.below, c.below st.below, ?_, fun b hb => ⟨Nat.le_trans s.below.size (st.ge b hb), fun h => ?_⟩, ?_⟩
  · rw [hl]
    unfold keepWant
    simpa using ho
  · have h1 := st.ge b hb
    have h2 := c.lt b h
    omega
  · exact Rd.below rd st.below (by intro x hx; have := rd.lt (by omega) (by omega) x hx; exact this)

theorem own_lt {w : World} {v : Value} {n x : Nat} {xs : List Value} (h : w.ownsRow 0 9 1 v n xs) (hx : sblk v = some x) : x < w.heap.size := (h.lt x (by rw [sblk_own]; exact hx)).2
theorem own_below {w w' : World} {v : Value} {n : Nat} {xs : List Value} (h : w.ownsRow 0 9 1 v n xs) (hb : Below w.heap.size w w') : w'.ownsRow 0 9 1 v n xs :=
  own_turns (F := fun k => w.heap.size ≤ k) h ⟨hb.os, hb.tape, hb.output, hb.size, fun k hk _ => hb.block k hk⟩ (fun b hb' hf => by have := own_lt h hb'; omega)

def newK : ByteArray := ⟨#[110, 101, 119]⟩

theorem puts_new {T : List ByteArray} {r k : Nat} (h6 : ∀ x ∈ T, x.size ≤ 60 ∧ x ≠ ⟨#[110, 101, 119]⟩) (hk : k < T.length) :
    (pput (1 + (r : Int)).toNat ⟨#[110, 101, 119]⟩ ⟨#[115]⟩ ⟨#[]⟩ ((keepWant T k T[k]).map ent)).map (·.1) = (keepWant T k T[k] ++ [newK]).drop (T.length + 1 - (1 + r)) := by
  have hmem : ∀ y ∈ keepWant T k T[k], y ∈ T := by
    intro y hy
    unfold keepWant at hy
    simp only [List.mem_append, List.mem_singleton] at hy
    rcases hy with (h | h) | h
    · exact List.mem_of_mem_take h
    · exact List.mem_of_mem_drop h
    · rw [h]; exact List.getElem_mem _
  have hd : pdrop ⟨#[110, 101, 119]⟩ ((keepWant T k T[k]).map ent) = (keepWant T k T[k]).map ent := by
    unfold pdrop
    refine List.filter_eq_self.2 fun x hx => ?_
    obtain ⟨y, hy, rfl⟩ := List.mem_map.1 hx
    exact decide_eq_true (h6 y (hmem y hy)).2
  unfold pput
  rw [hd]
  unfold trim
  rw [List.map_drop]
  have hl := keepWant_len (x := T[k]) hk
  congr 1
  · simp [hl]
    omega
  · simp [ent, Function.comp_def, newK]

/-- Behind the last append: the cache's keys are the wanted ones' end. -/
theorem keep_fin {a w10 w11 : World} {G : Nat → Prop} {r k vb off cap : Nat} {p v : Value} {T : List ByteArray}
    (h6 : ∀ x ∈ T, x.size ≤ 60 ∧ x ≠ ⟨#[110, 101, 119]⟩) (hk : k < T.length) (s : Since a G w10)
    (c : CA G w10 p (pput (1 + (r : Int)).toNat ⟨#[110, 101, 119]⟩ ⟨#[115]⟩ ⟨#[]⟩ ((keepWant T k T[k]).map ent)) (1 + (r : Int)) 1 0)
    (hv : ∀ x, sblk v = some x → a.heap.size ≤ x ∧ ¬ G x)
    (h1 : w11.ownsRow 0 9 1 (.slice (some ⟨vb, off, none⟩) ((keepWant T k T[k]).length + 1) cap) ((keepWant T k T[k]).length + 1) ((keepWant T k T[k]).map Value.string ++ (#[Value.string ⟨#[110, 101, 119]⟩]).toList))
    (hg : (w10.alloc (.cells #[.string ⟨#[110, 101, 119]⟩] 9)).grownBy w11 (sblk v)) :
    Below a.heap.size a w11 ∧ (∃ L, CA G w11 p L (1 + (r : Int)) 1 0 ∧ L.map (·.1) = (keepWant T k T[k] ++ [newK]).drop (T.length + 1 - (1 + r))) ∧ vb < w11.heap.size ∧ T.length + 1 ≤ cap ∧ cap ≤ 9223372036854775807 ∧
      RdS w11 (.slice (some ⟨vb, off, none⟩) (keepWant T k T[k] ++ [newK]).length cap) (keepWant T k T[k] ++ [newK]) := by
  have hl := keepWant_len (x := T[k]) hk
  have hT : Turns (fun b => sblk v = some b) w10 w11 := ((Turns.refl _ w10).alloc _).grown hg (fun b h _ => h)
  obtain ⟨hc1, hc2⟩ := own_cap h1 (by omega)
  refine ⟨(s.below.alloc s.below.size _).grown hg (by rw [hsize_alloc]; have := s.below.size; omega) (fun b h => (hv b h).1), ⟨_, c.turns hT (fun b hb hs => (hv b hs).2 hb), puts_new h6 hk⟩, own_lt h1 rfl, by omega, hc2, ?_⟩
  have := Rd.of_own h1
  unfold RdS newK
  simpa using this

/-- What stands behind the loop: the keys that are there. -/
def ThereRel (a : World) (r : Nat) (p : Value) (t : Value) (w : World) : Prop :=
  ∃ F vb off cap T, Since a F w ∧ CA F w p (T.map ent) (1 + (r : Int)) 0 0 ∧ t = .slice (some ⟨vb, off, none⟩) T.length cap ∧ RdS w t T ∧ vb < w.heap.size ∧ a.heap.size ≤ vb ∧ ¬ F vb ∧
    1 ≤ T.length ∧ T.length ≤ r + 1 ∧ T.length ≤ cap ∧ cap ≤ 9223372036854775807 ∧ T.Nodup ∧ ∀ x ∈ T, x.size ≤ 60 ∧ x ≠ ⟨#[110, 101, 119]⟩

theorem rep_ne_new : ∀ n, n ≤ 60 → rep kk n ≠ ⟨#[110, 101, 119]⟩ := by decide +kernel

theorem there_end {a w : World} {F : Nat → Prop} {r n d vb off cap : Nat} {p : Value} (s : Since a F w) (c : CA F w p (trim (1 + (r : Int)).toNat (entsN (n + 1))) (1 + (r : Int)) 0 0)
    (h1 : w.ownsRow 0 9 1 (.slice (some ⟨vb, off, none⟩) (n + 1) cap) (n + 1) ((keysN (n + 1)).map Value.string)) (hv : a.heap.size ≤ vb ∧ ¬ F vb) (hd : d = n - r) (hn : n < 60)
    (hc1 : n + 1 ≤ cap) (hc2 : cap ≤ 9223372036854775807) : ThereRel a r p (.slice (some ⟨vb, off + d, none⟩) (n + 1 - d) (cap - d)) w := by
  have hlen : ((keysN (n + 1)).drop d).length = n + 1 - d := by simp [keysN_length]
  have htr : trim (1 + (r : Int)).toNat (entsN (n + 1)) = ((keysN (n + 1)).drop d).map ent := by
    unfold trim entsN ent
    rw [List.map_drop, List.length_map, keysN_length]
    congr 1
    omega
  rw [htr] at c
  have hrd : RdS w (.slice (some ⟨vb, off, none⟩) (keysN (n + 1)).length cap) (keysN (n + 1)) := by
    have := Rd.of_own h1
    unfold RdS
    rw [keysN_length]
    exact this
  have hsub := rds_sub hrd (lo := d) (hi := n + 1) (by omega) (by rw [keysN_length]; omega)
  rw [List.take_of_length_le (by rw [hlen]; omega)] at hsub
  refine ⟨F, vb, off + d, cap - d, (keysN (n + 1)).drop d, s, c, by rw [hlen], hsub, (h1.lt vb rfl).2, hv.1, hv.2, by rw [hlen]; omega, by rw [hlen]; omega, by rw [hlen]; omega, by omega, ?_, ?_⟩
  · refine List.Nodup.sublist (List.drop_sublist _ _) ?_
    unfold keysN
    rw [List.nodup_iff_pairwise_ne, List.pairwise_map]
    refine List.Pairwise.imp ?_ (List.nodup_iff_pairwise_ne.1 (List.nodup_range (n := n + 1)))
    intro x y hxy e
    have := congrArg ByteArray.size e
    rw [rep_kk_size, rep_kk_size] at this
    omega
  · intro x hx
    have hx' := List.mem_of_mem_drop hx
    refine ⟨by have := keysN_mem hx'; omega, ?_⟩
    unfold keysN at hx'
    obtain ⟨i, hi, rfl⟩ := List.mem_map.1 hx'
    have := List.mem_range.1 hi
    exact rep_ne_new (i + 1) (by omega)

end Go.Proofs.Ytbmkeapebmlggaa
