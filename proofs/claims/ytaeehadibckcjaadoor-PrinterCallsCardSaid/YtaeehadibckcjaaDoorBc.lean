/-
  Maps on abstract values: keys that are strings, keys that are compared as a whole. No program in sight.
-/
import Derived.Test.YtaeehadibckcjaaDoorAr
import Derived.Test.YtaeehadibckcjaaDoorBb
set_option linter.unusedVariables false
set_option linter.unusedSimpArgs false
namespace Go.Vs.Ab
open Go.RowKit

variable {P : Program}

theorem pv_und {t : TypeId} {d : TypeDesc} (h : P.underlying t = some d) : pureVal P (underlying t) = some d := by
  simp only [underlying, program, pureVal, bind, Sem.bind, h, pure]

theorem so_add {a b : ByteArray} (h : a.size + b.size ≤ 9223372036854775807) : pureVal P (Op.stringOp .add a b) = some (.string (a ++ b)) := by
  have : ¬ (((a.size + b.size : Nat) : Int) > IntKind.i64.max) := by
    have : IntKind.i64.max = 9223372036854775807 := rfl
    omega
  simp only [Op.stringOp, this, if_false]
  rfl
/-- Where the first entry of a key stands. -/
def findE {T : Type} [DecidableEq T] : List (T × Value) → T → Nat → Option (Nat × Value)
  | [], _, _ => none
  | e :: r, s, i => if e.1 = s then some (i, e.2) else findE r s (i + 1)
def encE {T : Type} (enc : T → Value) (es : List (T × Value)) : List (Value × Value) := es.map fun p => (enc p.1, p.2)

/-- The place of the first one. -/
def posOf {T : Type} [DecidableEq T] : List T → T → Nat
  | [], _ => 0
  | y :: r, x => if y = x then 0 else posOf r x + 1
theorem posOf_lt {T : Type} [DecidableEq T] {x : T} : ∀ {l : List T}, x ∈ l → posOf l x < l.length
  | [], h => by simp at h
  | y :: r, h => by
    unfold posOf
    by_cases e : y = x
    · rw [if_pos e]; simp
    · rw [if_neg e]
      have : x ∈ r := by
        rcases List.mem_cons.1 h with h | h
        · exact absurd h.symm e
        · exact h
      have := posOf_lt this
      simp only [List.length_cons]
      omega
theorem posOf_get {T : Type} [DecidableEq T] {x : T} : ∀ {l : List T}, x ∈ l → l[posOf l x]? = some x
  | [], h => by simp at h
  | y :: r, h => by
    unfold posOf
    by_cases e : y = x
    · rw [if_pos e]; simp [e]
    · rw [if_neg e]
      have : x ∈ r := by
        rcases List.mem_cons.1 h with h | h
        · exact absurd h.symm e
        · exact h
      simpa using posOf_get this
theorem posOf_append {T : Type} [DecidableEq T] {x : T} : ∀ {l r : List T}, x ∈ l → posOf (l ++ r) x = posOf l x
  | [], r, h => by simp at h
  | y :: l, r, h => by
    show posOf (y :: (l ++ r)) x = _
    unfold posOf
    by_cases e : y = x
    · rw [if_pos e, if_pos e]
    · rw [if_neg e, if_neg e]
      have : x ∈ l := by
        rcases List.mem_cons.1 h with h | h
        · exact absurd h.symm e
        · exact h
      rw [posOf_append this]
theorem posOf_new {T : Type} [DecidableEq T] {x : T} : ∀ {l : List T}, x ∉ l → posOf (l ++ [x]) x = l.length
  | [], h => by simp [posOf]
  | y :: l, h => by
    simp only [List.mem_cons, not_or] at h
    show posOf (y :: (l ++ [x])) x = _
    unfold posOf
    rw [if_neg (fun e => h.1 e.symm), posOf_new h.2]
    rfl
theorem ba_beq (a b : ByteArray) : (a == b) = decide (a = b) := by
  cases a with | mk x => cases b with | mk y =>
    show (x == y) = _
    rw [Bool.eq_iff_iff]
    simp

theorem checkKey_str {kt : TypeId} (ht : P.underlying kt = some .string) (em : Bool) (s : ByteArray) : pureVal P (Instr.checkKey em 10000 kt (.string s)) = some () := by
  show pureVal P (Instr.checkKey em (9999 + 1) kt (.string s)) = some ()
  unfold Instr.checkKey
  rw [pv_bind, pv_und ht]
  rfl
theorem findNow_str (s : ByteArray) : ∀ (es : List (ByteArray × Value)) (i : Nat), Instr.findNow .string (.string s) (ents (encE .string es)) i = some (findE es s i)
  | [], i => rfl
  | e :: r, i => by
    show Instr.findNow .string (.string s) (⟨.string e.1, e.2, 0⟩ :: ents (encE .string r)) i = _
    unfold Instr.findNow findE
    simp only [Instr.sameNow]
    by_cases h : e.1 = s
    · have h1 : (s == e.1) = true := by rw [ba_beq, decide_eq_true h.symm]
      rw [h1, if_pos h]
    · have h1 : (s == e.1) = false := by rw [ba_beq, decide_eq_false (fun e => h e.symm)]
      rw [h1, if_neg h]
      exact findNow_str s r (i + 1)
theorem mLook_str {kt : TypeId} (ht : P.underlying kt = some .string) (es : List (ByteArray × Value)) (s : ByteArray) (em : Bool) : mLook P kt (encE .string es) (.string s) em = some (findE es s 0) := by
  unfold mLook
  rw [checkKey_str ht]
  unfold Instr.findKey
  rw [pv_bind, pv_und ht, Option.bind_some]
  simp only [findNow_str]
  rfl

/-- Keys that are compared as a whole. -/
theorem findAsking_enc {T : Type} [DecidableEq T] {enc : T → Value} {kt : TypeId} (he : ∀ a b, pureVal P (Op.equal kt (enc a) (enc b)) = some (decide (a = b))) (x : T) : ∀ (es : List (T × Value)) (i : Nat), pureVal P (Instr.findAsking kt (enc x) (ents (encE enc es)) i) = some (findE es x i)
  | [], i => rfl
  | e :: r, i => by
    show pureVal P (Instr.findAsking kt (enc x) (⟨enc e.1, e.2, 0⟩ :: ents (encE enc r)) i) = _
    unfold Instr.findAsking findE
    rw [pv_bind, he, Option.bind_some]
    by_cases h : e.1 = x
    · rw [if_pos h, decide_eq_true h.symm]
      rfl
    · rw [if_neg h, decide_eq_false (fun e => h e.symm)]
      exact findAsking_enc he x r (i + 1)
theorem mLook_enc {T : Type} [DecidableEq T] {enc : T → Value} {kt : TypeId} {d : TypeDesc} (ht : P.underlying kt = some d) (hd : ∀ a b, Instr.sameNow d (enc a) (enc b) = none) (hc : ∀ em a, pureVal P (Instr.checkKey em 10000 kt (enc a)) = some ())
    (he : ∀ a b, pureVal P (Op.equal kt (enc a) (enc b)) = some (decide (a = b))) (es : List (T × Value)) (x : T) (em : Bool) : mLook P kt (encE enc es) (enc x) em = some (findE es x 0) := by
  unfold mLook
  rw [hc]
  unfold Instr.findKey
  rw [pv_bind, pv_und ht, Option.bind_some]
  cases es with
  | nil => rfl
  | cons e r =>
    have : Instr.findNow d (enc x) (ents (encE enc (e :: r))) 0 = none := by
      show Instr.findNow d (enc x) (⟨enc e.1, e.2, 0⟩ :: ents (encE enc r)) 0 = _
      unfold Instr.findNow
      simp only [hd]
    rw [this]
    exact findAsking_enc he x (e :: r) 0

theorem findE_none {T : Type} [DecidableEq T] {x : T} : ∀ {es : List (T × Value)} {i : Nat}, x ∉ es.map (·.1) → findE es x i = none
  | [], _, _ => rfl
  | e :: r, i, h => by
    simp only [List.map_cons, List.mem_cons, not_or] at h
    unfold findE
    rw [if_neg (fun e => h.1 e.symm)]
    exact findE_none h.2
theorem findE_some {T : Type} [DecidableEq T] {x : T} : ∀ {es : List (T × Value)} {i : Nat}, x ∈ es.map (·.1) → ∃ k v, k < es.length ∧ es[k]? = some (x, v) ∧ k = posOf (es.map (·.1)) x ∧ findE es x i = some (i + k, v)
  | [], _, h => by simp at h
  | e :: r, i, h => by
    unfold findE
    by_cases h1 : e.1 = x
    · rw [if_pos h1]
      refine ⟨0, e.2, by simp, by simp [← h1], ?_, rfl⟩
      rw [List.map_cons]; unfold posOf; rw [if_pos h1]
    · rw [if_neg h1]
      have h2 : x ∈ r.map (·.1) := by
        simp only [List.map_cons, List.mem_cons] at h
        rcases h with h | h
        · exact absurd h.symm h1
        · exact h
      obtain ⟨k, v, g1, g2, g3, g4⟩ := findE_some (i := i + 1) h2
      refine ⟨k + 1, v, by simp; omega, by simpa using g2, ?_, by rw [g4]; congr 2; omega⟩
      rw [List.map_cons]; unfold posOf; rw [if_neg h1, g3]

theorem encE_append {T : Type} (enc : T → Value) (a b : List (T × Value)) : encE enc (a ++ b) = encE enc a ++ encE enc b := by simp [encE]
theorem encE_len {T : Type} (enc : T → Value) (a : List (T × Value)) : (encE enc a).length = a.length := by simp [encE]

/-- Names with their places. -/
def nmEs (V : List ByteArray) : List (Value × Value) := encE .string (V.zipIdx.map fun p => (p.1, .int .i64 (p.2 : Nat)))
theorem nmEs_keys (V : List ByteArray) : (V.zipIdx.map fun p => (p.1, Value.int .i64 (p.2 : Nat))).map (·.1) = V := by
  rw [List.map_map]
  show V.zipIdx.map (fun p => p.1) = V
  exact List.zipIdx_map_fst ..
theorem nmEs_len (V : List ByteArray) : (nmEs V).length = V.length := by simp [nmEs, encE]
theorem nmEs_nil : nmEs [] = [] := rfl
theorem nm_none {kt : TypeId} (ht : P.underlying kt = some .string) {V : List ByteArray} {s : ByteArray} (h : s ∉ V) (em : Bool) : mLook P kt (nmEs V) (.string s) em = some none := by
  unfold nmEs
  rw [mLook_str ht, findE_none (by rw [nmEs_keys]; exact h)]
theorem nm_some {kt : TypeId} (ht : P.underlying kt = some .string) {V : List ByteArray} {s : ByteArray} (h : s ∈ V) (em : Bool) : mLook P kt (nmEs V) (.string s) em = some (some (posOf V s, .int .i64 (posOf V s : Nat))) := by
  unfold nmEs
  rw [mLook_str ht]
  obtain ⟨k, v, h1, h2, h3, h4⟩ := findE_some (es := V.zipIdx.map fun p => (p.1, Value.int .i64 (p.2 : Nat))) (i := 0) (x := s) (by rw [nmEs_keys]; exact h)
  rw [nmEs_keys] at h3
  rw [h4, Nat.zero_add, ← h3]
  rw [List.getElem?_map, Option.map_eq_some_iff] at h2
  obtain ⟨p, h5, h6⟩ := h2
  have h7 := List.getElem?_eq_some_iff.1 h5
  obtain ⟨hk, h8⟩ := h7
  rw [List.getElem_zipIdx] at h8
  subst h8
  simp only [Nat.zero_add, Prod.mk.injEq] at h6
  rw [← h6.2]
theorem nm_put {kt : TypeId} (ht : P.underlying kt = some .string) {V : List ByteArray} {s : ByteArray} (h : s ∉ V) : mPut P kt (nmEs V) (.string s) (.int .i64 (V.length : Nat)) = some (nmEs (V ++ [s])) := by
  unfold mPut
  rw [nm_none ht h]
  simp [nmEs, encE, List.zipIdx_append]

/-- A set of what is compared as a whole. -/
def setEs {T : Type} (enc : T → Value) (u : Value) (l : List T) : List (Value × Value) := encE enc (l.map fun x => (x, u))
theorem setEs_keys {T : Type} (u : Value) (l : List T) : (l.map fun x => (x, u)).map (·.1) = l := by
  rw [List.map_map]
  exact List.map_id l
end Go.Vs.Ab
