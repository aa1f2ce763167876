/-
  Abstract values of terms, bindings, atoms and of slices of them; slices that are collected. No program in sight.
-/
import Derived.Test.YtinbfakpjnnagaaDoorDNAm
import Derived.Test.YtinbfakpjnnagaaDoorDNAtm
set_option linter.unusedVariables false
set_option linter.unusedSimpArgs false
namespace Go.Vs.Ab
open Go.RowKit
variable {P : Program} {X : Mem} {W0 w w' : World} {m : Mm} {nt : Nat} {fr : Fr} {Q : Ex → Fr → Mm → Prop}
def stC (s : ByteArray) : List CV := [.v (.string s)]
def tmC (t : Tm) : List CV := [.v (.bool t.v), .v (.string t.name)]
def bdC (b : Bd) : List CV := [.v (.string b.var), .v (.bool b.t.v), .v (.string b.t.name)]
def atC (a : Atm) : List CV := [.v (.string a.says), .v (.string a.pred), .v (.int .i64 a.n), .v (.bool a.a0.v), .v (.string a.a0.name), .v (.bool a.a1.v), .v (.string a.a1.name), .v (.bool a.a2.v), .v (.string a.a2.name), .v (.bool a.a3.v), .v (.string a.a3.name)]
def tmA (t : Tm) : AV := .agg (tmC t)
def bdA (b : Bd) : AV := .agg (bdC b)
def atA (a : Atm) : AV := .agg (atC a)
abbrev slS (ex : Bool) (l : List ByteArray) : AV := slR stC ex l
abbrev slT (ex : Bool) (l : List Atm) : AV := slR atC ex l
def colA {T : Type} (enc : T → List CV) (k : Nat) : List T → AV
  | [] => .c (.sl true 0 [])
  | x :: l => .own k (l.length + 1) ((x :: l).flatMap enc)
def colH {T : Type} (e : TypeId) (size : Nat) : List T → List Hw
  | [] => []
  | _ :: l => [⟨l.length + 1, e, size⟩]
theorem colA_ne {T : Type} (enc : T → List CV) (k : Nat) {l : List T} (h : l ≠ []) : colA enc k l = .own k l.length (l.flatMap enc) := by
  cases l with
  | nil => exact absurd rfl h
  | cons => rfl
theorem colH_ne {T : Type} (e : TypeId) (size : Nat) {l : List T} (h : l ≠ []) : colH e size l = [⟨l.length, e, size⟩] := by
  cases l with
  | nil => exact absurd rfl h
  | cons => rfl
theorem app_col {T : Type} (enc : T → List CV) {t e : TypeId} {size bytes : Nat} (hk : ∀ x, (enc x).length = size) (ht : P.underlying t = some (.slice e)) (hi : info3 P e = some (size, bytes)) {hp : List Blk} {hw : List Hw} {l : List T} {x : T} {ex : Bool}
    (hl : l.length + 1 ≤ maxLen) (hb : (l.length + 1) * bytes ≤ 140737488355328) :
    aAppend P ⟨hp, hw ++ colH e size l⟩ t (colA enc hw.length l) (.c (.sl ex 1 (enc x))) = some (colA enc hw.length (l ++ [x]), ⟨hp, hw ++ colH e size (l ++ [x])⟩) := by
  have hf : ∀ lc, lc = l.length * size → fits l.length 1 size bytes lc (enc x).length = true := fun lc e1 => by
    have h1 : Nat.ble (l.length + 1) maxLen = true := by simpa using hl
    have h2 : Nat.ble ((l.length + 1) * bytes) 140737488355328 = true := by simpa using hb
    simp only [fits, e1, hk, h1, h2, Nat.one_mul, Nat.beq_refl, Bool.and_self]
  have hne : l ++ [x] ≠ [] := by simp
  rw [colA_ne enc hw.length hne, colH_ne e size hne]
  have e2 : (l ++ [x]).length = l.length + 1 := by simp
  have e3 : (l ++ [x]).flatMap enc = l.flatMap enc ++ enc x := by simp
  cases l with
  | nil =>
    have := hf 0 (by simp)
    simp only [List.length_nil] at this
    simp only [aAppend, ht, hi, slV, colA, dst, colH, List.length_nil, this, if_true, List.append_nil, List.nil_append, Nat.zero_add]
    rw [if_neg (by decide)]
    simp
  | cons y l =>
    have := hf (((y :: l).flatMap enc).length) (flat_length enc size hk _)
    simp only [List.length_cons] at this
    have h5 : (hw ++ [(⟨l.length + 1, e, size⟩ : Hw)])[hw.length]? = some ⟨l.length + 1, e, size⟩ := by simp
    simp only [aAppend, ht, hi, slV, colA, dst, colH, h5, Nat.beq_refl, this, Bool.and_self, if_true, e2, e3, List.length_cons]
    rw [if_neg (by decide)]
    simp
theorem app_col0 {T : Type} (enc : T → List CV) {t e : TypeId} {size bytes : Nat} (hk : ∀ x, (enc x).length = size) (ht : P.underlying t = some (.slice e)) (hi : info3 P e = some (size, bytes)) {hp : List Blk} {l : List T} {x : T} {ex : Bool}
    (hl : l.length + 1 ≤ maxLen) (hb : (l.length + 1) * bytes ≤ 140737488355328) :
    aAppend P ⟨hp, colH e size l⟩ t (colA enc 0 l) (.c (.sl ex 1 (enc x))) = some (colA enc 0 (l ++ [x]), ⟨hp, colH e size (l ++ [x])⟩) := by
  have := app_col (P := P) enc hk ht hi (hp := hp) (hw := []) (l := l) (x := x) (ex := ex) hl hb
  simpa using this
def freshA {T : Type} (enc : T → List CV) (e : TypeId) (size : Nat) (l : List T) (m : Mm) : AV × Mm := (colA enc m.hw.length l, { m with hw := m.hw ++ colH e size l })
theorem ret_col {T : Type} (enc : T → List CV) (e : TypeId) (size : Nat) (l : List T) (hp : List Blk) (m : Mm) : retV ⟨hp, colH e size l⟩ m (colA enc 0 l) = some (freshA enc e size l m) := by
  cases l with
  | nil => simp [colA, colH, retV, ret1, shut, freshA]
  | cons x l => simp [colA, colH, retV, ret1, freshA]
theorem shut_col {T : Type} (enc : T → List CV) (k : Nat) (l : List T) : shut (colA enc k l) = some (slR enc (l.isEmpty) l) := by
  cases l <;> rfl
theorem low_col {T : Type} (enc : T → List CV) (e : TypeId) (size : Nat) (l : List T) (i : Nat) : low i (colH e size l).length (colA enc 0 l) = true := by
  cases l <;> rfl
theorem plain1_col {T : Type} (enc : T → List CV) (k : Nat) (l : List T) : plain1 (colA enc k l) = true := by
  cases l <;> rfl
theorem slV_col {T : Type} (enc : T → List CV) (k : Nat) (l : List T) : slV (colA enc k l) = some (l.length, l.flatMap enc) := by
  cases l <;> rfl
theorem lsV_col {T : Type} (enc : T → List CV) (k : Nat) (l : List T) : lsV (colA enc k l) = none := by
  cases l <;> rfl
attribute [go_sem] lsV_col
theorem build1 {t e : TypeId} {s : Nat} {zs : List CV} (ht : P.underlying t = some (.slice e)) (hs : tsz P e = some s) (hz : tzero P e = some zs) (hzl : 0 < zs.length) (h0 : 0 < s) (h24 : s ≤ 16777216) {v : AV} {ds : List CV} (hc : cells v = some ds) (hd : ds.length = s) :
    aBuildSlice P t 1 [(0, v)] = some ds := by
  have h1 : Nat.blt 0 zs.length = true := by simpa using hzl
  have h2 : Nat.ble (1 * s) 16777216 = true := by simpa using h24
  have h3 : Nat.blt 0 (1 * s) = true := by simpa using h0
  have h4 : Nat.beq ds.length s = true := by rw [hd]; exact Nat.beq_refl s
  have h5 : (zeroCells 1 s zs).length = s := by simp [zeroCells]
  have h6 : Nat.ble ds.length (zeroCells 1 s zs).length = true := by rw [h5, hd]; simp
  simp only [aBuildSlice, ht, hs, hz, h1, h2, h3, Bool.and_self, if_true, aFill, hc, h4, h6, splice, Nat.zero_mul, List.take_zero, List.nil_append, Nat.zero_add]
  rw [List.drop_eq_nil_of_le (by rw [h5, hd]; exact Nat.le_refl _), List.append_nil]
theorem bl_blt (a b : ByteArray) : Op.bytesLess a.toList b.toList = blt a b := rfl
theorem slt_blt (a b : ByteArray) : slt a b = blt a b := rfl
def eA (b : Bool) : AV := iA (if b then 0 else 15)
theorem eA_true : eA true = iA 0 := rfl
theorem eA_false : eA false = iA 15 := rfl
attribute [go_sem] tmA bdA atA bl_blt slt_blt shut_col slV_col plain1_col eA_true eA_false
end Go.Vs.Ab
