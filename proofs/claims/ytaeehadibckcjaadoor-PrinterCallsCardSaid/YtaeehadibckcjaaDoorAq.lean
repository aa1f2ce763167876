/-
  Arguments of plain data, opened as abstract values, slices in slices too. No program in sight.
-/
import Derived.Test.YtaeehadibckcjaaDoorAp
import Derived.Test.YtaeehadibckcjaaDoorOpen
set_option linter.unusedVariables false
set_option linter.unusedSimpArgs false
namespace Go.Vs.Ab
open Go.RowKit Go.Maps Go.ChangeShapes Go.WideShapes Go.Deep

theorem Reps.nil {X : Mem} : Reps X [] [] := ⟨rfl, fun i c x h => by simp at h⟩
theorem Reps.cons {X : Mem} {c : AV} {v : Value} {cs : List AV} {vs : List Value} (h : Rep X c v) (k : Reps X cs vs) : Reps X (c :: cs) (v :: vs) :=
  ⟨by simp [k.1], fun i d x h1 h2 => by
    cases i with
    | zero => simp at h1 h2; subst h1 h2; exact h
    | succ i => exact k.2 i d x (by simpa using h1) (by simpa using h2)⟩
theorem RepCs.nil {C : Nat → Nat → Option Value} : RepCs C [] [] := ⟨rfl, fun i c x h => by simp at h⟩
theorem RepCs.cons {C : Nat → Nat → Option Value} {c : CV} {v : Value} {cs : List CV} {vs : List Value} (h : RepC C c v) (k : RepCs C cs vs) : RepCs C (c :: cs) (v :: vs) :=
  ⟨by simp [k.1], fun i d x h1 h2 => by
    cases i with
    | zero => simp at h1 h2; subst h1 h2; exact h
    | succ i => exact k.2 i d x (by simpa using h1) (by simpa using h2)⟩
theorem RepCs.append {C : Nat → Nat → Option Value} {a b : List CV} {x y : List Value} (h : RepCs C a x) (k : RepCs C b y) : RepCs C (a ++ b) (x ++ y) := repcs_append h k

/-- What cells of a shape are, as a record. -/
def Dec {T : Type} (d : Nat) (w : World) (ks : List Sh) (enc : T → List CV) (good : T → Prop) : Prop := ∀ cs, all2 (okc d w) ks cs → ∃ x, RepCs (all w).cell (enc x) cs ∧ good x

theorem dec_str {d : Nat} {w : World} {v : Value} (h : okc d w .str v) : ∃ s : ByteArray, RepC (all w).cell (.v (.string s)) v ∧ s.size ≤ maxLen := by
  cases d with
  | zero => exact h.elim
  | succ d => obtain ⟨s, rfl, hs⟩ := h; exact ⟨s, .v rfl, hs⟩
theorem dec_int {d : Nat} {w : World} {v : Value} (h : okc d w .int v) : ∃ n : Int, RepC (all w).cell (.v (.int .i64 n)) v ∧ (Lit.int .i64 n).wf = true := by
  cases d with
  | zero => exact h.elim
  | succ d => obtain ⟨s, rfl, hs⟩ := h; exact ⟨s, .v rfl, hs⟩
theorem dec_bool {d : Nat} {w : World} {v : Value} (h : okc d w .bool v) : ∃ b : Bool, RepC (all w).cell (.v (.bool b)) v := by
  cases d with
  | zero => exact h.elim
  | succ d => obtain ⟨s, rfl⟩ := h; exact ⟨s, .v rfl⟩

theorem rowsC_of {T : Type} {C : Nat → Nat → Option Value} (enc : T → List CV) (good : T → Prop) (k : Nat) : ∀ (n : Nat) (cs : List Value), cs.length = n * k →
    (∀ i, i < n → ∃ x, RepCs C (enc x) ((cs.drop (i * k)).take k) ∧ good x) → ∃ xs : List T, xs.length = n ∧ RepCs C (xs.flatMap enc) cs ∧ ∀ x ∈ xs, good x
  | 0, cs, hl, _ => by
    have : cs = [] := by simpa using hl
    subst this
    exact ⟨[], rfl, RepCs.nil, by simp⟩
  | n + 1, cs, hl, h => by
    obtain ⟨x, hx, hg⟩ := h 0 (by omega)
    rw [Nat.zero_mul, List.drop_zero] at hx
    obtain ⟨xs, h1, h2, h3⟩ := rowsC_of enc good k n (cs.drop k) (by rw [List.length_drop, hl, Nat.add_mul]; omega) (fun i hi => by
      obtain ⟨y, hy, hgy⟩ := h (i + 1) (by omega)
      refine ⟨y, ?_, hgy⟩
      rw [List.drop_drop]
      rwa [Nat.add_mul, Nat.one_mul, Nat.add_comm] at hy)
    refine ⟨x :: xs, by simp [h1], ?_, ?_⟩
    · rw [List.flatMap_cons]
      have := hx.append h2
      rwa [List.take_append_drop] at this
    · intro y hy
      rcases List.mem_cons.1 hy with rfl | hy
      · exact hg
      · exact h3 y hy

theorem dec_sl {T : Type} {d : Nat} {w : World} {es : List Sh} {enc : T → List CV} {good : T → Prop} (hdec : Dec d w es enc good) {v : Value} (h : okc (d + 1) w (.sl es) v) :
    ∃ l : List T, RepC (all w).cell (.sl false l.length (l.flatMap enc)) v ∧ ∀ x ∈ l, good x := by
  obtain ⟨n, cs, h1, h2⟩ := h
  obtain ⟨l, h3, h4, h5⟩ := rowsC_of (C := (all w).cell) enc good es.length n cs h1.1 (fun i hi => hdec _ (h2 i hi))
  refine ⟨l, ?_, h5⟩
  rcases h1.2 with ⟨rfl, h0⟩ | ⟨a, cap, rfl, g3, g4, g5⟩
  · have : l = [] := List.eq_nil_of_length_eq_zero (by omega)
    subst this
    exact .sl (xs := []) rfl (fun i c x h => by simp at h) (Nat.le_refl _) ⟨Nat.zero_le _, fun _ => rfl⟩ (fun e => by cases e) (fun j x hx => by simp at hx)
  · rw [h3]
    refine .sl (xs := cs) h4.1 h4.2 g3 ⟨g4, fun e => by cases e⟩ (fun e => by cases e) (fun j x hx => ?_)
    have h6 := g5 j x hx
    have hl := (List.getElem?_eq_some_iff.1 hx).1
    have h7 := g5 0 (cs[0]'(by omega)) (by simp)
    have hsp := spot_of_add h7
    obtain ⟨g, off, sp⟩ := a
    simp only at hsp
    subst hsp
    rw [add_none] at h6
    exact ⟨g, off, rfl, h6⟩

section
variable {H : Type} {enc : TypeId × Value → H} {P : Program} {w : World} {base b0 : Nat} {spare : Nat → Bool} {held : Bool} {r : Reach} {d : Nat} {t : TypeId} {v : Value} {x : DataW H} {ps : List MemPlace}

theorem open_sl {T : Type} {encT : T → List CV} {good : T → Prop} {e : TypeId} {es : List Sh} (ht : P.underlying t = some (.slice e)) (hs : shapeOf P (d + 1) t = some [.sl es]) (hdec : Dec d w es encT good) (hval : Value.okWide P w r b0 t v) (hd : DataW.Trod enc P w base spare held t v x ps) :
    ∃ l : List T, Rep (all w) (slR encT false l) v ∧ ∀ x ∈ l, good x := by
  obtain ⟨l, h1, h2⟩ := dec_sl hdec (arg_slice ht hs hval hd)
  exact ⟨l, .c h1, h2⟩
theorem open_agg {T : Type} {encT : T → List CV} {good : T → Prop} {fs : Array Field} {ks : List Sh} (ht : P.underlying t = some (.struct fs)) (hs : shapeOf P d t = some ks) (hdec : Dec d w ks encT good) (hval : Value.okWide P w r b0 t v) (hd : DataW.Trod enc P w base spare held t v x ps) :
    ∃ a : T, Rep (all w) (.agg (encT a)) v ∧ good a := by
  obtain ⟨cs, rfl, h⟩ := arg_struct ht hs hval hd
  obtain ⟨a, h1, h2⟩ := hdec cs h
  exact ⟨a, .agg h1, h2⟩
theorem open_str (ht : P.underlying t = some .string) (hval : Value.okWide P w r b0 t v) (hd : DataW.Trod enc P w base spare held t v x ps) : ∃ s : ByteArray, Rep (all w) (sA s) v ∧ s.size ≤ maxLen := by
  obtain ⟨s, rfl, hs⟩ := arg_string ht hval hd
  exact ⟨s, .c (.v rfl), hs⟩
theorem open_i64 (ht : P.underlying t = some (.int .i64)) (hval : Value.okWide P w r b0 t v) (hd : DataW.Trod enc P w base spare held t v x ps) : ∃ n : Int, Rep (all w) (iA n) v ∧ (Lit.int .i64 n).wf = true := by
  obtain ⟨n, rfl, _, _, hw⟩ := open_int ht hval hd
  exact ⟨n, .c (.v rfl), hw⟩
end

def AtOk (a : Atm) : Prop := a.says.size ≤ maxLen ∧ a.pred.size ≤ maxLen ∧ (Lit.int .i64 a.n).wf = true ∧ a.a0.name.size ≤ maxLen ∧ a.a1.name.size ≤ maxLen ∧ a.a2.name.size ≤ maxLen ∧ a.a3.name.size ≤ maxLen
theorem stD {d : Nat} {w : World} : Dec d w [.str] stC (fun s => s.size ≤ maxLen) := fun cs t0 => by
  obtain ⟨c0, r0, rfl, h0, t1⟩ := all2_cons t0
  obtain rfl := all2_nil t1
  obtain ⟨x0, e0, g0⟩ := dec_str h0
  exact ⟨x0, .cons e0 .nil, g0⟩
theorem tmD {d : Nat} {w : World} : Dec d w [.bool, .str] tmC (fun t => t.name.size ≤ maxLen) := fun cs t0 => by
  obtain ⟨c0, r0, rfl, h0, t1⟩ := all2_cons t0
  obtain ⟨c1, r1, rfl, h1, t2⟩ := all2_cons t1
  obtain rfl := all2_nil t2
  obtain ⟨x0, e0⟩ := dec_bool h0
  obtain ⟨x1, e1, g1⟩ := dec_str h1
  exact ⟨⟨x0, x1⟩, .cons e0 (.cons e1 .nil), g1⟩
theorem bdD {d : Nat} {w : World} : Dec d w [.str, .bool, .str] bdC (fun b => b.var.size ≤ maxLen ∧ b.t.name.size ≤ maxLen) := fun cs t0 => by
  obtain ⟨c0, r0, rfl, h0, t1⟩ := all2_cons t0
  obtain ⟨c1, r1, rfl, h1, t2⟩ := all2_cons t1
  obtain ⟨c2, r2, rfl, h2, t3⟩ := all2_cons t2
  obtain rfl := all2_nil t3
  obtain ⟨x0, e0, g0⟩ := dec_str h0
  obtain ⟨x1, e1⟩ := dec_bool h1
  obtain ⟨x2, e2, g2⟩ := dec_str h2
  exact ⟨⟨x0, ⟨x1, x2⟩⟩, .cons e0 (.cons e1 (.cons e2 .nil)), g0, g2⟩
theorem atD {d : Nat} {w : World} : Dec d w [.str, .str, .int, .bool, .str, .bool, .str, .bool, .str, .bool, .str] atC AtOk := fun cs t0 => by
  obtain ⟨c0, r0, rfl, h0, t1⟩ := all2_cons t0
  obtain ⟨c1, r1, rfl, h1, t2⟩ := all2_cons t1
  obtain ⟨c2, r2, rfl, h2, t3⟩ := all2_cons t2
  obtain ⟨c3, r3, rfl, h3, t4⟩ := all2_cons t3
  obtain ⟨c4, r4, rfl, h4, t5⟩ := all2_cons t4
  obtain ⟨c5, r5, rfl, h5, t6⟩ := all2_cons t5
  obtain ⟨c6, r6, rfl, h6, t7⟩ := all2_cons t6
  obtain ⟨c7, r7, rfl, h7, t8⟩ := all2_cons t7
  obtain ⟨c8, r8, rfl, h8, t9⟩ := all2_cons t8
  obtain ⟨c9, r9, rfl, h9, t10⟩ := all2_cons t9
  obtain ⟨c10, r10, rfl, h10, t11⟩ := all2_cons t10
  obtain rfl := all2_nil t11
  obtain ⟨x0, e0, g0⟩ := dec_str h0
  obtain ⟨x1, e1, g1⟩ := dec_str h1
  obtain ⟨x2, e2, g2⟩ := dec_int h2
  obtain ⟨x3, e3⟩ := dec_bool h3
  obtain ⟨x4, e4, g4⟩ := dec_str h4
  obtain ⟨x5, e5⟩ := dec_bool h5
  obtain ⟨x6, e6, g6⟩ := dec_str h6
  obtain ⟨x7, e7⟩ := dec_bool h7
  obtain ⟨x8, e8, g8⟩ := dec_str h8
  obtain ⟨x9, e9⟩ := dec_bool h9
  obtain ⟨x10, e10, g10⟩ := dec_str h10
  exact ⟨⟨x0, x1, x2, ⟨x3, x4⟩, ⟨x5, x6⟩, ⟨x7, x8⟩, ⟨x9, x10⟩⟩, .cons e0 (.cons e1 (.cons e2 (.cons e3 (.cons e4 (.cons e5 (.cons e6 (.cons e7 (.cons e8 (.cons e9 (.cons e10 .nil)))))))))), g0, g1, g2, g4, g6, g8, g10⟩
end Go.Vs.Ab
