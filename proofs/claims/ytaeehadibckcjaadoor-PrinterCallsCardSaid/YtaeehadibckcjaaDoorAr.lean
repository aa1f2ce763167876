/-
  More on slices on abstract values: parts, appending slices, copies; division's rest. No program in sight.
-/
import Derived.Test.YtaeehadibckcjaaDoorAp
set_option linter.unusedVariables false
set_option linter.unusedSimpArgs false
namespace Go.Vs.Ab
open Go.RowKit

variable {P : Program}

/-- l[i:j], of a slice of which only reading is known. -/
theorem sl_mid {T : Type} (enc : T → List CV) (k : Nat) (hk : ∀ x, (enc x).length = k) {t e : TypeId} (ht : P.underlying t = some (.slice e)) (he : tsz P e = some k) {l : List T} {i j : Nat} (hij : i ≤ j) (hj : j ≤ l.length) :
    aSlice P t (slR enc false l) (some (i : Int)) (some (j : Int)) none = some (slR enc false ((l.drop i).take (j - i))) := by
  have h1 : Nat.ble (j * k) (l.flatMap enc).length = true := by
    rw [flat_length enc k hk, Nat.ble_eq]
    exact Nat.mul_le_mul_right _ hj
  have h3 : slV (slR enc false l) = some (l.length, l.flatMap enc) := rfl
  have h4 : bnds l.length (some (i : Int)) (some (j : Int)) none = some (i, j, none) := by
    unfold bnds
    simp [natI_nat, hij, hj]
  have h5 : ((l.flatMap enc).drop (i * k)).take ((j - i) * k) = ((l.drop i).take (j - i)).flatMap enc := by
    rw [(flat_cut enc k hk (Nat.le_trans hij hj)).2]
    exact (flat_cut enc k hk (by rw [List.length_drop]; omega)).1
  have h6 : ((l.drop i).take (j - i)).length = j - i := by rw [List.length_take, List.length_drop]; omega
  simp only [aSlice, ht, h3, he, h4, h1, if_true, h5, resl]
  by_cases h0 : Nat.beq i 0 && Nat.beq j l.length
  · rw [if_pos h0]
    simp only [Bool.and_eq_true] at h0
    have e1 := Nat.eq_of_beq_eq_true h0.1
    have e2 := Nat.eq_of_beq_eq_true h0.2
    subst e1
    subst e2
    rw [List.drop_zero, Nat.sub_zero, List.take_length]
  · rw [if_neg h0]
    unfold slR
    rw [h6]
/-- l[:j], of a slice of which only reading is known. -/
theorem sl_upto {T : Type} (enc : T → List CV) (k : Nat) (hk : ∀ x, (enc x).length = k) {t e : TypeId} (ht : P.underlying t = some (.slice e)) (he : tsz P e = some k) {l : List T} {j : Nat} (hj : j ≤ l.length) :
    aSlice P t (slR enc false l) none (some (j : Int)) none = some (slR enc false (l.take j)) := by
  have h1 : Nat.ble (j * k) (l.flatMap enc).length = true := by
    rw [flat_length enc k hk, Nat.ble_eq]
    exact Nat.mul_le_mul_right _ hj
  have h3 : slV (slR enc false l) = some (l.length, l.flatMap enc) := rfl
  have h4 : bnds l.length none (some (j : Int)) none = some (0, j, none) := by
    unfold bnds
    simp [natI_nat, hj]
  have h6 : (l.take j).length = j := by rw [List.length_take]; omega
  simp only [aSlice, ht, h3, he, h4, h1, if_true, resl, Nat.zero_mul, List.drop_zero, Nat.sub_zero, (flat_cut enc k hk hj).1, Nat.beq_refl, Bool.true_and]
  by_cases h0 : Nat.beq j l.length = true
  · rw [if_pos h0]
    have e2 := Nat.eq_of_beq_eq_true h0
    subst e2
    rw [List.take_length]
  · rw [if_neg h0]
    unfold slR
    rw [h6]
/-- To what has been collected a whole slice. -/
theorem app_any {T : Type} (enc : T → List CV) {t e : TypeId} {size bytes : Nat} (hk : ∀ x, (enc x).length = size) (ht : P.underlying t = some (.slice e)) (hi : info3 P e = some (size, bytes)) {hp : List Blk} {l r : List T} {ex : Bool}
    (hl : l.length + r.length ≤ maxLen) (hb : (l.length + r.length) * bytes ≤ 140737488355328) :
    aAppend P ⟨hp, colH e size l⟩ t (colA enc 0 l) (slR enc ex r) = some (colA enc 0 (l ++ r), ⟨hp, colH e size (l ++ r)⟩) := by
  by_cases hne : l = []
  · subst hne
    have hf : fits 0 r.length size bytes 0 (r.flatMap enc).length = true := by
      have h1 : Nat.ble (0 + r.length) maxLen = true := by simpa using hl
      have h2 : Nat.ble ((0 + r.length) * bytes) 140737488355328 = true := by simpa using hb
      simp only [fits, flat_length enc size hk, h1, h2, Nat.beq_refl, Bool.and_self, Nat.zero_mul]
    have hv : slV (slR enc ex r) = some (r.length, r.flatMap enc) := rfl
    have hd : dst (colA enc 0 ([] : List T)) = .exact 0 [] := rfl
    have hn : Nat.beq 0 0 = true := rfl
    rw [List.nil_append]
    show aAppend P ⟨hp, []⟩ t (colA enc 0 []) (slR enc ex r) = _
    simp only [aAppend, ht, hi, hv, hd, List.length_nil, hf, if_true]
    by_cases h0 : r = []
    · subst h0
      rfl
    · have : Nat.beq r.length 0 = false := by
        rw [Bool.eq_false_iff]
        exact fun h => h0 (List.eq_nil_of_length_eq_zero (Nat.eq_of_beq_eq_true h))
      rw [this, colA_ne enc 0 h0, colH_ne e size h0]
      simp
  · exact app_more enc hk ht hi hne hl hb
theorem bin_irem (t : TypeId) (x y : Operand) (a b : Int) (h : b ≠ 0) : pureVal P (do eqGuard .rem t x y (.int .i64 a) (.int .i64 b); binOp .rem t (.int .i64 a) (.int .i64 b)) = some (.int .i64 (a.tmod b)) := by
  show pureVal P (Op.intDiv .rem .i64 a b) = _
  unfold Op.intDiv
  rw [if_neg h]
  rfl
theorem bin_iquo (t : TypeId) (x y : Operand) (a b : Int) (h : b ≠ 0) : pureVal P (do eqGuard .quo t x y (.int .i64 a) (.int .i64 b); binOp .quo t (.int .i64 a) (.int .i64 b)) = some (.int .i64 (IntKind.i64.wrap (a.tdiv b))) := by
  show pureVal P (Op.intDiv .quo .i64 a b) = _
  unfold Op.intDiv
  rw [if_neg h]
  rfl

/-! ### is a slice nil? -/
theorem bin_nil {t e : TypeId} (ht : P.underlying t = some (.slice e)) (a : Option Addr) (n cap : Nat) : pureVal P (binOp .eql t (.slice a n cap) (.slice none 0 0)) = some (.bool a.isNone) := by
  have e1 : binOp .eql t (.slice a n cap) (.slice none 0 0) = (do pure (Value.bool (← Op.equal t (.slice a n cap) (.slice none 0 0)))) := rfl
  rw [e1, pv_bind]
  have h' : pureVal P (Op.equal t (.slice a n cap) (.slice none 0 0)) = some a.isNone := by
    show pureVal P (Op.equalIn (9999 + 1) t (.slice a n cap) (.slice none 0 0)) = some a.isNone
    unfold Op.equalIn
    rw [pv_bind]
    have hu : pureVal P (underlying t) = some (.slice e) := by
      simp only [underlying, program, pureVal, bind, Sem.bind, ht, pure]
    rw [hu]
    cases a <;> rfl
  rw [h']
  rfl
/-- A region that begins with a copy of a slice, as it stands. -/
theorem tr_nil2 {R : MRel} [hR : RelOk R] {nt id s d1 n : Nat} {fr : Fr} {m : Mm} {Q : Ex → Fr → Mm → Prop} {o1 : Oper} {l : List Oper} {ex : Bool} {cs : List CV} (ho1 : o1.op = .move (.tmp s)) (hd1 : o1.dst = some d1) (hg1 : o1.guard = none) (hnt : Nat.blt d1 nt = true)
    (hf : find fr s = some (.c (.sl ex n cs))) (h : ∀ a cap, (a = none → n = 0 ∧ cap = 0) → SeqW P nt (o1 :: l).toArray l ((d1, .c (.v (.slice a n cap))) :: fr) m (Q .nrm)) : Tr R P nt (.region id (o1 :: l).toArray false) fr m Q := fun X W0 w ac F M => by
  obtain ⟨x, hx, hr⟩ := F.slot s _ hf
  cases hr with
  | c hr =>
    cases hr with
    | sl hl hh hn hc he hax =>
      rename_i xs a cap
      have key := h a cap (fun e => by
        have := hc.2 e
        omega)
      refine wp_region ?_
      rw [show List.range (o1 :: l).toArray.size = 0 :: List.range' 1 l.length from by
        rw [List.size_toArray, List.length_cons, List.range_eq_range', List.range'_succ]]
      rw [wpOps_cons]
      unfold wpOp
      simp only [List.getElem?_toArray, List.getElem?_cons_zero]
      rw [if_pos (aWanted_ok F (show aWanted (o1 :: l).toArray fr o1 = some true by unfold aWanted; rw [hg1]))]
      refine Or.inl ?_
      have hv : ac.eval (.tmp s) = .slice a n cap := by
        show ac.tmps.getD s undef = _
        rw [Array.getD_eq_getD_getElem?, hx]
        rfl
      have g2 : (execOp ac.eval o1).run P w = .ok (.value (.slice a n cap)) w := by
        obtain ⟨dst, op, type, pos, after, guard⟩ := o1
        simp only at ho1
        subst ho1
        show (Sem.pure (Next.value (ac.eval (.tmp s)))).run P w = _
        rw [hv]
        rfl
      unfold Oper.wp
      rw [g2]
      have F1 : FR X nt ((d1, .c (.v (.slice a n cap))) :: fr) (ac.put (some d1) (.slice a n cap)) := F.put (by simpa using hnt) (.c (.v rfl))
      show wpOps P (o1 :: l).toArray _ (List.range' 1 l.length) (ac.put o1.dst (.slice a n cap)) w
      rw [hd1]
      refine seqW_wp l 1 (fun j => by simp [Nat.add_comm 1 j]) F1 M key ?_
      exact fun fr' m' a' w' X' k0 k1 k2 k3 => ⟨.nrm, fr', m', X', rfl, k0, hR.of k1, k2, k3⟩
end Go.Vs.Ab
