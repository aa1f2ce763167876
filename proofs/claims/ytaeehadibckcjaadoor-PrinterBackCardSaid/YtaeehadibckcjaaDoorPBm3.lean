/-
  For every input the statement PrinterBack returns true, and leaves its arguments as they were.
-/
import Derived.Test.YtaeehadibckcjaaDoorPBm2
import Derived.Test.YtaeehadibckcjaaDoorPBOpen
import Derived.SizedLaws
import Derived.Test.YtaeehadibckcjaaDoorRows
import Derived.LaidSub
import Derived.MakeChecks
import Derived.Test.YtaeehadibckcjaaDoorPBLaw
import Derived.Test.YtaeehadibckcjaaDoorCards
import Derived.Test.YtaeehadibckcjaaDoorTie
import Derived.ProofKit
import Derived.LaidMore
import Derived.LaidHandle
import Derived.OpenShut
import Derived.Stop.Joined
import Derived.SevenTiedAt
set_option linter.unusedSimpArgs false
set_option linter.unusedVariables false
namespace Go.Vs
open Go.Vs.Ab
variable {L : List Tk} {n : Int} {r : Rs} {t : ByteArray} {ts rest : List ByteArray}
def Rem (L : List Tk) (r : Rs) (ts : List ByteArray) : Prop := r.e = 0 ∧ (L.drop r.i).map Tk.text = ts
theorem Rem.get (h : Rem L r (t :: ts)) : ∃ k, L[r.i]? = some k ∧ k.text = t ∧ r.i < L.length := by
  obtain ⟨_, h⟩ := h
  rcases Nat.lt_or_ge r.i L.length with hl | hl
  · rw [List.drop_eq_getElem_cons hl, List.map_cons] at h
    injection h with h1 _
    exact ⟨_, List.getElem?_eq_getElem hl, h1, hl⟩
  · rw [List.drop_eq_nil_of_le hl] at h
    cases h
theorem Rem.adv (h : Rem L r (t :: ts)) : Rem L r.adv ts := by
  obtain ⟨k, h1, h2, hl⟩ := h.get
  obtain ⟨he, h⟩ := h
  refine ⟨he, ?_⟩
  rw [List.drop_eq_getElem_cons hl, List.map_cons] at h
  injection h with _ h
theorem Rem.is (h : Rem L r (t :: ts)) (s : ByteArray) : isT L r s = decide (t = s) := by
  obtain ⟨k, h1, h2, hl⟩ := h.get
  unfold isT
  rw [h1, decide_eq_true h.1]
  dsimp only
  rw [h2, Bool.true_and]
theorem Rem.is0 (h : Rem L r []) (s : ByteArray) : isT L r s = false := by
  have hl : L.length ≤ r.i := by
    have := List.map_eq_nil_iff.1 h.2
    exact List.drop_eq_nil_iff.1 this
  unfold isT
  rw [List.getElem?_eq_none hl, Bool.and_false]
theorem Rem.not (h : Rem L r ts) {s : ByteArray} (hs : ∀ x q, ts = x :: q → x ≠ s) : isT L r s = false := by
  cases ts with
  | nil => exact h.is0 s
  | cons x q =>
    rw [h.is s]
    exact decide_eq_false (hs x q rfl)
theorem Rem.must (h : Rem L r (t :: ts)) : Rem L (mustT L n r t) ts := by
  unfold mustT
  rw [h.is t, decide_eq_true rfl, if_pos rfl]
  exact h.adv
theorem Rem.next {sort : Int} (h : Rem L r (t :: ts)) (hm : mayT sort t = true) : nextS L r sort = t ∧ Rem L (nextR L n r sort) ts := by
  obtain ⟨k, h1, h2, hl⟩ := h.get
  have ho : nextOk L r sort = true := by
    unfold nextOk
    rw [h1, decide_eq_true h.1]
    dsimp only
    rw [h2, hm]
    rfl
  refine ⟨?_, ?_⟩
  · unfold nextS
    rw [ho, if_pos rfl, h1]
    exact h2
  · unfold nextR
    rw [ho, if_pos rfl]
    exact h.adv
theorem Rem.len (h : Rem L r ts) : ts.length ≤ L.length - r.i := by
  rw [← h.2, List.length_map, List.length_drop]
  exact Nat.le_refl _
/-! ### terms -/
def sepT : List Tm → List ByteArray
  | [] => []
  | [t] => [t.name]
  | t :: u :: r => t.name :: kCom :: sepT (u :: r)
theorem const_novar {s : ByteArray} (h : pconstant s = true) : pvariable s = false := by
  rw [Bool.eq_false_iff]
  intro hv
  unfold pconstant at h
  unfold pvariable at hv
  simp only [Bool.and_eq_true] at h hv
  have h1 := pconstant_head h.1
  obtain ⟨c, q, hl, hn, hp⟩ := lts_cons (headB_pos hv.1.2)
  have h2 := hv.1.2
  rw [hp] at h1 h2
  have e1 := (lower_low h1).1
  have e2 := (upper_up h2).1
  rw [e1] at e2
  exact absurd e2 (by decide)
theorem term_eq {u : Tm} (h : ptermok u = true) : (⟨pvariable u.name, u.name⟩ : Tm) = u ∧ mayT 2 u.name = true := by
  obtain ⟨v, s⟩ := u
  unfold ptermok at h
  cases v with
  | true =>
    have h : pvariable s = true := h
    refine ⟨by rw [h], ?_⟩
    show (pconstant s || pvariable s) = true
    rw [h, Bool.or_true]
  | false =>
    have h : pconstant s = true := h
    refine ⟨by rw [const_novar h], ?_⟩
    show (pconstant s || pvariable s) = true
    rw [h, Bool.true_or]
theorem saidL_law : ∀ (us : List Tm) (f : Nat) (r : Rs) (acc : List Tm) (rest : List ByteArray), us ≠ [] → (∀ u ∈ us, ptermok u = true) → acc.length + us.length ≤ 4 → us.length ≤ f → (∀ x q, rest = x :: q → x ≠ kCom) → Rem L r (sepT us ++ rest) →
    ∃ r', saidL L n f r acc = (r', acc ++ us) ∧ Rem L r' rest
  | [], f, r, acc, rest, h, _, _, _, _, _ => absurd rfl h
  | [u], 0, r, acc, rest, _, _, _, hf, _, _ => absurd hf (by simp)
  | u :: v :: us, 0, r, acc, rest, _, _, _, hf, _, _ => absurd hf (by simp)
  | [u], f + 1, r, acc, rest, _, ho, hl, hf, hr, h => by
    obtain ⟨e1, e2⟩ := term_eq (ho u (by simp))
    have h : Rem L r (u.name :: rest) := h
    obtain ⟨q1, q2⟩ := h.next (n := n) e2
    refine ⟨nextR L n r 2, ?_, q2⟩
    unfold saidL
    rw [if_pos h.1, if_pos q2.1, if_neg (by simp at hl; omega), q2.not hr, if_neg Bool.false_ne_true, q1, e1]
  | u :: v :: us, f + 1, r, acc, rest, _, ho, hl, hf, hr, h => by
    obtain ⟨e1, e2⟩ := term_eq (ho u (by simp))
    have h : Rem L r (u.name :: kCom :: (sepT (v :: us) ++ rest)) := h
    obtain ⟨q1, q2⟩ := h.next (n := n) e2
    obtain ⟨r', h1, h2⟩ := saidL_law (v :: us) f (nextR L n r 2).adv (acc ++ [u]) rest (by simp) (fun x hx => ho x (by simp at hx ⊢; exact Or.inr hx)) (by simp at hl ⊢; omega) (by simp at hf ⊢; omega) hr q2.adv
    refine ⟨r', ?_, h2⟩
    unfold saidL
    rw [if_pos h.1, if_pos q2.1, if_neg (by simp at hl; omega), q2.is, decide_eq_true rfl, if_pos rfl, q1, e1, h1]
    simp
/-! ### atoms -/
theorem ok_parts {a : Atm} (h : pcheck3 a = 0) : pprincipal a.says = true ∧ pprincipal a.pred = true ∧ 0 ≤ a.n ∧ a.n ≤ 4 ∧ a.termsB = true ∧ a.restB = true := by
  unfold pcheck3 at h
  split at h
  · cases h
  rename_i h1
  split at h
  · cases h
  rename_i h2
  split at h
  · cases h
  rename_i h3
  split at h
  · cases h
  rename_i h4
  rw [Bool.not_eq_false, Bool.and_eq_true] at h1
  exact ⟨h1.1, h1.2, by omega, by omega, by simpa using h3, by simpa using h4⟩
theorem ok_count {a : Atm} (h : pcheck3 a = 0) : (a.count : Int) = a.n := by
  obtain ⟨_, _, h1, h2, _⟩ := ok_parts h
  unfold Atm.count
  omega
theorem ok_term {a : Atm} (h : pcheck3 a = 0) {k : Nat} (hk : k < a.count) : ptermok (a.arg k) = true := by
  have hc := ok_count h
  obtain ⟨_, _, h1, h2, h3, _⟩ := ok_parts h
  unfold Atm.termsB at h3
  rw [List.all_eq_true] at h3
  have := h3 k (by rw [List.mem_range]; omega)
  have hd : decide ((k : Int) < a.n) = true := decide_eq_true (by omega)
  simpa [hd] using this
theorem ok_rest {a : Atm} (h : pcheck3 a = 0) {k : Nat} (hk : a.count ≤ k) (h4 : k < 4) : a.arg k = noT := by
  have hc := ok_count h
  obtain ⟨_, _, h1, h2, _, h3⟩ := ok_parts h
  unfold Atm.restB at h3
  rw [List.all_eq_true] at h3
  have := h3 k (by rw [List.mem_range]; omega)
  have hd : decide ((k : Int) < a.n) = false := decide_eq_false (by omega)
  simpa [hd, noT] using this
def termsOf (a : Atm) : List Tm := a.args.take a.count
theorem terms_len (a : Atm) : (termsOf a).length = a.count := by
  unfold termsOf
  rw [List.length_take]
  have := a.count_le
  show min a.count 4 = _
  omega
theorem args_arg (a : Atm) {k : Nat} (hk : k < 4) : a.args[k]? = some (a.arg k) := by
  obtain rfl | rfl | rfl | rfl : k = 0 ∨ k = 1 ∨ k = 2 ∨ k = 3 := by omega
  all_goals rfl
theorem terms_get (a : Atm) {k : Nat} (hk : k < a.count) : (termsOf a)[k]? = some (a.arg k) := by
  have := a.count_le
  unfold termsOf
  rw [List.getElem?_take, if_pos hk, args_arg a (by omega)]
theorem terms_ok {a : Atm} (h : pcheck3 a = 0) : ∀ u ∈ termsOf a, ptermok u = true := fun u hu => by
  obtain ⟨k, hk⟩ := List.mem_iff_getElem?.1 hu
  have hlt : k < a.count := by
    have := (List.getElem?_eq_some_iff.1 hk).1
    rwa [terms_len] at this
  rw [terms_get a hlt] at hk
  injection hk with hk
  subst hk
  exact ok_term h hlt
theorem mkAt_eq {a : Atm} (h : pcheck3 a = 0) (s : ByteArray) : mkAt s a.pred (termsOf a) = { a with says := s } := by
  have hc := ok_count h
  have hg : ∀ k, k < 4 → (termsOf a).getD k noT = a.arg k := fun k hk => by
    rw [List.getD_eq_getElem?_getD]
    by_cases hlt : k < a.count
    · rw [terms_get a hlt]
      rfl
    · rw [List.getElem?_eq_none (by rw [terms_len]; omega), ok_rest h (by omega) hk]
      rfl
  unfold mkAt
  rw [terms_len, hc, hg 0 (by omega), hg 1 (by omega), hg 2 (by omega), hg 3 (by omega)]
  rfl
def saidTk (a : Atm) : List ByteArray := a.pred :: (if a.count = 0 then [] else kOpen :: (sepT (termsOf a) ++ [kShut]))
def atomTk (a : Atm) : List ByteArray := a.says :: kSays :: saidTk a
theorem said_law {a : Atm} (ha : pcheck3 a = 0) (s : ByteArray) (hr : ∀ x q, rest = x :: q → x ≠ kOpen) (h : Rem L r (saidTk a ++ rest)) : ∃ r', saidF L n r s = (r', { a with says := s }) ∧ Rem L r' rest := by
  have hp := (ok_parts ha).2.1
  have hm : mayT 1 a.pred = true := hp
  have h : Rem L r (a.pred :: ((if a.count = 0 then [] else kOpen :: (sepT (termsOf a) ++ [kShut])) ++ rest)) := h
  obtain ⟨q1, q2⟩ := h.next (n := n) hm
  unfold saidF
  by_cases h0 : a.count = 0
  · rw [if_pos h0] at q2
    have q2 : Rem L (nextR L n r 1) rest := q2
    rw [q2.not hr, if_neg Bool.false_ne_true, q1]
    have e := mkAt_eq ha s
    have ht : termsOf a = [] := List.eq_nil_of_length_eq_zero (by rw [terms_len]; exact h0)
    rw [ht] at e
    exact ⟨_, by rw [e], q2⟩
  · rw [if_neg h0] at q2
    have q2 : Rem L (nextR L n r 1) (kOpen :: ((sepT (termsOf a) ++ [kShut]) ++ rest)) := q2
    rw [q2.is, decide_eq_true rfl, if_pos rfl, q1]
    have q3 := q2.adv
    rw [List.append_assoc] at q3
    have hl := terms_len a
    have h4 := a.count_le
    obtain ⟨r', h1, h2⟩ := saidL_law (n := n) (termsOf a) 5 (nextR L n r 1).adv [] ([kShut] ++ rest) (fun e => by rw [e] at hl; exact h0 hl.symm) (terms_ok ha) (by rw [hl]; simp; omega) (by rw [hl]; omega) (fun x q e => by
      injection e with e _
      rw [← e]
      decide) q3
    rw [h1]
    dsimp only
    rw [List.nil_append, mkAt_eq ha s]
    exact ⟨_, rfl, h2.must⟩
theorem atom_law {a : Atm} (ha : pcheck3 a = 0) (hr : ∀ x q, rest = x :: q → x ≠ kOpen) (h : Rem L r (atomTk a ++ rest)) : ∃ r', atomF L n r = (r', a) ∧ Rem L r' rest := by
  have hs := (ok_parts ha).1
  have hm : mayT 0 a.says = true := hs
  have h : Rem L r (a.says :: kSays :: (saidTk a ++ rest)) := h
  obtain ⟨q1, q2⟩ := h.next (n := n) hm
  obtain ⟨r', h1, h2⟩ := said_law (n := n) ha a.says hr (q2.must (n := n))
  refine ⟨r', ?_, h2⟩
  unfold atomF
  rw [q1, h1]
/-! ### bodies -/
def sepA : List Atm → List ByteArray
  | [] => []
  | [a] => atomTk a
  | a :: b :: l => atomTk a ++ kCom :: sepA (b :: l)
def bodyTk (l : List Atm) : List ByteArray := if l = [] then [] else kIf :: sepA l
theorem bodyL_law : ∀ (l : List Atm) (f : Nat) (r : Rs) (acc : List Atm) (rest : List ByteArray), l ≠ [] → (∀ a ∈ l, pcheck3 a = 0) → l.length ≤ f → (∀ x q, rest = x :: q → x ≠ kCom ∧ x ≠ kOpen) → Rem L r (sepA l ++ rest) →
    ∃ r', bodyL L n f r acc = (r', acc ++ l) ∧ Rem L r' rest
  | [], f, r, acc, rest, h, _, _, _, _ => absurd rfl h
  | [a], 0, r, acc, rest, _, _, hf, _, _ => absurd hf (by simp)
  | a :: b :: l, 0, r, acc, rest, _, _, hf, _, _ => absurd hf (by simp)
  | [a], f + 1, r, acc, rest, _, ho, hf, hr, h => by
    obtain ⟨r1, h1, h2⟩ := atom_law (n := n) (ho a (by simp)) (fun x q e => (hr x q e).2) h
    refine ⟨r1, ?_, h2⟩
    unfold bodyL
    rw [if_pos h.1, h1]
    dsimp only
    rw [h2.not (fun x q e => (hr x q e).1), if_neg Bool.false_ne_true]
  | a :: b :: l, f + 1, r, acc, rest, _, ho, hf, hr, h => by
    have h : Rem L r (atomTk a ++ (kCom :: (sepA (b :: l) ++ rest))) := by
      have e : sepA (a :: b :: l) ++ rest = atomTk a ++ (kCom :: (sepA (b :: l) ++ rest)) := by
        simp [sepA]
      rwa [e] at h
    obtain ⟨r1, h1, h2⟩ := atom_law (n := n) (ho a (by simp)) (fun x q e => by
      injection e with e _
      rw [← e]
      decide) h
    obtain ⟨r', h3, h4⟩ := bodyL_law (b :: l) f r1.adv (acc ++ [a]) rest (by simp) (fun x hx => ho x (by simp at hx ⊢; exact Or.inr hx)) (by simp at hf ⊢; omega) hr h2.adv
    refine ⟨r', ?_, h4⟩
    unfold bodyL
    rw [if_pos h.1, h1]
    dsimp only
    rw [h2.is, decide_eq_true rfl, if_pos rfl, h3]
    simp
theorem sepA_len : ∀ l : List Atm, l.length ≤ (sepA l).length
  | [] => Nat.le_refl _
  | [a] => by simp [sepA, atomTk]
  | a :: b :: l => by
    have := sepA_len (b :: l)
    simp only [sepA, List.length_append, List.length_cons, atomTk] at this ⊢
    omega
theorem body_law {l : List Atm} (ho : ∀ a ∈ l, pcheck3 a = 0) (hr : ∀ x q, rest = x :: q → x ≠ kCom ∧ x ≠ kOpen ∧ x ≠ kIf) (h : Rem L r (bodyTk l ++ rest)) : ∃ r', bodyF L n r = (r', l) ∧ Rem L r' rest := by
  unfold bodyF
  by_cases hl : l = []
  · subst hl
    have h : Rem L r rest := h
    rw [h.not (fun x q e => (hr x q e).2.2), if_neg Bool.false_ne_true]
    exact ⟨r, rfl, h⟩
  · unfold bodyTk at h
    rw [if_neg hl] at h
    have h : Rem L r (kIf :: (sepA l ++ rest)) := h
    rw [h.is, decide_eq_true rfl, if_pos rfl]
    have hn := h.adv.len
    rw [List.length_append] at hn
    have := sepA_len l
    obtain ⟨r', h1, h2⟩ := bodyL_law (n := n) l (L.length + 1) r.adv [] rest hl ho (by omega) (fun x q e => ⟨(hr x q e).1, (hr x q e).2.1⟩) h.adv
    exact ⟨r', by rw [h1, List.nil_append], h2⟩
/-! ### clears -/
def sepS : List ByteArray → List ByteArray
  | [] => []
  | [a] => [a]
  | a :: b :: l => a :: kCom :: sepS (b :: l)
theorem clearL_law : ∀ (l : List ByteArray) (f : Nat) (r : Rs) (acc : List ByteArray) (rest : List ByteArray), l ≠ [] → (∀ a ∈ l, pprincipal a = true) → l.length ≤ f → (∀ x q, rest = x :: q → x ≠ kCom) → Rem L r (sepS l ++ rest) →
    ∃ r', clearL L n f r acc = (r', acc ++ l) ∧ Rem L r' rest
  | [], f, r, acc, rest, h, _, _, _, _ => absurd rfl h
  | [a], 0, r, acc, rest, _, _, hf, _, _ => absurd hf (by simp)
  | a :: b :: l, 0, r, acc, rest, _, _, hf, _, _ => absurd hf (by simp)
  | [a], f + 1, r, acc, rest, _, ho, hf, hr, h => by
    have h : Rem L r (a :: rest) := h
    have hm : mayT 0 a = true := ho a (by simp)
    obtain ⟨q1, q2⟩ := h.next (n := n) hm
    refine ⟨nextR L n r 0, ?_, q2⟩
    unfold clearL
    rw [if_pos h.1, q2.not hr, if_neg Bool.false_ne_true, q1]
  | a :: b :: l, f + 1, r, acc, rest, _, ho, hf, hr, h => by
    have h : Rem L r (a :: kCom :: (sepS (b :: l) ++ rest)) := h
    have hm : mayT 0 a = true := ho a (by simp)
    obtain ⟨q1, q2⟩ := h.next (n := n) hm
    obtain ⟨r', h3, h4⟩ := clearL_law (b :: l) f (nextR L n r 0).adv (acc ++ [a]) rest (by simp) (fun x hx => ho x (by simp at hx ⊢; exact Or.inr hx)) (by simp at hf ⊢; omega) hr q2.adv
    refine ⟨r', ?_, h4⟩
    unfold clearL
    rw [if_pos h.1, q2.is, decide_eq_true rfl, if_pos rfl, q1, h3]
    simp
theorem sepS_len : ∀ l : List ByteArray, l.length ≤ (sepS l).length
  | [] => Nat.le_refl _
  | [a] => Nat.le_refl _
  | a :: b :: l => by
    have := sepS_len (b :: l)
    simp only [sepS, List.length_cons] at this ⊢
    omega
theorem clear_law {w : ByteArray} {l : List ByteArray} (hw : pprincipal w = true) (hl : l ≠ []) (ho : ∀ a ∈ l, pprincipal a = true) (hr : ∀ x q, rest = x :: q → x ≠ kCom) (h : Rem L r (w :: kCol :: (sepS l ++ rest))) : ∃ r', clearF L n r = (r', w, l) ∧ Rem L r' rest := by
  have hm : mayT 0 w = true := hw
  obtain ⟨q1, q2⟩ := h.next (n := n) hm
  have q3 := q2.must (n := n)
  have hn := q3.len
  rw [List.length_append] at hn
  have := sepS_len l
  obtain ⟨r', h1, h2⟩ := clearL_law (n := n) l (L.length + 1) (mustT L n (nextR L n r 0) kCol) [] rest hl ho (by omega) hr q3
  refine ⟨r', ?_, h2⟩
  unfold clearF
  rw [h1, q1, List.nil_append]
end Go.Vs
namespace Go.Proofs.YtaeehadibckcjaaDoor
open Go.RowKit Go.Vs Go.Vs.Ab
set_option maxRecDepth 100000
/-! ### words and signs -/
theorem sh_of {y : ByteArray} {c : UInt8} {r : List UInt8} (h : lts y = c :: r) (hc : varB c = false) : SH y := ⟨c, r, h, hc⟩
theorem LS.sp : LS ⟨#[32]⟩ [] := LS.blank (by decide)
theorem SH.sp : SH ⟨#[32]⟩ := sh_of (r := []) rfl (by decide)
theorem LS.kw {w : ByteArray} (h : pconst0 w = true) : LS (w ++ ⟨#[32]⟩) [w] := (LX.const h (pconstant_head h)).app SH.sp LS.sp
theorem LS.kw2 {w : ByteArray} (h : pconst0 w = true) : LS (⟨#[32]⟩ ++ (w ++ ⟨#[32]⟩)) [w] := LS.sp.app (LS.kw h)
theorem ls_says : LS tSays [kSays] := LS.kw2 (w := kSays) (by decide)
theorem ls_if : LS tIf [kIf] := LS.kw2 (w := kIf) (by decide)
theorem ls_can : LS tCan [kCan] := LS.kw2 (w := kCan) (by decide)
theorem ls_prin : LS tPrin [kPrin] := LS.kw (w := kPrin) (by decide)
theorem ls_pred : LS tPred [kPred] := LS.kw (w := kPred) (by decide)
theorem ls_clear : LS tClr [kClear] := LS.kw (w := kClear) (by decide)
theorem ls_quota : LS tQuo [kQuota] := LS.kw (w := kQuota) (by decide)
theorem ls_budget : LS tBud [kBudget] := LS.kw (w := kBudget) (by decide)
theorem ls_com : LS tComma [kCom] := (LS.sign (c := 44) (by decide) (by decide) (eq_false (by decide))).app LS.sp
theorem ls_open : LS tOpen [kOpen] := LS.sign (by decide) (by decide) (eq_false (by decide))
theorem ls_shut : LS tShut [kShut] := LS.sign (by decide) (by decide) (eq_false (by decide))
theorem ls_sl : LS tSl [kSl] := LS.sign (by decide) (by decide) (eq_false (by decide))
theorem ls_col : LS tCol [kCol] := LS.sign (by decide) (by decide) (eq_false (by decide))
theorem ls_q : LS tQ [kQ] := LS.sign (by decide) (by decide) (eq_false (by decide))
theorem ls_dot : LS (dotB ++ nlB) [kDot] := (LS.sign (c := 46) (by decide) (by decide) (eq_false (by decide))).app (LS.blank (by decide))
theorem sh_com : SH tComma := sh_of (c := 44) (r := [32]) rfl (by decide)
theorem sh_open : SH tOpen := sh_of (c := 40) (r := []) rfl (by decide)
theorem sh_shut : SH tShut := sh_of (c := 41) (r := []) rfl (by decide)
theorem sh_says : SH tSays := sh_of (c := 32) rfl (by decide)
theorem sh_if : SH tIf := sh_of (c := 32) rfl (by decide)
theorem sh_can : SH tCan := sh_of (c := 32) rfl (by decide)
theorem sh_sl : SH tSl := sh_of (c := 47) (r := []) rfl (by decide)
theorem sh_col : SH tCol := sh_of (c := 58) (r := []) rfl (by decide)
theorem sh_q : SH tQ := sh_of (c := 63) (r := []) rfl (by decide)
theorem sh_dot : SH (dotB ++ nlB) := sh_of (c := 46) (r := [10]) rfl (by decide)
/-! ### atoms -/
theorem sepT_snoc : ∀ {l : List Tm} (x : Tm), l ≠ [] → sepT (l ++ [x]) = sepT l ++ [kCom, x.name]
  | [], x, h => absurd rfl h
  | [t], x, _ => rfl
  | t :: u :: r, x, _ => by
    have ih := sepT_snoc (l := u :: r) x (by simp)
    show t.name :: kCom :: sepT ((u :: r) ++ [x]) = _
    rw [ih]
    rfl
theorem lx_saidK {a : Atm} (h : pcheck3 a = 0) : ∀ k, k ≤ a.count → LX (psaidK a k) (a.pred :: (if k = 0 then [] else kOpen :: sepT ((termsOf a).take k)))
  | 0, _ => LX.prin (ok_parts h).2.1
  | k + 1, hk => by
    have ih := lx_saidK h k (by omega)
    have hn := LX.term (ok_term h (k := k) (by omega))
    have hl := terms_len a
    have ht : (termsOf a).take (k + 1) = (termsOf a).take k ++ [a.arg k] := by
      rw [List.take_add_one, terms_get a (by omega)]
      rfl
    unfold psaidK
    rw [if_neg (Nat.succ_ne_zero k), ht]
    by_cases h0 : k = 0
    · subst h0
      rw [if_pos rfl, ByteArray.append_assoc]
      rw [if_pos rfl] at ih
      have := ih.appX (Or.inr (sh_open.app _)) (ls_open.appX hn)
      exact this
    · rw [if_neg h0, ByteArray.append_assoc]
      rw [if_neg h0] at ih
      have := ih.appX (Or.inr (sh_com.app _)) (ls_com.appX hn)
      rw [sepT_snoc _ (fun e => by
        have := congrArg List.length e
        rw [List.length_take, List.length_nil] at this
        omega)]
      have e : a.pred :: kOpen :: (sepT ((termsOf a).take k) ++ [kCom, (a.arg k).name]) = (a.pred :: kOpen :: sepT ((termsOf a).take k)) ++ ([kCom] ++ [(a.arg k).name]) := rfl
      rw [e]
      exact this
theorem lx_said {a : Atm} (h : pcheck3 a = 0) : LX (psaid a) (saidTk a) := by
  have hk := lx_saidK h a.count (Nat.le_refl _)
  have hl := terms_len a
  unfold psaid saidTk
  by_cases h0 : a.count = 0
  · rw [if_neg (by omega), if_pos h0]
    exact LX.prin (ok_parts h).2.1
  · rw [if_pos (by omega), if_neg h0]
    rw [if_neg h0, List.take_of_length_le (by omega)] at hk
    exact (hk.app sh_shut ls_shut).x
theorem lx_text {a : Atm} (h : pcheck3 a = 0) : LX (ptext a) (atomTk a) := by
  unfold ptext
  have := ((LX.prin (ok_parts h).1).app sh_says ls_says).appX (lx_said h)
  exact this
/-! ### bodies -/
theorem sepA_snoc : ∀ {l : List Atm} (x : Atm), l ≠ [] → sepA (l ++ [x]) = sepA l ++ kCom :: atomTk x
  | [], x, h => absurd rfl h
  | [t], x, _ => rfl
  | t :: u :: r, x, _ => by
    have ih := sepA_snoc (l := u :: r) x (by simp)
    show atomTk t ++ kCom :: sepA ((u :: r) ++ [x]) = _
    rw [ih]
    show _ = (atomTk t ++ kCom :: sepA (u :: r)) ++ _
    simp
theorem lx_bodyK {l : List Atm} (h : ∀ a ∈ l, pcheck3 a = 0) : ∀ k, k ≤ l.length → LX (pbodyK l k) (bodyTk (l.take k)) ∧ ((pbodyK l k).size = 0 ∨ SH (pbodyK l k))
  | 0, _ => ⟨LS.nil.x, Or.inl rfl⟩
  | k + 1, hk => by
    obtain ⟨ih, ih2⟩ := lx_bodyK h k (by omega)
    have ha := lx_text (h l[k] (List.getElem_mem (by omega)))
    rw [pbodyK_next (by omega), List.take_succ_eq_append_getElem (by omega)]
    generalize l[k] = a at *
    by_cases h0 : k = 0
    · subst h0
      rw [if_pos rfl]
      have e : pbodyK l 0 = ⟨#[]⟩ := rfl
      rw [e, none_app rfl, List.take_zero, List.nil_append]
      exact ⟨ls_if.appX ha, Or.inr (sh_if.app _)⟩
    · rw [if_neg h0]
      have hne : l.take k ≠ [] := fun e => by
        have := congrArg List.length e
        rw [List.length_take, List.length_nil] at this
        omega
      have := ih.appX (Or.inr (sh_com.app (ptext a))) (ls_com.appX ha)
      have e : bodyTk (l.take k ++ [a]) = bodyTk (l.take k) ++ ([kCom] ++ atomTk a) := by
        unfold bodyTk
        rw [if_neg (by simp), if_neg hne, sepA_snoc _ hne]
        rfl
      rw [e]
      refine ⟨this, Or.inr ?_⟩
      rcases ih2 with h2 | h2
      · exfalso
        have hpos : 0 < (pbodyK l k).size := by
          obtain ⟨j, rfl⟩ : ∃ j, k = j + 1 := ⟨k - 1, by omega⟩
          rw [pbodyK_next (by omega), app_size, app_size]
          have z1 : tIf.size = 4 := rfl
          have z2 : tComma.size = 2 := rfl
          split <;> omega
        omega
      · exact h2.app _
theorem lx_body {l : List Atm} (h : ∀ a ∈ l, pcheck3 a = 0) : LX (pbody l) (bodyTk l) ∧ ((pbody l).size = 0 ∨ SH (pbody l)) := by
  have := lx_bodyK h l.length (Nat.le_refl _)
  rwa [List.take_of_length_le (Nat.le_refl _)] at this
theorem all_okA {l : List Atm} (h : l.all okA = true) : ∀ a ∈ l, pcheck3 a = 0 := fun a ha => by
  rw [List.all_eq_true] at h
  exact of_decide_eq_true (h a ha)
/-! ### numbers -/
theorem dec_len : ∀ (k n : Nat), n < 10 ^ (k + 1) → (Lib.decDigits n).length ≤ k + 1
  | 0, n, h => by
    rw [Lib.decDigits, dif_pos (by simpa using h)]
    exact Nat.le_refl _
  | k + 1, n, h => by
    rw [Lib.decDigits]
    split
    · simp
    · rw [List.length_append]
      have h1 : n / 10 < 10 ^ (k + 1) := by
        rw [Nat.div_lt_iff_lt_mul (by decide)]
        rw [Nat.pow_succ] at h
        exact h
      have := dec_len k (n / 10) h1
      simp only [List.length_cons, List.length_nil]
      omega
theorem dec_num : ∀ n : Nat, numK (Lib.decDigits n) = n := fun n => by
  induction n using Nat.strongRecOn with
  | ind n ih =>
    have hd : ∀ d, d < 10 → (UInt8.ofNat (48 + d)).toNat = 48 + d := by decide
    rw [Lib.decDigits]
    split
    · rename_i h
      show (10 * 0 + (((UInt8.ofNat (48 + n)).toNat : Int) - 48)) = _
      rw [hd n h]
      omega
    · rw [numK_snoc, ih (n / 10) (by omega), hd (n % 10) (by omega)]
      omega
theorem dec_head : ∀ n : Nat, 0 < n → ∃ c r, Lib.decDigits n = c :: r ∧ c.toNat ≠ 48 := fun n => by
  induction n using Nat.strongRecOn with
  | ind n ih =>
    intro hn
    have hd : ∀ d, d < 10 → 0 < d → (UInt8.ofNat (48 + d)).toNat ≠ 48 := by decide
    rw [Lib.decDigits]
    split
    · rename_i h
      exact ⟨_, [], rfl, hd n h hn⟩
    · obtain ⟨c, r, h1, h2⟩ := ih (n / 10) (by omega) (by omega)
      rw [h1]
      exact ⟨c, r ++ [UInt8.ofNat (48 + n % 10)], rfl, h2⟩
theorem dec_ne (n : Nat) : ∃ c r, Lib.decDigits n = c :: r := by
  rcases Nat.eq_zero_or_pos n with rfl | h
  · exact ⟨_, [], by rw [Lib.decDigits, dif_pos (by decide)]⟩
  · obtain ⟨c, r, h1, _⟩ := dec_head n h
    exact ⟨c, r, h1⟩
theorem itoa_dec {n : Int} (h : 0 ≤ n) : lts (itoaB n) = Lib.decDigits n.toNat := by
  show Lib.itoa n = _
  unfold Lib.itoa
  rw [if_neg (by omega)]
theorem num_law {n : Int} (h0 : 0 ≤ n) (h1 : n ≤ 9999999) : LX (itoaB n) [itoaB n] ∧ pnum (itoaB n) = true ∧ numB (itoaB n) = n := by
  have hl := itoa_dec h0
  have hlen := dec_len 6 n.toNat (by omega)
  have hd := dec_digs n.toNat
  have hsz := lts_len (itoaB n)
  rw [hl] at hsz
  obtain ⟨c, r, hc⟩ := dec_ne n.toNat
  have hpos : 0 < (itoaB n).size := by rw [← hsz, hc]; simp
  have hcd : digB c = true := hd c (by rw [hc]; simp)
  have hhead : ∀ p : UInt8 → Bool, headB p (itoaB n) = p c := fun p => by
    unfold headB
    rw [hl, hc]
    rfl
  have hcn : (48 ≤ c.toNat ∧ c.toNat ≤ 57) := by simpa [digB] using hcd
  have hc0 : pconst0 (itoaB n) = true := by
    unfold pconst0
    rw [hhead, hl]
    simp only [Bool.and_eq_true, decide_eq_true_eq, List.all_eq_true]
    refine ⟨⟨by omega, ?_⟩, fun x hx => ?_⟩
    · have : underB c = false := decide_eq_false (by omega)
      rw [this]
      rfl
    · have := hd x hx
      unfold constB
      rw [this]
      cases lowerB x <;> rfl
  refine ⟨LX.const hc0 (pconstant_head hc0), ?_, ?_⟩
  · unfold pnum
    rw [hl, hhead]
    simp only [Bool.and_eq_true, Bool.or_eq_true, decide_eq_true_eq, List.all_eq_true]
    refine ⟨hd, size_pos hpos, by omega, ?_⟩
    rcases Nat.lt_or_ge n.toNat 10 with h | h
    · left
      have := dec_len 0 n.toNat (by omega)
      omega
    · right
      obtain ⟨c', r', h2, h3⟩ := dec_head n.toNat (by omega)
      rw [hc] at h2
      injection h2 with h2 _
      subst h2
      have : decide ((c.toNat : Int) = 48) = false := decide_eq_false (by omega)
      rw [this]
      rfl
  · unfold numB
    rw [hl, dec_num]
    omega
/-! ### clears -/
theorem join_cons (x y : ByteArray) (l : List ByteArray) (sep : ByteArray) : joinB (x :: y :: l) sep = x ++ (sep ++ joinB (y :: l) sep) := by
  apply ba_ext
  simp [joinB, Lib.join]
theorem lx_join : ∀ {l : List ByteArray}, l ≠ [] → (∀ x ∈ l, pprincipal x = true) → LX (joinB l tComma) (sepS l)
  | [], h, _ => absurd rfl h
  | [x], _, h => by
    have e : joinB [x] tComma = x := by
      apply ba_ext
      simp [joinB, Lib.join]
    rw [e]
    exact LX.prin (h x (by simp))
  | x :: y :: l, _, h => by
    have ih := lx_join (l := y :: l) (by simp) (fun z hz => h z (by simp at hz ⊢; exact Or.inr hz))
    rw [join_cons]
    exact (LX.prin (h x (by simp))).appX (Or.inr (sh_com.app _)) (ls_com.appX ih)
end Go.Proofs.YtaeehadibckcjaaDoor
namespace Go.Proofs.YtaeehadibckcjaaDoor
open Go.RowKit Go.Vs Go.Vs.Ab
set_option maxRecDepth 100000
/-! ### tokens of a policy's text -/
def prinTk (s : ByteArray) : List ByteArray := [kPrin, s, kDot]
def predTk (x : Prd) : List ByteArray := [kPred, x.name, kSl, itoaB x.ar, kDot]
def clearTk (c : Clr) : List ByteArray := kClear :: c.who :: kCol :: (sepS c.reads ++ [kDot])
def ruleTk (r : Rul) : List ByteArray := atomTk r.head ++ (bodyTk r.body ++ [kDot])
def grantTk (g : Grt) : List ByteArray := g.head.says :: kSays :: g.tw :: kCan :: (saidTk g.head ++ (bodyTk g.body ++ [kDot]))
def quotaTk (q : Int) : List ByteArray := [kQuota, itoaB q, kDot]
def budgetTk (q : Int) : List ByteArray := [kBudget, itoaB q, kDot]
def polTk (p : Pol) : List ByteArray := p.prin.flatMap prinTk ++ (p.preds.flatMap predTk ++ (p.clears.flatMap clearTk ++ ((quotaTk p.quota ++ budgetTk p.budget) ++ (p.rules.flatMap ruleTk ++ p.grants.flatMap grantTk))))
theorem ls_line {x : ByteArray} {tx : List ByteArray} (h : LX x tx) : LS ((x ++ dotB) ++ nlB) (tx ++ [kDot]) := by
  rw [ByteArray.append_assoc]
  exact h.app sh_dot ls_dot
theorem ls_lines {T : Type} {l : List T} {f : T → ByteArray} {g : T → List ByteArray} (h : ∀ x ∈ l, LS (f x ++ nlB) (g x)) : LS (linesB (l.map f)) (l.flatMap g) := by
  induction l with
  | nil => exact LS.nil
  | cons x r ih =>
    rw [List.map_cons, linesB, List.flatMap_cons]
    exact (h x (by simp)).app (ih fun y hy => h y (by simp [hy]))
theorem ls_prinL {s : ByteArray} (h : pprincipal s = true) : LS (lnOf (prPrin s) ++ nlB) (prinTk s) := by
  unfold lnOf prPrin
  rw [cat2]
  exact ls_line (ls_prin.appX (LX.prin h))
theorem ls_predL {x : Prd} (h : okPd x = true) : LS (lnOf (prPred x) ++ nlB) (predTk x) := by
  unfold okPd at h
  simp only [Bool.and_eq_true, decide_eq_true_eq] at h
  have hn := (num_law (n := x.ar) h.2.1 h.2.2).1
  unfold lnOf prPred
  have e : catB [tPred, x.name, tSl, itoaB x.ar] = tPred ++ (x.name ++ (tSl ++ itoaB x.ar)) := by
    show tPred ++ (x.name ++ (tSl ++ (itoaB x.ar ++ ⟨#[]⟩))) = _
    rw [app_e]
  rw [e]
  exact ls_line (ls_pred.appX ((LX.prin h.1).appX (Or.inr (sh_sl.app _)) (ls_sl.appX hn)))
theorem ls_clearL {c : Clr} (h : okCl c = true) : LS (lnOf (prClr c) ++ nlB) (clearTk c) := by
  unfold okCl at h
  simp only [Bool.and_eq_true, decide_eq_true_eq, List.all_eq_true] at h
  unfold lnOf prClr
  rw [cat1]
  have hne : c.reads ≠ [] := fun e => by
    have := h.2.1
    rw [e] at this
    simp at this
  unfold pClear
  rw [if_neg (by omega)]
  have e : ((tClr ++ c.who) ++ tCol) ++ (tSp ++ joinB c.reads tComma) = tClr ++ (c.who ++ (tCol ++ (tSp ++ joinB c.reads tComma))) := by simp only [ByteArray.append_assoc]
  rw [e]
  have := ls_line (ls_clear.appX ((LX.prin h.1).appX (Or.inr (sh_col.app _)) (ls_col.appX (LS.sp.appX (lx_join hne h.2.2)))))
  exact this
theorem ls_ruleL {r : Rul} (h : okRu r = true) : LS (lnOf (prRul r) ++ nlB) (ruleTk r) := by
  unfold okRu at h
  rw [Bool.and_eq_true] at h
  obtain ⟨b1, b2⟩ := lx_body (all_okA h.2)
  have ht := lx_text (of_decide_eq_true h.1)
  unfold lnOf prRul ruleTk
  rw [cat1, ← List.append_assoc]
  exact ls_line (ht.appX b2 b1)
theorem ls_grantL {g : Grt} (h : okGr g = true) : LS (lnOf (prGrt g) ++ nlB) (grantTk g) := by
  unfold okGr at h
  rw [Bool.and_eq_true, Bool.and_eq_true] at h
  obtain ⟨b1, b2⟩ := lx_body (all_okA h.2.2)
  have ha := of_decide_eq_true h.2.1
  have hs := lx_said ha
  unfold lnOf prGrt grantTk
  rw [cat1]
  unfold pGrant
  have e : catB [g.head.says, tSays, g.tw, tCan, psaid g.head] = g.head.says ++ (tSays ++ (g.tw ++ (tCan ++ psaid g.head))) := by
    show g.head.says ++ (tSays ++ (g.tw ++ (tCan ++ (psaid g.head ++ ⟨#[]⟩)))) = _
    rw [app_e]
  rw [e]
  have h1 := (LX.prin (ok_parts ha).1).appX (Or.inr (sh_says.app _)) (ls_says.appX ((LX.prin h.1).appX (Or.inr (sh_can.app _)) (ls_can.appX hs)))
  have := ls_line (h1.appX b2 b1)
  have e2 : (([g.head.says] ++ ([kSays] ++ ([g.tw] ++ ([kCan] ++ saidTk g.head)))) ++ bodyTk g.body) ++ [kDot] = g.head.says :: kSays :: g.tw :: kCan :: (saidTk g.head ++ (bodyTk g.body ++ [kDot])) := by
    simp
  rw [e2] at this
  exact this
theorem plain0_parts {p : Pol} (h : plain0 p = true) : 0 ≤ p.quota ∧ p.quota ≤ 9999999 ∧ 0 ≤ p.budget ∧ p.budget ≤ 9999999 := by
  unfold plain0 at h
  simp only [Bool.and_eq_true, decide_eq_true_eq] at h
  omega
theorem ls_policy {p : Pol} (h : plainP p = true) : LS (pPolicy p) (polTk p) := by
  obtain ⟨h0, h1, h2, h3, h4, h5⟩ := plain_parts h
  obtain ⟨q1, q2, q3, q4⟩ := plain0_parts h0
  rw [policy_lines]
  unfold linesP polTk
  simp only [lines_app]
  refine (ls_lines fun x hx => ls_prinL (h1 x hx)).app ((ls_lines fun x hx => ls_predL (h2 x hx)).app ((ls_lines fun x hx => ls_clearL (h3 x hx)).app (LS.app ?_ ((ls_lines fun x hx => ls_ruleL (h4 x hx)).app (ls_lines fun x hx => ls_grantL (h5 x hx))))))
  have e : linesB [tQuo ++ itoaB p.quota ++ dotB, tBud ++ itoaB p.budget ++ dotB] = ((tQuo ++ itoaB p.quota ++ dotB) ++ nlB) ++ ((tBud ++ itoaB p.budget ++ dotB) ++ nlB) := by
    show _ ++ (_ ++ (⟨#[]⟩ : ByteArray)) = _
    rw [app_e]
  rw [e]
  exact (ls_line (ls_quota.appX (num_law q1 q2).1)).app (ls_line (ls_budget.appX (num_law q3 q4).1))
/-! ### what the parser makes of them -/
variable {L : List Tk} {n : Int} {rest : List ByteArray}
theorem kdot_ok : ∀ (x : ByteArray) (q : List ByteArray), kDot :: rest = x :: q → x ≠ kCom ∧ x ≠ kOpen ∧ x ≠ kIf := fun x q e => by
  injection e with e _
  rw [← e]
  decide
theorem body_head {l : List Atm} : ∀ (x : ByteArray) (q : List ByteArray), bodyTk l ++ (kDot :: rest) = x :: q → x ≠ kOpen ∧ x ≠ kCan := fun x q e => by
  unfold bodyTk at e
  split at e
  · injection e with e _
    rw [← e]
    decide
  · injection e with e _
    rw [← e]
    decide
theorem step_prin {s : ByteArray} (hs : pprincipal s = true) {r : Rs} (p : Pp) (wq wb : Bool) (h : Rem L r (prinTk s ++ rest)) : ∃ r', stepF L n ⟨r, p, wq, wb⟩ = ⟨r', { p with prin := p.prin ++ [s] }, wq, wb⟩ ∧ Rem L r' rest := by
  have h : Rem L r (kPrin :: s :: kDot :: rest) := h
  have hm : mayT 0 s = true := hs
  obtain ⟨q1, q2⟩ := h.adv.next (n := n) hm
  refine ⟨_, ?_, q2.must (n := n)⟩
  unfold stepF armF
  dsimp only
  rw [h.is, decide_eq_true rfl, if_pos rfl, q1]
theorem step_pred {x : Prd} (hx : okPd x = true) {r : Rs} (p : Pp) (wq wb : Bool) (h : Rem L r (predTk x ++ rest)) : ∃ r', stepF L n ⟨r, p, wq, wb⟩ = ⟨r', { p with preds := p.preds ++ [x] }, wq, wb⟩ ∧ Rem L r' rest := by
  unfold okPd at hx
  simp only [Bool.and_eq_true, decide_eq_true_eq] at hx
  obtain ⟨_, n2, n3⟩ := num_law (n := x.ar) hx.2.1 hx.2.2
  have h : Rem L r (kPred :: x.name :: kSl :: itoaB x.ar :: kDot :: rest) := h
  have hm : mayT 1 x.name = true := hx.1
  obtain ⟨q1, q2⟩ := h.adv.next (n := n) hm
  have hm3 : mayT 3 (itoaB x.ar) = true := n2
  obtain ⟨q3, q4⟩ := (q2.must (n := n)).next (n := n) hm3
  refine ⟨_, ?_, q4.must (n := n)⟩
  unfold stepF armF
  dsimp only
  rw [h.is, h.is, show decide (kPred = kPrin) = false by decide, decide_eq_true rfl, if_neg Bool.false_ne_true, if_pos rfl, q1, q3, n3]
theorem step_clear {c : Clr} (hx : okCl c = true) {r : Rs} (p : Pp) (wq wb : Bool) (h : Rem L r (clearTk c ++ rest)) : ∃ r', stepF L n ⟨r, p, wq, wb⟩ = ⟨r', { p with clears := p.clears ++ [⟨c.who, c.reads.isEmpty, c.reads⟩] }, wq, wb⟩ ∧ Rem L r' rest := by
  unfold okCl at hx
  simp only [Bool.and_eq_true, decide_eq_true_eq, List.all_eq_true] at hx
  have hne : c.reads ≠ [] := fun e => by
    have := hx.2.1
    rw [e] at this
    simp at this
  have e : clearTk c ++ rest = kClear :: c.who :: kCol :: (sepS c.reads ++ (kDot :: rest)) := by
    unfold clearTk
    simp
  rw [e] at h
  obtain ⟨r', h1, h2⟩ := clear_law (n := n) hx.1 hne hx.2.2 (fun x q e => (kdot_ok x q e).1) h.adv
  refine ⟨_, ?_, h2.must (n := n)⟩
  unfold stepF armF
  dsimp only
  rw [h.is, h.is, h.is, show decide (kClear = kPrin) = false by decide, show decide (kClear = kPred) = false by decide, decide_eq_true rfl, if_neg Bool.false_ne_true, if_neg Bool.false_ne_true, if_pos rfl, h1]
theorem step_quota {q : Int} (h0 : 0 ≤ q) (h1 : q ≤ 9999999) {r : Rs} (p : Pp) (wb : Bool) (h : Rem L r (quotaTk q ++ rest)) : ∃ r', stepF L n ⟨r, p, false, wb⟩ = ⟨r', { p with quota := q }, true, wb⟩ ∧ Rem L r' rest := by
  obtain ⟨_, n2, n3⟩ := num_law h0 h1
  have h : Rem L r (kQuota :: itoaB q :: kDot :: rest) := h
  have hm3 : mayT 3 (itoaB q) = true := n2
  obtain ⟨q3, q4⟩ := h.adv.next (n := n) hm3
  refine ⟨_, ?_, q4.must (n := n)⟩
  unfold stepF armF onceR
  dsimp only
  rw [h.is, h.is, h.is, h.is, show decide (kQuota = kPrin) = false by decide, show decide (kQuota = kPred) = false by decide, show decide (kQuota = kClear) = false by decide, decide_eq_true rfl, if_neg Bool.false_ne_true, if_neg Bool.false_ne_true, if_neg Bool.false_ne_true, if_pos rfl, if_neg Bool.false_ne_true, q3, n3]
theorem step_budget {q : Int} (h0 : 0 ≤ q) (h1 : q ≤ 9999999) {r : Rs} (p : Pp) (wq : Bool) (h : Rem L r (budgetTk q ++ rest)) : ∃ r', stepF L n ⟨r, p, wq, false⟩ = ⟨r', { p with budget := q }, wq, true⟩ ∧ Rem L r' rest := by
  obtain ⟨_, n2, n3⟩ := num_law h0 h1
  have h : Rem L r (kBudget :: itoaB q :: kDot :: rest) := h
  have hm3 : mayT 3 (itoaB q) = true := n2
  obtain ⟨q3, q4⟩ := h.adv.next (n := n) hm3
  refine ⟨_, ?_, q4.must (n := n)⟩
  unfold stepF armF onceR
  dsimp only
  rw [h.is, h.is, h.is, h.is, h.is, show decide (kBudget = kPrin) = false by decide, show decide (kBudget = kPred) = false by decide, show decide (kBudget = kClear) = false by decide, show decide (kBudget = kQuota) = false by decide, decide_eq_true rfl, if_neg Bool.false_ne_true, if_neg Bool.false_ne_true, if_neg Bool.false_ne_true, if_neg Bool.false_ne_true, if_pos rfl, if_neg Bool.false_ne_true, q3, n3]
theorem prin_nokw {s w : ByteArray} (h : pprincipal s = true) (hw : preserved w = true) : decide (s = w) = false := decide_eq_false fun e => by
  subst e
  unfold pprincipal pconstant at h
  simp only [Bool.and_eq_true, hw] at h
  exact absurd h.1.2 (by decide)
theorem arm_says {r : Rs} {p : Pp} {wq wb : Bool} {s : ByteArray} {ts : List ByteArray} (hs : pprincipal s = true) (h : Rem L r (s :: ts)) : armF L n ⟨r, p, wq, wb⟩ = ⟨(saysF L n r p).1, (saysF L n r p).2, wq, wb⟩ := by
  unfold armF
  dsimp only
  rw [h.is, h.is, h.is, h.is, h.is, prin_nokw hs (by decide), prin_nokw hs (by decide), prin_nokw hs (by decide), prin_nokw hs (by decide), prin_nokw hs (by decide), if_neg Bool.false_ne_true, if_neg Bool.false_ne_true, if_neg Bool.false_ne_true, if_neg Bool.false_ne_true, if_neg Bool.false_ne_true]
theorem can_of {r : Rs} {t u : ByteArray} {ts : List ByteArray} (h : Rem L r (t :: u :: ts)) : canT L r = decide (u = kCan) := by
  obtain ⟨k, h1, h2, hl⟩ := h.adv.get
  unfold canT
  have h1 : L[r.i + 1]? = some k := h1
  rw [h1, decide_eq_true h.1]
  dsimp only
  rw [h2, Bool.true_and]
theorem step_rule {x : Rul} (hx : okRu x = true) {r : Rs} (p : Pp) (wq wb : Bool) (h : Rem L r (ruleTk x ++ rest)) : ∃ r', stepF L n ⟨r, p, wq, wb⟩ = ⟨r', { p with rules := p.rules ++ [⟨x.head, x.body.isEmpty, x.body⟩] }, wq, wb⟩ ∧ Rem L r' rest := by
  unfold okRu at hx
  rw [Bool.and_eq_true] at hx
  have ha := of_decide_eq_true hx.1
  have hs := (ok_parts ha).1
  have e : ruleTk x ++ rest = x.head.says :: kSays :: (saidTk x.head ++ (bodyTk x.body ++ (kDot :: rest))) := by
    unfold ruleTk atomTk
    simp
  rw [e] at h
  have hm : mayT 0 x.head.says = true := hs
  obtain ⟨q1, q2⟩ := h.next (n := n) hm
  have q3 := q2.must (n := n)
  obtain ⟨r1, h1, h2⟩ := said_law (n := n) ha x.head.says (fun y q e => (body_head y q e).1) q3
  obtain ⟨r2, h3, h4⟩ := body_law (n := n) (all_okA hx.2) kdot_ok h2
  have hcan : canT L (mustT L n (nextR L n r 0) kSays) = false := by
    have key : ∀ (t : ByteArray) (q : List ByteArray), saidTk x.head ++ (bodyTk x.body ++ (kDot :: rest)) = t :: q → ∃ u q', q = u :: q' ∧ u ≠ kCan := fun t q e => by
      unfold saidTk at e
      injection e with e1 e2
      have e2 : (if x.head.count = 0 then [] else kOpen :: (sepT (termsOf x.head) ++ [kShut])) ++ (bodyTk x.body ++ (kDot :: rest)) = q := e2
      rw [← e2]
      by_cases h0 : x.head.count = 0
      · rw [if_pos h0, List.nil_append]
        cases hb : bodyTk x.body ++ (kDot :: rest) with
        | nil =>
          have := congrArg List.length hb
          simp at this
        | cons u q' => exact ⟨u, q', rfl, (body_head u q' hb).2⟩
      · rw [if_neg h0]
        exact ⟨_, _, rfl, by decide⟩
    obtain ⟨u, q', hu, hne⟩ := key x.head.pred ((if x.head.count = 0 then [] else kOpen :: (sepT (termsOf x.head) ++ [kShut])) ++ (bodyTk x.body ++ (kDot :: rest))) rfl
    have q3' : Rem L (mustT L n (nextR L n r 0) kSays) (x.head.pred :: ((if x.head.count = 0 then [] else kOpen :: (sepT (termsOf x.head) ++ [kShut])) ++ (bodyTk x.body ++ (kDot :: rest)))) := q3
    rw [hu] at q3'
    rw [can_of q3']
    exact decide_eq_false hne
  have hsays : saysF L n r p = (r2, { p with rules := p.rules ++ [⟨x.head, x.body.isEmpty, x.body⟩] }) := by
    unfold saysF
    dsimp only
    rw [hcan, if_neg Bool.false_ne_true, q1, h1]
    dsimp only
    rw [h3]
  refine ⟨_, ?_, h4.must (n := n)⟩
  unfold stepF
  rw [arm_says hs h, hsays]
theorem step_grant {x : Grt} (hx : okGr x = true) {r : Rs} (p : Pp) (wq wb : Bool) (h : Rem L r (grantTk x ++ rest)) : ∃ r', stepF L n ⟨r, p, wq, wb⟩ = ⟨r', { p with grants := p.grants ++ [⟨x.tw, x.head, x.body.isEmpty, x.body⟩] }, wq, wb⟩ ∧ Rem L r' rest := by
  unfold okGr at hx
  rw [Bool.and_eq_true, Bool.and_eq_true] at hx
  have ha := of_decide_eq_true hx.2.1
  have hs := (ok_parts ha).1
  have e : grantTk x ++ rest = x.head.says :: kSays :: x.tw :: kCan :: (saidTk x.head ++ (bodyTk x.body ++ (kDot :: rest))) := by
    unfold grantTk
    simp
  rw [e] at h
  have hm : mayT 0 x.head.says = true := hs
  obtain ⟨q1, q2⟩ := h.next (n := n) hm
  have q3 := q2.must (n := n)
  have hcan : canT L (mustT L n (nextR L n r 0) kSays) = true := by
    rw [can_of q3]
    exact decide_eq_true rfl
  have hm2 : mayT 0 x.tw = true := hx.1
  obtain ⟨q4, q5⟩ := q3.next (n := n) hm2
  have q6 := q5.must (n := n)
  obtain ⟨r1, h1, h2⟩ := said_law (n := n) ha x.head.says (fun y q e => (body_head y q e).1) q6
  obtain ⟨r2, h3, h4⟩ := body_law (n := n) (all_okA hx.2.2) kdot_ok h2
  have hsays : saysF L n r p = (r2, { p with grants := p.grants ++ [⟨x.tw, x.head, x.body.isEmpty, x.body⟩] }) := by
    unfold saysF
    dsimp only
    rw [hcan, if_pos rfl, q1, q4, h1]
    dsimp only
    rw [h3]
  refine ⟨_, ?_, h4.must (n := n)⟩
  unfold stepF
  rw [arm_says hs h, hsays]
/-! ### all of it -/
theorem pol_go {f : Nat} {st : Pst} {t : ByteArray} {ts : List ByteArray} (h : Rem L st.r (t :: ts)) : polL L n (f + 1) st = polL L n f (stepF L n st) := by
  obtain ⟨k, _, _, hl⟩ := h.get
  rw [polL_succ, if_pos ⟨h.1, hl⟩]
theorem pol_list {T : Type} (tk : T → List ByteArray) (upd : Pp → T → Pp) {wq wb : Bool} : ∀ (l : List T) (f : Nat) (r : Rs) (p : Pp) (rest : List ByteArray), (∀ x, tk x ≠ []) → (∀ x ∈ l, ∀ (r : Rs) (p : Pp) (rest : List ByteArray), Rem L r (tk x ++ rest) → ∃ r', stepF L n ⟨r, p, wq, wb⟩ = ⟨r', upd p x, wq, wb⟩ ∧ Rem L r' rest) → l.length ≤ f → Rem L r (l.flatMap tk ++ rest) →
    ∃ r', polL L n f ⟨r, p, wq, wb⟩ = polL L n (f - l.length) ⟨r', l.foldl upd p, wq, wb⟩ ∧ Rem L r' rest
  | [], f, r, p, rest, _, _, _, h => ⟨r, rfl, h⟩
  | x :: l, 0, r, p, rest, _, _, hf, _ => absurd hf (by simp)
  | x :: l, f + 1, r, p, rest, hn, hs, hf, h => by
    rw [List.flatMap_cons, List.append_assoc] at h
    obtain ⟨r1, h1, h2⟩ := hs x (by simp) r p _ h
    obtain ⟨r', h3, h4⟩ := pol_list tk upd l f r1 (upd p x) rest hn (fun y hy => hs y (by simp [hy])) (by simp at hf; omega) h2
    refine ⟨r', ?_, h4⟩
    have hgo : polL L n (f + 1) ⟨r, p, wq, wb⟩ = polL L n f (stepF L n ⟨r, p, wq, wb⟩) := by
      cases ht : tk x with
      | nil => exact absurd ht (hn x)
      | cons t ts =>
        rw [ht] at h
        exact pol_go (st := ⟨r, p, wq, wb⟩) h
    rw [hgo, h1, h3, List.foldl_cons, List.length_cons, Nat.add_sub_add_right]
theorem flat_len {T : Type} (tk : T → List ByteArray) (hn : ∀ x, tk x ≠ []) : ∀ l : List T, l.length ≤ (l.flatMap tk).length
  | [] => Nat.le_refl _
  | x :: l => by
    have := flat_len tk hn l
    have h0 : 0 < (tk x).length := List.length_pos_iff.2 (hn x)
    rw [List.flatMap_cons, List.length_append, List.length_cons]
    omega
theorem fold_prin : ∀ (l : List ByteArray) (p : Pp), l.foldl (fun p x => { p with prin := p.prin ++ [x] }) p = { p with prin := p.prin ++ l }
  | [], p => by simp
  | x :: l, p => by rw [List.foldl_cons, fold_prin l]; simp
theorem fold_preds : ∀ (l : List Prd) (p : Pp), l.foldl (fun p x => { p with preds := p.preds ++ [x] }) p = { p with preds := p.preds ++ l }
  | [], p => by simp
  | x :: l, p => by rw [List.foldl_cons, fold_preds l]; simp
def nrmC (c : Clr) : Clr := ⟨c.who, c.reads.isEmpty, c.reads⟩
def nrmR (r : Rul) : Rul := ⟨r.head, r.body.isEmpty, r.body⟩
def nrmG (g : Grt) : Grt := ⟨g.tw, g.head, g.body.isEmpty, g.body⟩
theorem fold_clears : ∀ (l : List Clr) (p : Pp), l.foldl (fun p c => { p with clears := p.clears ++ [nrmC c] }) p = { p with clears := p.clears ++ l.map nrmC }
  | [], p => by simp
  | x :: l, p => by rw [List.foldl_cons, fold_clears l]; simp
theorem fold_rules : ∀ (l : List Rul) (p : Pp), l.foldl (fun p c => { p with rules := p.rules ++ [nrmR c] }) p = { p with rules := p.rules ++ l.map nrmR }
  | [], p => by simp
  | x :: l, p => by rw [List.foldl_cons, fold_rules l]; simp
theorem fold_grants : ∀ (l : List Grt) (p : Pp), l.foldl (fun p c => { p with grants := p.grants ++ [nrmG c] }) p = { p with grants := p.grants ++ l.map nrmG }
  | [], p => by simp
  | x :: l, p => by rw [List.foldl_cons, fold_grants l]; simp
def ppOf (p : Pol) : Pp := ⟨p.prin, p.preds, p.clears.map nrmC, p.quota, p.budget, p.rules.map nrmR, p.grants.map nrmG⟩
theorem pol_law {p : Pol} (h : plainP p = true) (hL : L.map Tk.text = polTk p) : (polS L n).p = ppOf p ∧ (polS L n).r.e = 0 := by
  obtain ⟨h0, h1, h2, h3, h4, h5⟩ := plain_parts h
  obtain ⟨q1, q2, q3, q4⟩ := plain0_parts h0
  have hn1 : ∀ x, prinTk x ≠ [] := fun x => by simp [prinTk]
  have hn2 : ∀ x, predTk x ≠ [] := fun x => by simp [predTk]
  have hn3 : ∀ x, clearTk x ≠ [] := fun x => by simp [clearTk]
  have hn4 : ∀ x, ruleTk x ≠ [] := fun x => by simp [ruleTk, atomTk]
  have hn5 : ∀ x, grantTk x ≠ [] := fun x => by simp [grantTk]
  have hlen := congrArg List.length hL
  have f1 := flat_len prinTk hn1 p.prin
  have f2 := flat_len predTk hn2 p.preds
  have f3 := flat_len clearTk hn3 p.clears
  have f4 := flat_len ruleTk hn4 p.rules
  have f5 := flat_len grantTk hn5 p.grants
  have f6 : (quotaTk p.quota ++ budgetTk p.budget).length = 6 := rfl
  unfold polTk at hlen hL
  simp only [List.length_append, List.length_map] at hlen f6
  have hr : Rem L ⟨0, 0, 0⟩ (p.prin.flatMap prinTk ++ (p.preds.flatMap predTk ++ (p.clears.flatMap clearTk ++ ((quotaTk p.quota ++ budgetTk p.budget) ++ (p.rules.flatMap ruleTk ++ p.grants.flatMap grantTk))))) := ⟨rfl, hL⟩
  obtain ⟨C, hC⟩ : ∃ C, C = p.clears.map nrmC := ⟨_, rfl⟩
  obtain ⟨r1, a1, b1⟩ := pol_list (n := n) (wq := false) (wb := false) prinTk (fun p x => { p with prin := p.prin ++ [x] }) p.prin (L.length + 1) ⟨0, 0, 0⟩ pp0 _ hn1 (fun x hx r p rest hr => step_prin (h1 x hx) p _ _ hr) (by omega) hr
  rw [fold_prin] at a1
  have a1 : polL L n (L.length + 1) ⟨⟨0, 0, 0⟩, pp0, false, false⟩ = polL L n (L.length + 1 - p.prin.length) ⟨r1, ⟨p.prin, [], [], 0, 0, [], []⟩, false, false⟩ := a1
  obtain ⟨r2, a2, b2⟩ := pol_list (n := n) (wq := false) (wb := false) predTk (fun p x => { p with preds := p.preds ++ [x] }) p.preds (L.length + 1 - p.prin.length) r1 ⟨p.prin, [], [], 0, 0, [], []⟩ _ hn2 (fun x hx r p rest hr => step_pred (h2 x hx) p _ _ hr) (by omega) b1
  rw [fold_preds] at a2
  have a2 : polL L n (L.length + 1 - p.prin.length) ⟨r1, ⟨p.prin, [], [], 0, 0, [], []⟩, false, false⟩ = polL L n (L.length + 1 - p.prin.length - p.preds.length) ⟨r2, ⟨p.prin, p.preds, [], 0, 0, [], []⟩, false, false⟩ := a2
  obtain ⟨r3, a3, b3⟩ := pol_list (n := n) (wq := false) (wb := false) clearTk (fun p x => { p with clears := p.clears ++ [nrmC x] }) p.clears (L.length + 1 - p.prin.length - p.preds.length) r2 ⟨p.prin, p.preds, [], 0, 0, [], []⟩ _ hn3 (fun x hx r p rest hr => step_clear (h3 x hx) p _ _ hr) (by omega) b2
  rw [fold_clears, ← hC] at a3
  have a3 : polL L n (L.length + 1 - p.prin.length - p.preds.length) ⟨r2, ⟨p.prin, p.preds, [], 0, 0, [], []⟩, false, false⟩ = polL L n (L.length + 1 - p.prin.length - p.preds.length - p.clears.length) ⟨r3, ⟨p.prin, p.preds, C, 0, 0, [], []⟩, false, false⟩ := a3
  rw [List.append_assoc] at b3
  obtain ⟨r4, a4, b4⟩ := step_quota (n := n) q1 q2 ⟨p.prin, p.preds, C, 0, 0, [], []⟩ false b3
  obtain ⟨r5, a5, b5⟩ := step_budget (n := n) q3 q4 ⟨p.prin, p.preds, C, p.quota, 0, [], []⟩ true b4
  obtain ⟨f, hf⟩ : ∃ f, L.length + 1 - p.prin.length - p.preds.length - p.clears.length = f + 1 + 1 := ⟨L.length + 1 - p.prin.length - p.preds.length - p.clears.length - 2, by omega⟩
  have g1 := pol_go (n := n) (f := f + 1) (st := ⟨r3, ⟨p.prin, p.preds, C, 0, 0, [], []⟩, false, false⟩) b3
  rw [a4] at g1
  have g2 := pol_go (n := n) (f := f) (st := ⟨r4, ⟨p.prin, p.preds, C, p.quota, 0, [], []⟩, true, false⟩) b4
  rw [a5] at g2
  obtain ⟨r6, a6, b6⟩ := pol_list (n := n) (wq := true) (wb := true) ruleTk (fun p x => { p with rules := p.rules ++ [nrmR x] }) p.rules f r5 ⟨p.prin, p.preds, C, p.quota, p.budget, [], []⟩ _ hn4 (fun x hx r p rest hr => step_rule (h4 x hx) p _ _ hr) (by omega) b5
  rw [fold_rules] at a6
  have a6 : polL L n f ⟨r5, ⟨p.prin, p.preds, C, p.quota, p.budget, [], []⟩, true, true⟩ = polL L n (f - p.rules.length) ⟨r6, ⟨p.prin, p.preds, C, p.quota, p.budget, p.rules.map nrmR, []⟩, true, true⟩ := a6
  have b6' : Rem L r6 (p.grants.flatMap grantTk ++ []) := by rw [List.append_nil]; exact b6
  obtain ⟨r7, a7, b7⟩ := pol_list (n := n) (wq := true) (wb := true) grantTk (fun p x => { p with grants := p.grants ++ [nrmG x] }) p.grants (f - p.rules.length) r6 ⟨p.prin, p.preds, C, p.quota, p.budget, p.rules.map nrmR, []⟩ _ hn5 (fun x hx r p rest hr => step_grant (h5 x hx) p _ _ hr) (by omega) b6'
  rw [fold_grants] at a7
  have a7 : polL L n (f - p.rules.length) ⟨r6, ⟨p.prin, p.preds, C, p.quota, p.budget, p.rules.map nrmR, []⟩, true, true⟩ = polL L n (f - p.rules.length - p.grants.length) ⟨r7, ⟨p.prin, p.preds, C, p.quota, p.budget, p.rules.map nrmR, p.grants.map nrmG⟩, true, true⟩ := a7
  have hend := polL_end L n (f - p.rules.length - p.grants.length) ⟨r7, ⟨p.prin, p.preds, C, p.quota, p.budget, p.rules.map nrmR, p.grants.map nrmG⟩, true, true⟩ (fun hc => by
    have h2 := b7.2
    rw [List.map_eq_nil_iff, List.drop_eq_nil_iff] at h2
    have := hc.2
    dsimp only at this
    omega)
  have hS : polS L n = ⟨r7, ⟨p.prin, p.preds, C, p.quota, p.budget, p.rules.map nrmR, p.grants.map nrmG⟩, true, true⟩ := by
    unfold polS
    rw [a1, a2, a3, hf]
    exact g1.trans (g2.trans (a6.trans (a7.trans hend)))
  rw [hS, hC]
  exact ⟨rfl, b7.1⟩
theorem back_law {p : Pol} (h : plainP p = true) (hz : (pPolicy p).size ≤ 65536) : polParse (pPolicy p) = (polOf (ppOf p), 0, 0) := by
  obtain ⟨h1, h2⟩ := (ls_policy h).toks hz
  obtain ⟨h3, h4⟩ := pol_law (n := (pPolicy p).size) h h2
  unfold polParse
  rw [if_neg (fun hc => hc h1), if_neg (fun hc => hc h4), h3]
theorem goal_law {a : Atm} (h : pcheck3 a = 0) (hz : (ptext a ++ tQ).size ≤ 65536) : goalParse (ptext a ++ tQ) = (a, 0, 0) := by
  obtain ⟨h1, h2⟩ := ((lx_text h).app sh_q ls_q).toks hz
  unfold goalParse
  rw [if_neg (fun h => h h1)]
  obtain ⟨n, hn⟩ : ∃ n : Int, n = ((ptext a ++ tQ).size : Nat) := ⟨_, rfl⟩
  rw [← hn]
  generalize (toksAll (ptext a ++ tQ)).1 = L at *
  have hr : Rem L ⟨0, 0, 0⟩ (atomTk a ++ [kQ]) := ⟨rfl, h2⟩
  obtain ⟨r', h3, h4⟩ := atom_law (n := n) h (fun x q e => by
    injection e with e _
    rw [← e]
    decide) hr
  have h5 := h4.must (n := n)
  have hg : goalR L n = mustT L n r' kQ := by
    unfold goalR
    rw [h3]
    dsimp only
    rw [if_neg]
    intro hc
    have := h5.2
    rw [List.map_eq_nil_iff, List.drop_eq_nil_iff] at this
    omega
  rw [hg, if_neg (fun hc => hc h5.1), h3]
end Go.Proofs.YtaeehadibckcjaaDoor
namespace Go.Proofs.YtaeehadibckcjaaDoor
open Go.RowKit Go.Vs Go.Vs.Ab
set_option maxRecDepth 100000
set_option maxHeartbeats 4000000
def prT (x : Prd) : ByteArray × Int := (x.name, x.ar)
theorem held_pd : Tryd.prog.stoodInHeld 69 = false := by kernel_rfl
theorem pv_eq_pd {d : Nat} (a b : Prd) : pureVal Tryd.prog (Op.equalIn (d + 2) 69 (.agg #[.string a.name, .int .i64 a.ar]) (.agg #[.string b.name, .int .i64 b.ar])) = some (decide (prT a = prT b)) := by
  unfold Op.equalIn
  rw [pv_bind, pv_under Tryd.underlying69]
  have p0 : ∀ s : Prd, pureVal Tryd.prog (part 9 #[.string s.name, .int .i64 s.ar] 0) = some (.string s.name) := fun s => pv_part1 Tryd.underlying9 rfl rfl
  have p1 : ∀ s : Prd, pureVal Tryd.prog (part 3 #[.string s.name, .int .i64 s.ar] 1) = some (.int .i64 s.ar) := fun s => pv_part1 Tryd.underlying3 rfl rfl
  have e0 := pv_eq_str (d := d) a.name b.name
  have e1 := pv_eq_int (d := d) a.ar b.ar
  have q0 := p0 a
  have q1 := p0 b
  have q2 := p1 a
  have q3 := p1 b
  have hd : decide (prT a = prT b) = (decide (a.name = b.name) && decide (a.ar = b.ar)) := by
    simp only [prT, Prod.mk.injEq, ← Bool.decide_and]
  rw [hd]
  generalize decide (a.name = b.name) = c0 at *
  generalize decide (a.ar = b.ar) = c1 at *
  simp only [Option.bind_some, pv_bind, pv_prog, held_pd, Bool.false_eq_true, if_false, List.forIn_toArray, List.forIn_cons, List.forIn_nil, pv_pure, pv_if, ne_eq, String.reduceEq, not_false_eq_true, if_true, q0, q1, q2, q3, e0, e1]
  cases c0 <;> cases c1 <;> simp [pv_pure, pv_bind, pv_if, q2, q3, e1]
theorem bin_nePd (x y : Operand) (s t : Prd) : pureVal Tryd.prog (do eqGuard .neq 69 x y (.agg #[.string s.name, .int .i64 s.ar]) (.agg #[.string t.name, .int .i64 t.ar]); binOp .neq 69 (.agg #[.string s.name, .int .i64 s.ar]) (.agg #[.string t.name, .int .i64 t.ar])) = some (.bool (!decide (prT s = prT t))) := by
  have hg : Tryd.prog.eqGuardType Tryd.prog.depth 69 = false := by kernel_rfl
  have h := pv_eq_pd (d := 9998) s t
  have g : pureVal Tryd.prog (eqGuard .neq 69 x y (.agg #[.string s.name, .int .i64 s.ar]) (.agg #[.string t.name, .int .i64 t.ar])) = some () := by
    simp [eqGuard, pv_bind, pv_prog, pv_pure, hg]
  rw [pv_bind, g, Option.bind_some]
  have e : binOp .neq 69 (.agg #[.string s.name, .int .i64 s.ar]) (.agg #[.string t.name, .int .i64 t.ar]) = (do pure (Value.bool (!(← Op.equal 69 (.agg #[.string s.name, .int .i64 s.ar]) (.agg #[.string t.name, .int .i64 t.ar]))))) := rfl
  rw [e, pv_bind]
  have h' : pureVal Tryd.prog (Op.equal 69 (.agg #[.string s.name, .int .i64 s.ar]) (.agg #[.string t.name, .int .i64 t.ar])) = some (decide (prT s = prT t)) := h
  rw [h']
  rfl
theorem map_take_next {A B : Type} (f : A → B) {a b : List A} {k : Nat} (ha : k < a.length) (hb : k < b.length) (h : (a.map f).take k = (b.map f).take k) (e : f a[k] = f b[k]) : (a.map f).take (k + 1) = (b.map f).take (k + 1) := by
  rw [List.take_succ_eq_append_getElem (by rw [List.length_map]; exact ha), List.take_succ_eq_append_getElem (by rw [List.length_map]; exact hb), h]
  simp [e]
theorem map_get_eq {A B : Type} {f : A → B} {a b : List A} (h : a.map f = b.map f) {k : Nat} (ha : k < a.length) (hb : k < b.length) : f a[k] = f b[k] := by
  have : (a.map f)[k]? = (b.map f)[k]? := by rw [h]
  rw [List.getElem?_map, List.getElem?_map, List.getElem?_eq_getElem ha, List.getElem?_eq_getElem hb] at this
  simpa using this
theorem map_len_eq {A B : Type} {f : A → B} {a b : List A} (h : a.map f = b.map f) : a.length = b.length := by
  have := congrArg List.length h
  simpa using this
theorem map_all_eq {A B : Type} {f : A → B} {a b : List A} (hl : a.length = b.length) (h : (a.map f).take a.length = (b.map f).take a.length) : a.map f = b.map f := by
  rw [List.take_of_length_le (by rw [List.length_map]; exact Nat.le_refl _), hl, List.take_of_length_le (by rw [List.length_map]; exact Nat.le_refl _)] at h
  exact h
theorem idxPr {ex : Bool} {l : List Prd} {k : Nat} (h : k < l.length) : aIndexAddr Tryd.prog 24 (slR prC ex l) (.c (.v (.int .i64 (k : Int)))) = some (.cptr (prC l[k] ++ (l.drop (k + 1)).flatMap prC)) :=
  idx_R prC 2 (fun _ => rfl) Tryd.underlying24 sz69 (by decide) h
theorem samePd_does (a b : List Prd) (ex ex2 : Bool) (hl : a.length ≤ 1000000) : Does Tryd.prog 40 [slR prC ex a, slR prC ex2 b] (fun m => (bA (decide (a.map prT = b.map prT)), m)) := by
  cases h1 : decide ((a.length : Int) = (b.length : Int)) with
  | false =>
    have hr : decide (a.map prT = b.map prT) = false := decide_eq_false fun e => of_decide_eq_false h1 (by rw [map_len_eq e])
    refine does_of' Tryd.func40 rfl (by kernel_rfl) rfl Tryd.ntmps40 rfl rfl fun Q hQ => ?_
    repeat (first | refine tr_seq_k fun _ _ => ?_ | (refine tr_region ?_; simp only [go_sem, reduceCtorEq, Nat.reduceEqDiff, Nat.reduceLT, Nat.reduceLeDiff, Nat.reduceAdd, Nat.reduceMul, Nat.reduceSub, Nat.reduceBEq, ↓reduceIte, h1]) | refine k_of (by assumption) ?_)
    refine tr_cond rfl (fun ht => ?_) (fun hf => ?_)
    · repeat (first | refine tr_seq_k fun _ _ => ?_ | (refine tr_region ?_; simp only [go_sem, reduceCtorEq, Nat.reduceEqDiff, Nat.reduceLT, Nat.reduceLeDiff, Nat.reduceAdd, Nat.reduceMul, Nat.reduceSub, Nat.reduceBEq, ↓reduceIte]) | refine k_of (by assumption) ?_ | (refine tr_ret ?_; try simp only [ex_seq_ret, ex_block_ret]))
      refine (hQ _ _ [bA false] ?_ (fun m => ?_)).2 <;> simp only [go_sem, reduceCtorEq, Nat.reduceEqDiff, Nat.reduceLT, Nat.reduceLeDiff, Nat.reduceAdd, Nat.reduceMul, Nat.reduceSub, Nat.reduceBEq, ↓reduceIte, Tryd.f40, hr]
    · cases hf
  | true =>
    have hlen : a.length = b.length := by
      have := of_decide_eq_true h1
      omega
    refine does_of' Tryd.func40 rfl (by kernel_rfl) rfl Tryd.ntmps40 rfl rfl fun Q hQ => ?_
    repeat (first | refine tr_seq_k fun _ _ => ?_ | (refine tr_region ?_; simp only [go_sem, reduceCtorEq, Nat.reduceEqDiff, Nat.reduceLT, Nat.reduceLeDiff, Nat.reduceAdd, Nat.reduceMul, Nat.reduceSub, Nat.reduceBEq, ↓reduceIte, h1]) | refine k_of (by assumption) ?_)
    refine tr_cond rfl (fun ht => ?_) (fun hf => ?_)
    · cases ht
    · repeat (first | refine tr_seq_k fun _ _ => ?_ | (refine tr_region ?_; simp only [go_sem, reduceCtorEq, Nat.reduceEqDiff, Nat.reduceLT, Nat.reduceLeDiff, Nat.reduceAdd, Nat.reduceMul, Nat.reduceSub, Nat.reduceBEq, ↓reduceIte]) | refine k_of (by assumption) ?_ | refine tr_block ?_ | (refine tr_skip ?_; try simp only [ex_seq, ex_block]))
      refine tr_loop_k (σ := Nat) (fun k => [(0, slR prC ex a), (1, slR prC ex2 b), (5, iA k)]) (fun _ => ⟨[], []⟩)
        (fun k => k ≤ a.length ∧ (a.map prT).take k = (b.map prT).take k) (fun k => a.length - k) 0 ⟨Nat.zero_le _, rfl⟩ ⟨rfl, rfl, rfl, trivial⟩ rfl ?_
      rintro k ⟨hk, hp⟩ K hK
      by_cases hlt : k < a.length
      · have d1 : decide ((k : Int) < (a.length : Nat)) = true := decide_eq_true (by omega)
        have hlb : k < b.length := by omega
        have ws := wrap_succ (show k ≤ 1000000000 by omega)
        have nB := fun x y => bin_nePd x y a[k] b[k]
        simp only [pv_bind] at nB
        have i1 := idxPr (ex := ex) hlt
        have i2 := idxPr (ex := ex2) hlb
        cases h2 : decide (prT a[k] = prT b[k]) with
        | false =>
          rw [h2] at nB
          have hr : decide (a.map prT = b.map prT) = false := decide_eq_false fun e => of_decide_eq_false h2 (map_get_eq e hlt hlb)
          repeat (first | refine tr_seq_k fun _ _ => ?_ | (refine tr_region ?_; simp only [go_sem, reduceCtorEq, Nat.reduceEqDiff, Nat.reduceLT, Nat.reduceLeDiff, Nat.reduceAdd, Nat.reduceMul, Nat.reduceSub, Nat.reduceBEq, ↓reduceIte, d1]) | refine k_of (by assumption) ?_)
          refine tr_cond rfl (fun ht => ?_) (fun hf => ?_)
          · repeat (first | refine tr_seq_k fun _ _ => ?_ | (refine tr_drawC (id := 6) follows 10000 (by kernel_rfl) ?_; simp only [go_sem, reduceCtorEq, Nat.reduceEqDiff, Nat.reduceLT, Nat.reduceLeDiff, Nat.reduceAdd, Nat.reduceMul, Nat.reduceSub, Nat.reduceBEq, ↓reduceIte, i1, i2, nB]) | refine k_of (by assumption) ?_ | refine tr_block ?_ | (refine tr_skip ?_; try simp only [ex_seq, ex_block]))
            refine tr_cond rfl (fun ht => ?_) (fun hf => ?_)
            · repeat (first | refine tr_seq_k fun _ _ => ?_ | (refine tr_region ?_; simp only [go_sem, reduceCtorEq, Nat.reduceEqDiff, Nat.reduceLT, Nat.reduceLeDiff, Nat.reduceAdd, Nat.reduceMul, Nat.reduceSub, Nat.reduceBEq, ↓reduceIte]) | refine k_of (by assumption) ?_ | (refine tr_ret ?_; try simp only [ex_seq_ret, ex_block_ret]))
              refine (hQ _ _ [bA false] ?_ (fun m => ?_)).2 <;> simp only [go_sem, reduceCtorEq, Nat.reduceEqDiff, Nat.reduceLT, Nat.reduceLeDiff, Nat.reduceAdd, Nat.reduceMul, Nat.reduceSub, Nat.reduceBEq, ↓reduceIte, Tryd.f40, hr]
            · cases hf
          · cases hf
        | true =>
          rw [h2] at nB
          repeat (first | refine tr_seq_k fun _ _ => ?_ | (refine tr_region ?_; simp only [go_sem, reduceCtorEq, Nat.reduceEqDiff, Nat.reduceLT, Nat.reduceLeDiff, Nat.reduceAdd, Nat.reduceMul, Nat.reduceSub, Nat.reduceBEq, ↓reduceIte, d1]) | refine k_of (by assumption) ?_)
          refine tr_cond rfl (fun ht => ?_) (fun hf => ?_)
          · repeat (first | refine tr_seq_k fun _ _ => ?_ | (refine tr_drawC (id := 6) follows 10000 (by kernel_rfl) ?_; simp only [go_sem, reduceCtorEq, Nat.reduceEqDiff, Nat.reduceLT, Nat.reduceLeDiff, Nat.reduceAdd, Nat.reduceMul, Nat.reduceSub, Nat.reduceBEq, ↓reduceIte, i1, i2, nB]) | refine k_of (by assumption) ?_ | refine tr_block ?_ | (refine tr_skip ?_; try simp only [ex_seq, ex_block]))
            refine tr_cond rfl (fun ht => ?_) (fun hf => ?_)
            · cases ht
            · repeat (first | (refine tr_region ?_; simp only [go_sem, reduceCtorEq, Nat.reduceEqDiff, Nat.reduceLT, Nat.reduceLeDiff, Nat.reduceAdd, Nat.reduceMul, Nat.reduceSub, Nat.reduceBEq, ↓reduceIte, ws]) | refine k_of (by assumption) ?_ | (refine tr_skip ?_; try simp only [ex_seq, ex_block]))
              exact hK (k + 1) _ _ ⟨hlt, map_take_next prT hlt hlb hp (of_decide_eq_true h2)⟩ ⟨⟨rfl, rfl, rfl, trivial⟩, Keep.refl _, rfl, rfl, Nat.le_refl _, Nat.le_refl _⟩ (by omega)
          · cases hf
      · have d1 : decide ((k : Int) < (a.length : Nat)) = false := decide_eq_false (by omega)
        have hkl : k = a.length := by omega
        have hr : decide (a.map prT = b.map prT) = true := decide_eq_true (map_all_eq hlen (by rw [hkl] at hp; exact hp))
        repeat (first | refine tr_seq_k fun _ _ => ?_ | (refine tr_region ?_; simp only [go_sem, reduceCtorEq, Nat.reduceEqDiff, Nat.reduceLT, Nat.reduceLeDiff, Nat.reduceAdd, Nat.reduceMul, Nat.reduceSub, Nat.reduceBEq, ↓reduceIte, d1]) | refine k_of (by assumption) ?_)
        refine tr_cond rfl (fun ht => ?_) (fun hf => ?_)
        · cases ht
        · repeat (first | refine tr_seq_k fun _ _ => ?_ | (refine tr_region ?_; simp only [go_sem, reduceCtorEq, Nat.reduceEqDiff, Nat.reduceLT, Nat.reduceLeDiff, Nat.reduceAdd, Nat.reduceMul, Nat.reduceSub, Nat.reduceBEq, ↓reduceIte]) | refine k_of (by assumption) ?_ | (refine tr_exit ?_; try simp only [ex_seq_exit, ex_block_exit, Nat.reduceEqDiff, if_true, if_false, ex_seq, ex_block, reduceCtorEq, ↓reduceIte]) | (refine tr_ret ?_; try simp only [ex_seq_ret, ex_block_ret]))
          refine (hQ _ _ [bA true] ?_ (fun m => ?_)).2 <;> simp only [go_sem, reduceCtorEq, Nat.reduceEqDiff, Nat.reduceLT, Nat.reduceLeDiff, Nat.reduceAdd, Nat.reduceMul, Nat.reduceSub, Nat.reduceBEq, ↓reduceIte, Tryd.f40, hr]
theorem sameRule_does (a b : Atm) (x y : List Atm) (ex ex2 : Bool) (hl : x.length ≤ 1000000) : Does Tryd.prog 41 [atA a, atA b, slT ex x, slT ex2 y] (fun m => (bA (decide ((a, x) = (b, y))), m)) := by
  have e := fun u v => bin_eqA' u v a b
  simp only [pv_bind] at e
  have cA := sameA_does x y ex ex2 hl
  have hd : decide ((a, x) = (b, y)) = (decide (a = b) && decide (x = y)) := by
    simp only [Prod.mk.injEq, ← Bool.decide_and]
  rw [hd]
  cases h1 : decide (a = b) with
  | false =>
    rw [h1] at e
    refine does_of' Tryd.func41 rfl (by kernel_rfl) rfl Tryd.ntmps41 rfl rfl fun Q hQ => ?_
    repeat (first | refine tr_seq_k fun _ _ => ?_ | (refine tr_region ?_; simp only [go_sem, reduceCtorEq, Nat.reduceEqDiff, Nat.reduceLT, Nat.reduceLeDiff, Nat.reduceAdd, Nat.reduceMul, Nat.reduceSub, Nat.reduceBEq, ↓reduceIte, e]) | refine k_of (by assumption) ?_ | (refine tr_ret ?_; try simp only [ex_seq_ret, ex_block_ret]))
    refine (hQ _ _ [bA false] ?_ (fun m => rfl)).2 <;> simp only [go_sem, reduceCtorEq, Nat.reduceEqDiff, Nat.reduceLT, Nat.reduceLeDiff, Nat.reduceAdd, Nat.reduceMul, Nat.reduceSub, Nat.reduceBEq, ↓reduceIte, Tryd.f41]
  | true =>
    rw [h1] at e
    cases h2 : decide (x = y)
    all_goals
      rw [h2] at cA
      refine does_of' Tryd.func41 rfl (by kernel_rfl) rfl Tryd.ntmps41 rfl rfl fun Q hQ => ?_
      repeat (first | refine tr_seq_k fun _ _ => ?_ | (refine tr_region ?_; simp only [go_sem, reduceCtorEq, Nat.reduceEqDiff, Nat.reduceLT, Nat.reduceLeDiff, Nat.reduceAdd, Nat.reduceMul, Nat.reduceSub, Nat.reduceBEq, ↓reduceIte, e]) | (refine call_of (cA) ?_ ?_; (first | rfl | simp only [go_sem, reduceCtorEq, Nat.reduceEqDiff, Nat.reduceLT, Nat.reduceLeDiff, Nat.reduceAdd, Nat.reduceMul, Nat.reduceSub, Nat.reduceBEq, ↓reduceIte, e, shut_col]); simp only [go_sem, reduceCtorEq, Nat.reduceEqDiff, Nat.reduceLT, Nat.reduceLeDiff, Nat.reduceAdd, Nat.reduceMul, Nat.reduceSub, Nat.reduceBEq, ↓reduceIte, e]) | refine k_of (by assumption) ?_ | (refine tr_ret ?_; try simp only [ex_seq_ret, ex_block_ret]))
      refine (hQ _ _ [bA _] ?_ (fun m => rfl)).2 <;> simp only [go_sem, reduceCtorEq, Nat.reduceEqDiff, Nat.reduceLT, Nat.reduceLeDiff, Nat.reduceAdd, Nat.reduceMul, Nat.reduceSub, Nat.reduceBEq, ↓reduceIte, Tryd.f41]
def clT (c : Clr) : ByteArray × List ByteArray := (c.who, c.reads)
def ruT (r : Rul) : Atm × List Atm := (r.head, r.body)
def grT (g : Grt) : ByteArray × (Atm × List Atm) := (g.tw, (g.head, g.body))
structure Dat where
  prin : List ByteArray
  preds : List (ByteArray × Int)
  quota : Int
  budget : Int
  clears : List (ByteArray × List ByteArray)
  rules : List (Atm × List Atm)
  grants : List (ByteArray × (Atm × List Atm))
  deriving DecidableEq
def dat (p : Pol) : Dat := ⟨p.prin, p.preds.map prT, p.quota, p.budget, p.clears.map clT, p.rules.map ruT, p.grants.map grT⟩
theorem dat_eq {a b : Pol} : dat a = dat b ↔ a.prin = b.prin ∧ a.preds.map prT = b.preds.map prT ∧ a.quota = b.quota ∧ a.budget = b.budget ∧ a.clears.map clT = b.clears.map clT ∧ a.rules.map ruT = b.rules.map ruT ∧ a.grants.map grT = b.grants.map grT := by
  unfold dat
  simp only [Dat.mk.injEq]
structure PolLen (p : Pol) : Prop where
  prin : p.prin.length ≤ 1000000
  preds : p.preds.length ≤ 1000000
  clears : p.clears.length ≤ 1000000 ∧ ∀ c ∈ p.clears, c.reads.length ≤ 1000000
  rules : p.rules.length ≤ 1000000 ∧ ∀ r ∈ p.rules, r.body.length ≤ 1000000
  grants : p.grants.length ≤ 1000000 ∧ ∀ g ∈ p.grants, g.body.length ≤ 1000000
theorem samePol_does (a b : Pol) (hl : PolLen a) : Does Tryd.prog 11 [poA a, poA b] (fun m => (bA (decide (dat a = dat b)), m)) := by
  have cS := sameS_does a.prin b.prin a.e1 b.e1 hl.prin
  have cP := samePd_does a.preds b.preds a.e2 b.e2 hl.preds
  cases h1 : decide (a.prin = b.prin) with
  | false =>
    rw [h1] at cS
    have hr : decide (dat a = dat b) = false := decide_eq_false (fun e => of_decide_eq_false h1 (dat_eq.1 e).1)
    refine does_of' Tryd.func11 rfl (by kernel_rfl) rfl Tryd.ntmps11 rfl rfl fun Q hQ => ?_
    repeat (first | refine tr_seq_k fun _ _ => ?_ | (refine tr_region ?_; simp only [go_sem, reduceCtorEq, Nat.reduceEqDiff, Nat.reduceLT, Nat.reduceLeDiff, Nat.reduceAdd, Nat.reduceMul, Nat.reduceSub, Nat.reduceBEq, ↓reduceIte]) | (refine call_of (cS) ?_ ?_; (first | rfl | simp only [go_sem, reduceCtorEq, Nat.reduceEqDiff, Nat.reduceLT, Nat.reduceLeDiff, Nat.reduceAdd, Nat.reduceMul, Nat.reduceSub, Nat.reduceBEq, ↓reduceIte, shut_col]); simp only [go_sem, reduceCtorEq, Nat.reduceEqDiff, Nat.reduceLT, Nat.reduceLeDiff, Nat.reduceAdd, Nat.reduceMul, Nat.reduceSub, Nat.reduceBEq, ↓reduceIte]) | refine k_of (by assumption) ?_)
    refine tr_cond rfl (fun ht => ?_) (fun hf => ?_)
    · repeat (first | refine tr_seq_k fun _ _ => ?_ | (refine tr_region ?_; simp only [go_sem, reduceCtorEq, Nat.reduceEqDiff, Nat.reduceLT, Nat.reduceLeDiff, Nat.reduceAdd, Nat.reduceMul, Nat.reduceSub, Nat.reduceBEq, ↓reduceIte]) | refine k_of (by assumption) ?_ | (refine tr_ret ?_; try simp only [ex_seq_ret, ex_block_ret]))
      refine (hQ _ _ [bA false] ?_ (fun m => ?_)).2 <;> simp only [go_sem, reduceCtorEq, Nat.reduceEqDiff, Nat.reduceLT, Nat.reduceLeDiff, Nat.reduceAdd, Nat.reduceMul, Nat.reduceSub, Nat.reduceBEq, ↓reduceIte, Tryd.f11, hr]
    · cases hf
  | true =>
    rw [h1] at cS
    cases h2 : decide (a.preds.map prT = b.preds.map prT) with
    | false =>
      rw [h2] at cP
      have hr : decide (dat a = dat b) = false := decide_eq_false (fun e => of_decide_eq_false h2 (dat_eq.1 e).2.1)
      refine does_of' Tryd.func11 rfl (by kernel_rfl) rfl Tryd.ntmps11 rfl rfl fun Q hQ => ?_
      repeat (first | refine tr_seq_k fun _ _ => ?_ | (refine tr_region ?_; simp only [go_sem, reduceCtorEq, Nat.reduceEqDiff, Nat.reduceLT, Nat.reduceLeDiff, Nat.reduceAdd, Nat.reduceMul, Nat.reduceSub, Nat.reduceBEq, ↓reduceIte]) | (refine call_of (cS) ?_ ?_; (first | rfl | simp only [go_sem, reduceCtorEq, Nat.reduceEqDiff, Nat.reduceLT, Nat.reduceLeDiff, Nat.reduceAdd, Nat.reduceMul, Nat.reduceSub, Nat.reduceBEq, ↓reduceIte, shut_col]); simp only [go_sem, reduceCtorEq, Nat.reduceEqDiff, Nat.reduceLT, Nat.reduceLeDiff, Nat.reduceAdd, Nat.reduceMul, Nat.reduceSub, Nat.reduceBEq, ↓reduceIte]) | (refine call_of (cP) ?_ ?_; (first | rfl | simp only [go_sem, reduceCtorEq, Nat.reduceEqDiff, Nat.reduceLT, Nat.reduceLeDiff, Nat.reduceAdd, Nat.reduceMul, Nat.reduceSub, Nat.reduceBEq, ↓reduceIte, shut_col]); simp only [go_sem, reduceCtorEq, Nat.reduceEqDiff, Nat.reduceLT, Nat.reduceLeDiff, Nat.reduceAdd, Nat.reduceMul, Nat.reduceSub, Nat.reduceBEq, ↓reduceIte]) | refine k_of (by assumption) ?_)
      refine tr_cond rfl (fun ht => ?_) (fun hf => ?_)
      · repeat (first | refine tr_seq_k fun _ _ => ?_ | (refine tr_region ?_; simp only [go_sem, reduceCtorEq, Nat.reduceEqDiff, Nat.reduceLT, Nat.reduceLeDiff, Nat.reduceAdd, Nat.reduceMul, Nat.reduceSub, Nat.reduceBEq, ↓reduceIte]) | refine k_of (by assumption) ?_ | (refine tr_ret ?_; try simp only [ex_seq_ret, ex_block_ret]))
        refine (hQ _ _ [bA false] ?_ (fun m => ?_)).2 <;> simp only [go_sem, reduceCtorEq, Nat.reduceEqDiff, Nat.reduceLT, Nat.reduceLeDiff, Nat.reduceAdd, Nat.reduceMul, Nat.reduceSub, Nat.reduceBEq, ↓reduceIte, Tryd.f11, hr]
      · cases hf
    | true =>
      rw [h2] at cP
      cases h3 : decide (a.quota = b.quota) with
      | false =>
        have hr : decide (dat a = dat b) = false := decide_eq_false (fun e => of_decide_eq_false h3 (dat_eq.1 e).2.2.1)
        refine does_of' Tryd.func11 rfl (by kernel_rfl) rfl Tryd.ntmps11 rfl rfl fun Q hQ => ?_
        repeat (first | refine tr_seq_k fun _ _ => ?_ | (refine tr_region ?_; simp only [go_sem, reduceCtorEq, Nat.reduceEqDiff, Nat.reduceLT, Nat.reduceLeDiff, Nat.reduceAdd, Nat.reduceMul, Nat.reduceSub, Nat.reduceBEq, ↓reduceIte, h3]) | (refine call_of (cS) ?_ ?_; (first | rfl | simp only [go_sem, reduceCtorEq, Nat.reduceEqDiff, Nat.reduceLT, Nat.reduceLeDiff, Nat.reduceAdd, Nat.reduceMul, Nat.reduceSub, Nat.reduceBEq, ↓reduceIte, h3, shut_col]); simp only [go_sem, reduceCtorEq, Nat.reduceEqDiff, Nat.reduceLT, Nat.reduceLeDiff, Nat.reduceAdd, Nat.reduceMul, Nat.reduceSub, Nat.reduceBEq, ↓reduceIte, h3]) | (refine call_of (cP) ?_ ?_; (first | rfl | simp only [go_sem, reduceCtorEq, Nat.reduceEqDiff, Nat.reduceLT, Nat.reduceLeDiff, Nat.reduceAdd, Nat.reduceMul, Nat.reduceSub, Nat.reduceBEq, ↓reduceIte, h3, shut_col]); simp only [go_sem, reduceCtorEq, Nat.reduceEqDiff, Nat.reduceLT, Nat.reduceLeDiff, Nat.reduceAdd, Nat.reduceMul, Nat.reduceSub, Nat.reduceBEq, ↓reduceIte, h3]) | refine k_of (by assumption) ?_)
        refine tr_cond rfl (fun ht => ?_) (fun hf => ?_)
        · repeat (first | refine tr_seq_k fun _ _ => ?_ | (refine tr_region ?_; simp only [go_sem, reduceCtorEq, Nat.reduceEqDiff, Nat.reduceLT, Nat.reduceLeDiff, Nat.reduceAdd, Nat.reduceMul, Nat.reduceSub, Nat.reduceBEq, ↓reduceIte]) | refine k_of (by assumption) ?_ | (refine tr_ret ?_; try simp only [ex_seq_ret, ex_block_ret]))
          refine (hQ _ _ [bA false] ?_ (fun m => ?_)).2 <;> simp only [go_sem, reduceCtorEq, Nat.reduceEqDiff, Nat.reduceLT, Nat.reduceLeDiff, Nat.reduceAdd, Nat.reduceMul, Nat.reduceSub, Nat.reduceBEq, ↓reduceIte, Tryd.f11, hr]
        · cases hf
      | true =>
        cases h4 : decide (a.budget = b.budget) with
        | false =>
          have hr : decide (dat a = dat b) = false := decide_eq_false (fun e => of_decide_eq_false h4 (dat_eq.1 e).2.2.2.1)
          refine does_of' Tryd.func11 rfl (by kernel_rfl) rfl Tryd.ntmps11 rfl rfl fun Q hQ => ?_
          repeat (first | refine tr_seq_k fun _ _ => ?_ | (refine tr_region ?_; simp only [go_sem, reduceCtorEq, Nat.reduceEqDiff, Nat.reduceLT, Nat.reduceLeDiff, Nat.reduceAdd, Nat.reduceMul, Nat.reduceSub, Nat.reduceBEq, ↓reduceIte, h3, h4]) | (refine call_of (cS) ?_ ?_; (first | rfl | simp only [go_sem, reduceCtorEq, Nat.reduceEqDiff, Nat.reduceLT, Nat.reduceLeDiff, Nat.reduceAdd, Nat.reduceMul, Nat.reduceSub, Nat.reduceBEq, ↓reduceIte, h3, h4, shut_col]); simp only [go_sem, reduceCtorEq, Nat.reduceEqDiff, Nat.reduceLT, Nat.reduceLeDiff, Nat.reduceAdd, Nat.reduceMul, Nat.reduceSub, Nat.reduceBEq, ↓reduceIte, h3, h4]) | (refine call_of (cP) ?_ ?_; (first | rfl | simp only [go_sem, reduceCtorEq, Nat.reduceEqDiff, Nat.reduceLT, Nat.reduceLeDiff, Nat.reduceAdd, Nat.reduceMul, Nat.reduceSub, Nat.reduceBEq, ↓reduceIte, h3, h4, shut_col]); simp only [go_sem, reduceCtorEq, Nat.reduceEqDiff, Nat.reduceLT, Nat.reduceLeDiff, Nat.reduceAdd, Nat.reduceMul, Nat.reduceSub, Nat.reduceBEq, ↓reduceIte, h3, h4]) | refine k_of (by assumption) ?_)
          refine tr_cond rfl (fun ht => ?_) (fun hf => ?_)
          · repeat (first | refine tr_seq_k fun _ _ => ?_ | (refine tr_region ?_; simp only [go_sem, reduceCtorEq, Nat.reduceEqDiff, Nat.reduceLT, Nat.reduceLeDiff, Nat.reduceAdd, Nat.reduceMul, Nat.reduceSub, Nat.reduceBEq, ↓reduceIte]) | refine k_of (by assumption) ?_ | (refine tr_ret ?_; try simp only [ex_seq_ret, ex_block_ret]))
            refine (hQ _ _ [bA false] ?_ (fun m => ?_)).2 <;> simp only [go_sem, reduceCtorEq, Nat.reduceEqDiff, Nat.reduceLT, Nat.reduceLeDiff, Nat.reduceAdd, Nat.reduceMul, Nat.reduceSub, Nat.reduceBEq, ↓reduceIte, Tryd.f11, hr]
          · cases hf
        | true =>
          cases h5 : decide ((a.clears.length : Int) = (b.clears.length : Nat)) with
          | false =>
            have hr : decide (dat a = dat b) = false := decide_eq_false (fun e => of_decide_eq_false h5 (by rw [map_len_eq (dat_eq.1 e).2.2.2.2.1]))
            refine does_of' Tryd.func11 rfl (by kernel_rfl) rfl Tryd.ntmps11 rfl rfl fun Q hQ => ?_
            repeat (first | refine tr_seq_k fun _ _ => ?_ | (refine tr_region ?_; simp only [go_sem, reduceCtorEq, Nat.reduceEqDiff, Nat.reduceLT, Nat.reduceLeDiff, Nat.reduceAdd, Nat.reduceMul, Nat.reduceSub, Nat.reduceBEq, ↓reduceIte, h3, h4, h5]) | (refine call_of (cS) ?_ ?_; (first | rfl | simp only [go_sem, reduceCtorEq, Nat.reduceEqDiff, Nat.reduceLT, Nat.reduceLeDiff, Nat.reduceAdd, Nat.reduceMul, Nat.reduceSub, Nat.reduceBEq, ↓reduceIte, h3, h4, h5, shut_col]); simp only [go_sem, reduceCtorEq, Nat.reduceEqDiff, Nat.reduceLT, Nat.reduceLeDiff, Nat.reduceAdd, Nat.reduceMul, Nat.reduceSub, Nat.reduceBEq, ↓reduceIte, h3, h4, h5]) | (refine call_of (cP) ?_ ?_; (first | rfl | simp only [go_sem, reduceCtorEq, Nat.reduceEqDiff, Nat.reduceLT, Nat.reduceLeDiff, Nat.reduceAdd, Nat.reduceMul, Nat.reduceSub, Nat.reduceBEq, ↓reduceIte, h3, h4, h5, shut_col]); simp only [go_sem, reduceCtorEq, Nat.reduceEqDiff, Nat.reduceLT, Nat.reduceLeDiff, Nat.reduceAdd, Nat.reduceMul, Nat.reduceSub, Nat.reduceBEq, ↓reduceIte, h3, h4, h5]) | refine k_of (by assumption) ?_)
            refine tr_cond rfl (fun ht => ?_) (fun hf => ?_)
            · repeat (first | refine tr_seq_k fun _ _ => ?_ | (refine tr_region ?_; simp only [go_sem, reduceCtorEq, Nat.reduceEqDiff, Nat.reduceLT, Nat.reduceLeDiff, Nat.reduceAdd, Nat.reduceMul, Nat.reduceSub, Nat.reduceBEq, ↓reduceIte]) | refine k_of (by assumption) ?_ | (refine tr_ret ?_; try simp only [ex_seq_ret, ex_block_ret]))
              refine (hQ _ _ [bA false] ?_ (fun m => ?_)).2 <;> simp only [go_sem, reduceCtorEq, Nat.reduceEqDiff, Nat.reduceLT, Nat.reduceLeDiff, Nat.reduceAdd, Nat.reduceMul, Nat.reduceSub, Nat.reduceBEq, ↓reduceIte, Tryd.f11, hr]
            · cases hf
          | true =>
            cases h6 : decide ((a.rules.length : Int) = (b.rules.length : Nat)) with
            | false =>
              have hr : decide (dat a = dat b) = false := decide_eq_false (fun e => of_decide_eq_false h6 (by rw [map_len_eq (dat_eq.1 e).2.2.2.2.2.1]))
              refine does_of' Tryd.func11 rfl (by kernel_rfl) rfl Tryd.ntmps11 rfl rfl fun Q hQ => ?_
              repeat (first | refine tr_seq_k fun _ _ => ?_ | (refine tr_region ?_; simp only [go_sem, reduceCtorEq, Nat.reduceEqDiff, Nat.reduceLT, Nat.reduceLeDiff, Nat.reduceAdd, Nat.reduceMul, Nat.reduceSub, Nat.reduceBEq, ↓reduceIte, h3, h4, h5, h6]) | (refine call_of (cS) ?_ ?_; (first | rfl | simp only [go_sem, reduceCtorEq, Nat.reduceEqDiff, Nat.reduceLT, Nat.reduceLeDiff, Nat.reduceAdd, Nat.reduceMul, Nat.reduceSub, Nat.reduceBEq, ↓reduceIte, h3, h4, h5, h6, shut_col]); simp only [go_sem, reduceCtorEq, Nat.reduceEqDiff, Nat.reduceLT, Nat.reduceLeDiff, Nat.reduceAdd, Nat.reduceMul, Nat.reduceSub, Nat.reduceBEq, ↓reduceIte, h3, h4, h5, h6]) | (refine call_of (cP) ?_ ?_; (first | rfl | simp only [go_sem, reduceCtorEq, Nat.reduceEqDiff, Nat.reduceLT, Nat.reduceLeDiff, Nat.reduceAdd, Nat.reduceMul, Nat.reduceSub, Nat.reduceBEq, ↓reduceIte, h3, h4, h5, h6, shut_col]); simp only [go_sem, reduceCtorEq, Nat.reduceEqDiff, Nat.reduceLT, Nat.reduceLeDiff, Nat.reduceAdd, Nat.reduceMul, Nat.reduceSub, Nat.reduceBEq, ↓reduceIte, h3, h4, h5, h6]) | refine k_of (by assumption) ?_)
              refine tr_cond rfl (fun ht => ?_) (fun hf => ?_)
              · repeat (first | refine tr_seq_k fun _ _ => ?_ | (refine tr_region ?_; simp only [go_sem, reduceCtorEq, Nat.reduceEqDiff, Nat.reduceLT, Nat.reduceLeDiff, Nat.reduceAdd, Nat.reduceMul, Nat.reduceSub, Nat.reduceBEq, ↓reduceIte]) | refine k_of (by assumption) ?_ | (refine tr_ret ?_; try simp only [ex_seq_ret, ex_block_ret]))
                refine (hQ _ _ [bA false] ?_ (fun m => ?_)).2 <;> simp only [go_sem, reduceCtorEq, Nat.reduceEqDiff, Nat.reduceLT, Nat.reduceLeDiff, Nat.reduceAdd, Nat.reduceMul, Nat.reduceSub, Nat.reduceBEq, ↓reduceIte, Tryd.f11, hr]
              · cases hf
            | true =>
              cases h7 : decide ((a.grants.length : Int) = (b.grants.length : Nat)) with
              | false =>
                have hr : decide (dat a = dat b) = false := decide_eq_false (fun e => of_decide_eq_false h7 (by rw [map_len_eq (dat_eq.1 e).2.2.2.2.2.2]))
                refine does_of' Tryd.func11 rfl (by kernel_rfl) rfl Tryd.ntmps11 rfl rfl fun Q hQ => ?_
                repeat (first | refine tr_seq_k fun _ _ => ?_ | (refine tr_region ?_; simp only [go_sem, reduceCtorEq, Nat.reduceEqDiff, Nat.reduceLT, Nat.reduceLeDiff, Nat.reduceAdd, Nat.reduceMul, Nat.reduceSub, Nat.reduceBEq, ↓reduceIte, h3, h4, h5, h6, h7]) | (refine call_of (cS) ?_ ?_; (first | rfl | simp only [go_sem, reduceCtorEq, Nat.reduceEqDiff, Nat.reduceLT, Nat.reduceLeDiff, Nat.reduceAdd, Nat.reduceMul, Nat.reduceSub, Nat.reduceBEq, ↓reduceIte, h3, h4, h5, h6, h7, shut_col]); simp only [go_sem, reduceCtorEq, Nat.reduceEqDiff, Nat.reduceLT, Nat.reduceLeDiff, Nat.reduceAdd, Nat.reduceMul, Nat.reduceSub, Nat.reduceBEq, ↓reduceIte, h3, h4, h5, h6, h7]) | (refine call_of (cP) ?_ ?_; (first | rfl | simp only [go_sem, reduceCtorEq, Nat.reduceEqDiff, Nat.reduceLT, Nat.reduceLeDiff, Nat.reduceAdd, Nat.reduceMul, Nat.reduceSub, Nat.reduceBEq, ↓reduceIte, h3, h4, h5, h6, h7, shut_col]); simp only [go_sem, reduceCtorEq, Nat.reduceEqDiff, Nat.reduceLT, Nat.reduceLeDiff, Nat.reduceAdd, Nat.reduceMul, Nat.reduceSub, Nat.reduceBEq, ↓reduceIte, h3, h4, h5, h6, h7]) | refine k_of (by assumption) ?_)
                refine tr_cond rfl (fun ht => ?_) (fun hf => ?_)
                · repeat (first | refine tr_seq_k fun _ _ => ?_ | (refine tr_region ?_; simp only [go_sem, reduceCtorEq, Nat.reduceEqDiff, Nat.reduceLT, Nat.reduceLeDiff, Nat.reduceAdd, Nat.reduceMul, Nat.reduceSub, Nat.reduceBEq, ↓reduceIte]) | refine k_of (by assumption) ?_ | (refine tr_ret ?_; try simp only [ex_seq_ret, ex_block_ret]))
                  refine (hQ _ _ [bA false] ?_ (fun m => ?_)).2 <;> simp only [go_sem, reduceCtorEq, Nat.reduceEqDiff, Nat.reduceLT, Nat.reduceLeDiff, Nat.reduceAdd, Nat.reduceMul, Nat.reduceSub, Nat.reduceBEq, ↓reduceIte, Tryd.f11, hr]
                · cases hf
              | true =>
                have l5 : a.clears.length = b.clears.length := by have := of_decide_eq_true h5; omega
                have l6 : a.rules.length = b.rules.length := by have := of_decide_eq_true h6; omega
                have l7 : a.grants.length = b.grants.length := by have := of_decide_eq_true h7; omega
                refine does_of' Tryd.func11 rfl (by kernel_rfl) rfl Tryd.ntmps11 rfl rfl fun Q hQ => ?_
                repeat (first | refine tr_seq_k fun _ _ => ?_ | (refine tr_region ?_; simp only [go_sem, reduceCtorEq, Nat.reduceEqDiff, Nat.reduceLT, Nat.reduceLeDiff, Nat.reduceAdd, Nat.reduceMul, Nat.reduceSub, Nat.reduceBEq, ↓reduceIte, h3, h4, h5, h6, h7]) | (refine call_of (cS) ?_ ?_; (first | rfl | simp only [go_sem, reduceCtorEq, Nat.reduceEqDiff, Nat.reduceLT, Nat.reduceLeDiff, Nat.reduceAdd, Nat.reduceMul, Nat.reduceSub, Nat.reduceBEq, ↓reduceIte, h3, h4, h5, h6, h7, shut_col]); simp only [go_sem, reduceCtorEq, Nat.reduceEqDiff, Nat.reduceLT, Nat.reduceLeDiff, Nat.reduceAdd, Nat.reduceMul, Nat.reduceSub, Nat.reduceBEq, ↓reduceIte, h3, h4, h5, h6, h7]) | (refine call_of (cP) ?_ ?_; (first | rfl | simp only [go_sem, reduceCtorEq, Nat.reduceEqDiff, Nat.reduceLT, Nat.reduceLeDiff, Nat.reduceAdd, Nat.reduceMul, Nat.reduceSub, Nat.reduceBEq, ↓reduceIte, h3, h4, h5, h6, h7, shut_col]); simp only [go_sem, reduceCtorEq, Nat.reduceEqDiff, Nat.reduceLT, Nat.reduceLeDiff, Nat.reduceAdd, Nat.reduceMul, Nat.reduceSub, Nat.reduceBEq, ↓reduceIte, h3, h4, h5, h6, h7]) | refine k_of (by assumption) ?_)
                refine tr_cond rfl (fun ht => ?_) (fun hf => ?_)
                · cases ht
                repeat (first | refine tr_seq_k fun _ _ => ?_ | (refine tr_region ?_; simp only [go_sem, reduceCtorEq, Nat.reduceEqDiff, Nat.reduceLT, Nat.reduceLeDiff, Nat.reduceAdd, Nat.reduceMul, Nat.reduceSub, Nat.reduceBEq, ↓reduceIte]) | refine k_of (by assumption) ?_ | refine tr_block ?_ | (refine tr_skip ?_; try simp only [ex_seq, ex_block]))
                refine tr_loop_k (σ := Nat) (fun k => [(2, .ptr 0 0), (3, .ptr 1 0), (5, iA k)]) (fun _ => ⟨[⟨false, [.c (slC stC a.e1 a.prin), .c (slC prC a.e2 a.preds), .c (slC clC a.e3 a.clears), iA a.quota, iA a.budget, .c (slC ruC a.e4 a.rules), .c (slC grC a.e5 a.grants)]⟩, ⟨false, [.c (slC stC b.e1 b.prin), .c (slC prC b.e2 b.preds), .c (slC clC b.e3 b.clears), iA b.quota, iA b.budget, .c (slC ruC b.e4 b.rules), .c (slC grC b.e5 b.grants)]⟩], []⟩) (fun k => k ≤ a.clears.length ∧ (a.clears.map clT).take k = (b.clears.map clT).take k) (fun k => a.clears.length - k) 0 ⟨Nat.zero_le _, rfl⟩ ⟨rfl, rfl, rfl, trivial⟩ rfl ?_
                rintro k ⟨hk, hp⟩ K hK
                by_cases hlt : k < a.clears.length
                · have d1 : decide ((k : Int) < (a.clears.length : Nat)) = true := decide_eq_true (by omega)
                  have hlb : k < b.clears.length := by omega
                  have ws := wrap_succ (show k ≤ 1000000000 by have := hl.clears.1; omega)
                  have i1 := idxC (ex := a.e3) hlt
                  have i2 := idxC (ex := b.e3) hlb
                  have hx := hl.clears.2 a.clears[k] (List.getElem_mem hlt)
                  have hg := fun e => map_get_eq (f := clT) (dat_eq.1 e).2.2.2.2.1 hlt hlb
                  have hn := map_take_next clT hlt hlb hp
                  generalize a.clears[k] = x at *
                  generalize b.clears[k] = y at *
                  have c1 := sameS_does x.reads y.reads x.ex y.ex hx
                  cases g1 : decide (x.who = y.who) with
                  | false =>
                    have hr : decide (dat a = dat b) = false := decide_eq_false fun e => of_decide_eq_false g1 (congrArg Prod.fst (hg e))
                    repeat (first | refine tr_seq_k fun _ _ => ?_ | (refine tr_region ?_; simp only [go_sem, reduceCtorEq, Nat.reduceEqDiff, Nat.reduceLT, Nat.reduceLeDiff, Nat.reduceAdd, Nat.reduceMul, Nat.reduceSub, Nat.reduceBEq, ↓reduceIte, d1]) | refine k_of (by assumption) ?_)
                    refine tr_cond rfl (fun ht => ?_) (fun hf => ?_)
                    · repeat (first | refine tr_seq_k fun _ _ => ?_ | (refine tr_draw (id := 6) follows 10000 [26] [0, 1, 2, 3, 4, 5, 6, 7, 8, 9, 10, 11, 12, 13, 14, 15, 16, 17, 18, 19, 20, 21, 22, 23, 24, 25, 26, 27, 28] (by kernel_rfl) ?_; simp only [go_sem, reduceCtorEq, Nat.reduceEqDiff, Nat.reduceLT, Nat.reduceLeDiff, Nat.reduceAdd, Nat.reduceMul, Nat.reduceSub, Nat.reduceBEq, ↓reduceIte, i1, i2, g1]) | refine k_of (by assumption) ?_ | refine tr_block ?_ | (refine tr_skip ?_; try simp only [ex_seq, ex_block]))
                      refine tr_cond rfl (fun ht => ?_) (fun hf => ?_)
                      · repeat (first | refine tr_seq_k fun _ _ => ?_ | (refine tr_region ?_; simp only [go_sem, reduceCtorEq, Nat.reduceEqDiff, Nat.reduceLT, Nat.reduceLeDiff, Nat.reduceAdd, Nat.reduceMul, Nat.reduceSub, Nat.reduceBEq, ↓reduceIte]) | refine k_of (by assumption) ?_ | (refine tr_ret ?_; try simp only [ex_seq_ret, ex_block_ret]))
                        refine (hQ _ _ [bA false] ?_ (fun m => ?_)).2 <;> simp only [go_sem, reduceCtorEq, Nat.reduceEqDiff, Nat.reduceLT, Nat.reduceLeDiff, Nat.reduceAdd, Nat.reduceMul, Nat.reduceSub, Nat.reduceBEq, ↓reduceIte, Tryd.f11, hr]
                      · cases hf
                    · cases hf
                  | true =>
                    cases g2 : decide (x.reads = y.reads) with
                    | false =>
                      rw [g2] at c1
                      have hr : decide (dat a = dat b) = false := decide_eq_false fun e => of_decide_eq_false g2 (congrArg Prod.snd (hg e))
                      repeat (first | refine tr_seq_k fun _ _ => ?_ | (refine tr_region ?_; simp only [go_sem, reduceCtorEq, Nat.reduceEqDiff, Nat.reduceLT, Nat.reduceLeDiff, Nat.reduceAdd, Nat.reduceMul, Nat.reduceSub, Nat.reduceBEq, ↓reduceIte, d1]) | refine k_of (by assumption) ?_)
                      refine tr_cond rfl (fun ht => ?_) (fun hf => ?_)
                      · repeat (first | refine tr_seq_k fun _ _ => ?_ | (refine tr_draw (id := 6) follows 10000 [26] [0, 1, 2, 3, 4, 5, 6, 7, 8, 9, 10, 11, 12, 13, 14, 15, 16, 17, 18, 19, 20, 21, 22, 23, 24, 25, 26, 27, 28] (by kernel_rfl) ?_; simp only [go_sem, reduceCtorEq, Nat.reduceEqDiff, Nat.reduceLT, Nat.reduceLeDiff, Nat.reduceAdd, Nat.reduceMul, Nat.reduceSub, Nat.reduceBEq, ↓reduceIte, i1, i2, g1]) | (refine call_of (c1) ?_ ?_; (first | rfl | simp only [go_sem, reduceCtorEq, Nat.reduceEqDiff, Nat.reduceLT, Nat.reduceLeDiff, Nat.reduceAdd, Nat.reduceMul, Nat.reduceSub, Nat.reduceBEq, ↓reduceIte, i1, i2, g1, shut_col]); simp only [go_sem, reduceCtorEq, Nat.reduceEqDiff, Nat.reduceLT, Nat.reduceLeDiff, Nat.reduceAdd, Nat.reduceMul, Nat.reduceSub, Nat.reduceBEq, ↓reduceIte, i1, i2, g1]) | refine k_of (by assumption) ?_ | refine tr_block ?_ | (refine tr_skip ?_; try simp only [ex_seq, ex_block]))
                        refine tr_cond rfl (fun ht => ?_) (fun hf => ?_)
                        · repeat (first | refine tr_seq_k fun _ _ => ?_ | (refine tr_region ?_; simp only [go_sem, reduceCtorEq, Nat.reduceEqDiff, Nat.reduceLT, Nat.reduceLeDiff, Nat.reduceAdd, Nat.reduceMul, Nat.reduceSub, Nat.reduceBEq, ↓reduceIte]) | refine k_of (by assumption) ?_ | (refine tr_ret ?_; try simp only [ex_seq_ret, ex_block_ret]))
                          refine (hQ _ _ [bA false] ?_ (fun m => ?_)).2 <;> simp only [go_sem, reduceCtorEq, Nat.reduceEqDiff, Nat.reduceLT, Nat.reduceLeDiff, Nat.reduceAdd, Nat.reduceMul, Nat.reduceSub, Nat.reduceBEq, ↓reduceIte, Tryd.f11, hr]
                        · cases hf
                      · cases hf
                    | true =>
                      rw [g2] at c1
                      repeat (first | refine tr_seq_k fun _ _ => ?_ | (refine tr_region ?_; simp only [go_sem, reduceCtorEq, Nat.reduceEqDiff, Nat.reduceLT, Nat.reduceLeDiff, Nat.reduceAdd, Nat.reduceMul, Nat.reduceSub, Nat.reduceBEq, ↓reduceIte, d1]) | refine k_of (by assumption) ?_)
                      refine tr_cond rfl (fun ht => ?_) (fun hf => ?_)
                      · repeat (first | refine tr_seq_k fun _ _ => ?_ | (refine tr_draw (id := 6) follows 10000 [26] [0, 1, 2, 3, 4, 5, 6, 7, 8, 9, 10, 11, 12, 13, 14, 15, 16, 17, 18, 19, 20, 21, 22, 23, 24, 25, 26, 27, 28] (by kernel_rfl) ?_; simp only [go_sem, reduceCtorEq, Nat.reduceEqDiff, Nat.reduceLT, Nat.reduceLeDiff, Nat.reduceAdd, Nat.reduceMul, Nat.reduceSub, Nat.reduceBEq, ↓reduceIte, i1, i2, g1]) | (refine call_of (c1) ?_ ?_; (first | rfl | simp only [go_sem, reduceCtorEq, Nat.reduceEqDiff, Nat.reduceLT, Nat.reduceLeDiff, Nat.reduceAdd, Nat.reduceMul, Nat.reduceSub, Nat.reduceBEq, ↓reduceIte, i1, i2, g1, shut_col]); simp only [go_sem, reduceCtorEq, Nat.reduceEqDiff, Nat.reduceLT, Nat.reduceLeDiff, Nat.reduceAdd, Nat.reduceMul, Nat.reduceSub, Nat.reduceBEq, ↓reduceIte, i1, i2, g1]) | refine k_of (by assumption) ?_ | refine tr_block ?_ | (refine tr_skip ?_; try simp only [ex_seq, ex_block]))
                        refine tr_cond rfl (fun ht => ?_) (fun hf => ?_)
                        · cases ht
                        · repeat (first | (refine tr_region ?_; simp only [go_sem, reduceCtorEq, Nat.reduceEqDiff, Nat.reduceLT, Nat.reduceLeDiff, Nat.reduceAdd, Nat.reduceMul, Nat.reduceSub, Nat.reduceBEq, ↓reduceIte, ws]) | refine k_of (by assumption) ?_ | (refine tr_skip ?_; try simp only [ex_seq, ex_block]))
                          exact hK (k + 1) _ _ ⟨hlt, hn (by show (x.who, x.reads) = (y.who, y.reads); rw [of_decide_eq_true g1, of_decide_eq_true g2])⟩ ⟨⟨rfl, rfl, rfl, trivial⟩, Keep.refl _, rfl, rfl, Nat.le_refl _, Nat.le_refl _⟩ (by omega)
                      · cases hf
                · have d1 : decide ((k : Int) < (a.clears.length : Nat)) = false := decide_eq_false (by omega)
                  have hkl : k = a.clears.length := by omega
                  have r_clears : a.clears.map clT = b.clears.map clT := map_all_eq (by omega) (by rw [hkl] at hp; exact hp)
                  repeat (first | refine tr_seq_k fun _ _ => ?_ | (refine tr_region ?_; simp only [go_sem, reduceCtorEq, Nat.reduceEqDiff, Nat.reduceLT, Nat.reduceLeDiff, Nat.reduceAdd, Nat.reduceMul, Nat.reduceSub, Nat.reduceBEq, ↓reduceIte, d1]) | refine k_of (by assumption) ?_)
                  refine tr_cond rfl (fun ht => ?_) (fun hf => ?_)
                  · cases ht
                  · repeat (first | refine tr_seq_k fun _ _ => ?_ | (refine tr_region ?_; simp only [go_sem, reduceCtorEq, Nat.reduceEqDiff, Nat.reduceLT, Nat.reduceLeDiff, Nat.reduceAdd, Nat.reduceMul, Nat.reduceSub, Nat.reduceBEq, ↓reduceIte]) | refine k_of (by assumption) ?_ | refine tr_block ?_ | (refine tr_exit ?_; try simp only [ex_seq_exit, ex_block_exit, Nat.reduceEqDiff, if_true, if_false, ex_seq, ex_block, reduceCtorEq, ↓reduceIte]))
                    refine tr_loop_k (σ := Nat) (fun k => [(2, .ptr 0 0), (3, .ptr 1 0), (6, iA k)]) (fun _ => ⟨[⟨false, [.c (slC stC a.e1 a.prin), .c (slC prC a.e2 a.preds), .c (slC clC a.e3 a.clears), iA a.quota, iA a.budget, .c (slC ruC a.e4 a.rules), .c (slC grC a.e5 a.grants)]⟩, ⟨false, [.c (slC stC b.e1 b.prin), .c (slC prC b.e2 b.preds), .c (slC clC b.e3 b.clears), iA b.quota, iA b.budget, .c (slC ruC b.e4 b.rules), .c (slC grC b.e5 b.grants)]⟩], []⟩) (fun k => k ≤ a.rules.length ∧ (a.rules.map ruT).take k = (b.rules.map ruT).take k) (fun k => a.rules.length - k) 0 ⟨Nat.zero_le _, rfl⟩ ⟨rfl, rfl, rfl, trivial⟩ rfl ?_
                    rintro k ⟨hk, hp⟩ K hK
                    by_cases hlt : k < a.rules.length
                    · have d1 : decide ((k : Int) < (a.rules.length : Nat)) = true := decide_eq_true (by omega)
                      have hlb : k < b.rules.length := by omega
                      have ws := wrap_succ (show k ≤ 1000000000 by have := hl.rules.1; omega)
                      have i1 := idxRu (ex := a.e4) hlt
                      have i2 := idxRu (ex := b.e4) hlb
                      have hx := hl.rules.2 a.rules[k] (List.getElem_mem hlt)
                      have hg := fun e => map_get_eq (f := ruT) (dat_eq.1 e).2.2.2.2.2.1 hlt hlb
                      have hn := map_take_next ruT hlt hlb hp
                      generalize a.rules[k] = x at *
                      generalize b.rules[k] = y at *
                      have c1 := sameRule_does x.head y.head x.body y.body x.ex y.ex hx
                      cases g2 : decide ((x.head, x.body) = (y.head, y.body)) with
                      | false =>
                        rw [g2] at c1
                        have hr : decide (dat a = dat b) = false := decide_eq_false fun e => of_decide_eq_false g2 (hg e)
                        repeat (first | refine tr_seq_k fun _ _ => ?_ | (refine tr_region ?_; simp only [go_sem, reduceCtorEq, Nat.reduceEqDiff, Nat.reduceLT, Nat.reduceLeDiff, Nat.reduceAdd, Nat.reduceMul, Nat.reduceSub, Nat.reduceBEq, ↓reduceIte, d1]) | refine k_of (by assumption) ?_)
                        refine tr_cond rfl (fun ht => ?_) (fun hf => ?_)
                        · repeat (first | refine tr_seq_k fun _ _ => ?_ | (refine tr_draw (id := 11) follows 10000 [24] [0, 1, 2, 3, 4, 5, 6, 7, 8, 9, 10, 11, 12, 13, 14, 15, 16, 17, 18, 19, 20, 21, 22, 23, 24, 25] (by kernel_rfl) ?_; simp only [go_sem, reduceCtorEq, Nat.reduceEqDiff, Nat.reduceLT, Nat.reduceLeDiff, Nat.reduceAdd, Nat.reduceMul, Nat.reduceSub, Nat.reduceBEq, ↓reduceIte, i1, i2, d1]) | (refine call_of (c1) ?_ ?_; (first | rfl | simp only [go_sem, reduceCtorEq, Nat.reduceEqDiff, Nat.reduceLT, Nat.reduceLeDiff, Nat.reduceAdd, Nat.reduceMul, Nat.reduceSub, Nat.reduceBEq, ↓reduceIte, i1, i2, d1, shut_col]); simp only [go_sem, reduceCtorEq, Nat.reduceEqDiff, Nat.reduceLT, Nat.reduceLeDiff, Nat.reduceAdd, Nat.reduceMul, Nat.reduceSub, Nat.reduceBEq, ↓reduceIte, i1, i2, d1]) | refine k_of (by assumption) ?_ | refine tr_block ?_ | (refine tr_skip ?_; try simp only [ex_seq, ex_block]))
                          refine tr_cond rfl (fun ht => ?_) (fun hf => ?_)
                          · repeat (first | refine tr_seq_k fun _ _ => ?_ | (refine tr_region ?_; simp only [go_sem, reduceCtorEq, Nat.reduceEqDiff, Nat.reduceLT, Nat.reduceLeDiff, Nat.reduceAdd, Nat.reduceMul, Nat.reduceSub, Nat.reduceBEq, ↓reduceIte]) | refine k_of (by assumption) ?_ | (refine tr_ret ?_; try simp only [ex_seq_ret, ex_block_ret]))
                            refine (hQ _ _ [bA false] ?_ (fun m => ?_)).2 <;> simp only [go_sem, reduceCtorEq, Nat.reduceEqDiff, Nat.reduceLT, Nat.reduceLeDiff, Nat.reduceAdd, Nat.reduceMul, Nat.reduceSub, Nat.reduceBEq, ↓reduceIte, Tryd.f11, hr]
                          · cases hf
                        · cases hf
                      | true =>
                        rw [g2] at c1
                        repeat (first | refine tr_seq_k fun _ _ => ?_ | (refine tr_region ?_; simp only [go_sem, reduceCtorEq, Nat.reduceEqDiff, Nat.reduceLT, Nat.reduceLeDiff, Nat.reduceAdd, Nat.reduceMul, Nat.reduceSub, Nat.reduceBEq, ↓reduceIte, d1]) | refine k_of (by assumption) ?_)
                        refine tr_cond rfl (fun ht => ?_) (fun hf => ?_)
                        · repeat (first | refine tr_seq_k fun _ _ => ?_ | (refine tr_draw (id := 11) follows 10000 [24] [0, 1, 2, 3, 4, 5, 6, 7, 8, 9, 10, 11, 12, 13, 14, 15, 16, 17, 18, 19, 20, 21, 22, 23, 24, 25] (by kernel_rfl) ?_; simp only [go_sem, reduceCtorEq, Nat.reduceEqDiff, Nat.reduceLT, Nat.reduceLeDiff, Nat.reduceAdd, Nat.reduceMul, Nat.reduceSub, Nat.reduceBEq, ↓reduceIte, i1, i2, d1]) | (refine call_of (c1) ?_ ?_; (first | rfl | simp only [go_sem, reduceCtorEq, Nat.reduceEqDiff, Nat.reduceLT, Nat.reduceLeDiff, Nat.reduceAdd, Nat.reduceMul, Nat.reduceSub, Nat.reduceBEq, ↓reduceIte, i1, i2, d1, shut_col]); simp only [go_sem, reduceCtorEq, Nat.reduceEqDiff, Nat.reduceLT, Nat.reduceLeDiff, Nat.reduceAdd, Nat.reduceMul, Nat.reduceSub, Nat.reduceBEq, ↓reduceIte, i1, i2, d1]) | refine k_of (by assumption) ?_ | refine tr_block ?_ | (refine tr_skip ?_; try simp only [ex_seq, ex_block]))
                          refine tr_cond rfl (fun ht => ?_) (fun hf => ?_)
                          · cases ht
                          · repeat (first | (refine tr_region ?_; simp only [go_sem, reduceCtorEq, Nat.reduceEqDiff, Nat.reduceLT, Nat.reduceLeDiff, Nat.reduceAdd, Nat.reduceMul, Nat.reduceSub, Nat.reduceBEq, ↓reduceIte, ws]) | refine k_of (by assumption) ?_ | (refine tr_skip ?_; try simp only [ex_seq, ex_block]))
                            exact hK (k + 1) _ _ ⟨hlt, hn (of_decide_eq_true g2)⟩ ⟨⟨rfl, rfl, rfl, trivial⟩, Keep.refl _, rfl, rfl, Nat.le_refl _, Nat.le_refl _⟩ (by omega)
                        · cases hf
                    · have d1 : decide ((k : Int) < (a.rules.length : Nat)) = false := decide_eq_false (by omega)
                      have hkl : k = a.rules.length := by omega
                      have r_rules : a.rules.map ruT = b.rules.map ruT := map_all_eq (by omega) (by rw [hkl] at hp; exact hp)
                      repeat (first | refine tr_seq_k fun _ _ => ?_ | (refine tr_region ?_; simp only [go_sem, reduceCtorEq, Nat.reduceEqDiff, Nat.reduceLT, Nat.reduceLeDiff, Nat.reduceAdd, Nat.reduceMul, Nat.reduceSub, Nat.reduceBEq, ↓reduceIte, d1]) | refine k_of (by assumption) ?_)
                      refine tr_cond rfl (fun ht => ?_) (fun hf => ?_)
                      · cases ht
                      · repeat (first | refine tr_seq_k fun _ _ => ?_ | (refine tr_region ?_; simp only [go_sem, reduceCtorEq, Nat.reduceEqDiff, Nat.reduceLT, Nat.reduceLeDiff, Nat.reduceAdd, Nat.reduceMul, Nat.reduceSub, Nat.reduceBEq, ↓reduceIte]) | refine k_of (by assumption) ?_ | refine tr_block ?_ | (refine tr_exit ?_; try simp only [ex_seq_exit, ex_block_exit, Nat.reduceEqDiff, if_true, if_false, ex_seq, ex_block, reduceCtorEq, ↓reduceIte]))
                        refine tr_loop_k (σ := Nat) (fun k => [(2, .ptr 0 0), (3, .ptr 1 0), (7, iA k)]) (fun _ => ⟨[⟨false, [.c (slC stC a.e1 a.prin), .c (slC prC a.e2 a.preds), .c (slC clC a.e3 a.clears), iA a.quota, iA a.budget, .c (slC ruC a.e4 a.rules), .c (slC grC a.e5 a.grants)]⟩, ⟨false, [.c (slC stC b.e1 b.prin), .c (slC prC b.e2 b.preds), .c (slC clC b.e3 b.clears), iA b.quota, iA b.budget, .c (slC ruC b.e4 b.rules), .c (slC grC b.e5 b.grants)]⟩], []⟩) (fun k => k ≤ a.grants.length ∧ (a.grants.map grT).take k = (b.grants.map grT).take k) (fun k => a.grants.length - k) 0 ⟨Nat.zero_le _, rfl⟩ ⟨rfl, rfl, rfl, trivial⟩ rfl ?_
                        rintro k ⟨hk, hp⟩ K hK
                        by_cases hlt : k < a.grants.length
                        · have d1 : decide ((k : Int) < (a.grants.length : Nat)) = true := decide_eq_true (by omega)
                          have hlb : k < b.grants.length := by omega
                          have ws := wrap_succ (show k ≤ 1000000000 by have := hl.grants.1; omega)
                          have i1 := idxGr (ex := a.e5) hlt
                          have i2 := idxGr (ex := b.e5) hlb
                          have hx := hl.grants.2 a.grants[k] (List.getElem_mem hlt)
                          have hg := fun e => map_get_eq (f := grT) (dat_eq.1 e).2.2.2.2.2.2 hlt hlb
                          have hn := map_take_next grT hlt hlb hp
                          generalize a.grants[k] = x at *
                          generalize b.grants[k] = y at *
                          have c1 := sameRule_does x.head y.head x.body y.body x.ex y.ex hx
                          cases g1 : decide (x.tw = y.tw) with
                          | false =>
                            have hr : decide (dat a = dat b) = false := decide_eq_false fun e => of_decide_eq_false g1 (congrArg Prod.fst (hg e))
                            repeat (first | refine tr_seq_k fun _ _ => ?_ | (refine tr_region ?_; simp only [go_sem, reduceCtorEq, Nat.reduceEqDiff, Nat.reduceLT, Nat.reduceLeDiff, Nat.reduceAdd, Nat.reduceMul, Nat.reduceSub, Nat.reduceBEq, ↓reduceIte, d1]) | refine k_of (by assumption) ?_)
                            refine tr_cond rfl (fun ht => ?_) (fun hf => ?_)
                            · repeat (first | refine tr_seq_k fun _ _ => ?_ | (refine tr_draw (id := 16) follows 10000 [38] [0, 1, 2, 3, 4, 5, 6, 7, 8, 9, 10, 11, 12, 13, 14, 15, 16, 17, 18, 19, 20, 21, 22, 23, 24, 25, 26, 27, 28, 29, 30, 31, 32, 33, 34, 35, 36, 37, 38, 39, 40] (by kernel_rfl) ?_; simp only [go_sem, reduceCtorEq, Nat.reduceEqDiff, Nat.reduceLT, Nat.reduceLeDiff, Nat.reduceAdd, Nat.reduceMul, Nat.reduceSub, Nat.reduceBEq, ↓reduceIte, i1, i2, g1]) | refine k_of (by assumption) ?_ | refine tr_block ?_ | (refine tr_skip ?_; try simp only [ex_seq, ex_block]))
                              refine tr_cond rfl (fun ht => ?_) (fun hf => ?_)
                              · repeat (first | refine tr_seq_k fun _ _ => ?_ | (refine tr_region ?_; simp only [go_sem, reduceCtorEq, Nat.reduceEqDiff, Nat.reduceLT, Nat.reduceLeDiff, Nat.reduceAdd, Nat.reduceMul, Nat.reduceSub, Nat.reduceBEq, ↓reduceIte]) | refine k_of (by assumption) ?_ | (refine tr_ret ?_; try simp only [ex_seq_ret, ex_block_ret]))
                                refine (hQ _ _ [bA false] ?_ (fun m => ?_)).2 <;> simp only [go_sem, reduceCtorEq, Nat.reduceEqDiff, Nat.reduceLT, Nat.reduceLeDiff, Nat.reduceAdd, Nat.reduceMul, Nat.reduceSub, Nat.reduceBEq, ↓reduceIte, Tryd.f11, hr]
                              · cases hf
                            · cases hf
                          | true =>
                            cases g2 : decide ((x.head, x.body) = (y.head, y.body)) with
                            | false =>
                              rw [g2] at c1
                              have hr : decide (dat a = dat b) = false := decide_eq_false fun e => of_decide_eq_false g2 (congrArg Prod.snd (hg e))
                              repeat (first | refine tr_seq_k fun _ _ => ?_ | (refine tr_region ?_; simp only [go_sem, reduceCtorEq, Nat.reduceEqDiff, Nat.reduceLT, Nat.reduceLeDiff, Nat.reduceAdd, Nat.reduceMul, Nat.reduceSub, Nat.reduceBEq, ↓reduceIte, d1]) | refine k_of (by assumption) ?_)
                              refine tr_cond rfl (fun ht => ?_) (fun hf => ?_)
                              · repeat (first | refine tr_seq_k fun _ _ => ?_ | (refine tr_draw (id := 16) follows 10000 [38] [0, 1, 2, 3, 4, 5, 6, 7, 8, 9, 10, 11, 12, 13, 14, 15, 16, 17, 18, 19, 20, 21, 22, 23, 24, 25, 26, 27, 28, 29, 30, 31, 32, 33, 34, 35, 36, 37, 38, 39, 40] (by kernel_rfl) ?_; simp only [go_sem, reduceCtorEq, Nat.reduceEqDiff, Nat.reduceLT, Nat.reduceLeDiff, Nat.reduceAdd, Nat.reduceMul, Nat.reduceSub, Nat.reduceBEq, ↓reduceIte, i1, i2, g1]) | (refine call_of (c1) ?_ ?_; (first | rfl | simp only [go_sem, reduceCtorEq, Nat.reduceEqDiff, Nat.reduceLT, Nat.reduceLeDiff, Nat.reduceAdd, Nat.reduceMul, Nat.reduceSub, Nat.reduceBEq, ↓reduceIte, i1, i2, g1, shut_col]); simp only [go_sem, reduceCtorEq, Nat.reduceEqDiff, Nat.reduceLT, Nat.reduceLeDiff, Nat.reduceAdd, Nat.reduceMul, Nat.reduceSub, Nat.reduceBEq, ↓reduceIte, i1, i2, g1]) | refine k_of (by assumption) ?_ | refine tr_block ?_ | (refine tr_skip ?_; try simp only [ex_seq, ex_block]))
                                refine tr_cond rfl (fun ht => ?_) (fun hf => ?_)
                                · repeat (first | refine tr_seq_k fun _ _ => ?_ | (refine tr_region ?_; simp only [go_sem, reduceCtorEq, Nat.reduceEqDiff, Nat.reduceLT, Nat.reduceLeDiff, Nat.reduceAdd, Nat.reduceMul, Nat.reduceSub, Nat.reduceBEq, ↓reduceIte]) | refine k_of (by assumption) ?_ | (refine tr_ret ?_; try simp only [ex_seq_ret, ex_block_ret]))
                                  refine (hQ _ _ [bA false] ?_ (fun m => ?_)).2 <;> simp only [go_sem, reduceCtorEq, Nat.reduceEqDiff, Nat.reduceLT, Nat.reduceLeDiff, Nat.reduceAdd, Nat.reduceMul, Nat.reduceSub, Nat.reduceBEq, ↓reduceIte, Tryd.f11, hr]
                                · cases hf
                              · cases hf
                            | true =>
                              rw [g2] at c1
                              repeat (first | refine tr_seq_k fun _ _ => ?_ | (refine tr_region ?_; simp only [go_sem, reduceCtorEq, Nat.reduceEqDiff, Nat.reduceLT, Nat.reduceLeDiff, Nat.reduceAdd, Nat.reduceMul, Nat.reduceSub, Nat.reduceBEq, ↓reduceIte, d1]) | refine k_of (by assumption) ?_)
                              refine tr_cond rfl (fun ht => ?_) (fun hf => ?_)
                              · repeat (first | refine tr_seq_k fun _ _ => ?_ | (refine tr_draw (id := 16) follows 10000 [38] [0, 1, 2, 3, 4, 5, 6, 7, 8, 9, 10, 11, 12, 13, 14, 15, 16, 17, 18, 19, 20, 21, 22, 23, 24, 25, 26, 27, 28, 29, 30, 31, 32, 33, 34, 35, 36, 37, 38, 39, 40] (by kernel_rfl) ?_; simp only [go_sem, reduceCtorEq, Nat.reduceEqDiff, Nat.reduceLT, Nat.reduceLeDiff, Nat.reduceAdd, Nat.reduceMul, Nat.reduceSub, Nat.reduceBEq, ↓reduceIte, i1, i2, g1]) | (refine call_of (c1) ?_ ?_; (first | rfl | simp only [go_sem, reduceCtorEq, Nat.reduceEqDiff, Nat.reduceLT, Nat.reduceLeDiff, Nat.reduceAdd, Nat.reduceMul, Nat.reduceSub, Nat.reduceBEq, ↓reduceIte, i1, i2, g1, shut_col]); simp only [go_sem, reduceCtorEq, Nat.reduceEqDiff, Nat.reduceLT, Nat.reduceLeDiff, Nat.reduceAdd, Nat.reduceMul, Nat.reduceSub, Nat.reduceBEq, ↓reduceIte, i1, i2, g1]) | refine k_of (by assumption) ?_ | refine tr_block ?_ | (refine tr_skip ?_; try simp only [ex_seq, ex_block]))
                                refine tr_cond rfl (fun ht => ?_) (fun hf => ?_)
                                · cases ht
                                · repeat (first | (refine tr_region ?_; simp only [go_sem, reduceCtorEq, Nat.reduceEqDiff, Nat.reduceLT, Nat.reduceLeDiff, Nat.reduceAdd, Nat.reduceMul, Nat.reduceSub, Nat.reduceBEq, ↓reduceIte, ws]) | refine k_of (by assumption) ?_ | (refine tr_skip ?_; try simp only [ex_seq, ex_block]))
                                  exact hK (k + 1) _ _ ⟨hlt, hn (by show (x.tw, (x.head, x.body)) = (y.tw, (y.head, y.body)); rw [of_decide_eq_true g1, of_decide_eq_true g2])⟩ ⟨⟨rfl, rfl, rfl, trivial⟩, Keep.refl _, rfl, rfl, Nat.le_refl _, Nat.le_refl _⟩ (by omega)
                              · cases hf
                        · have d1 : decide ((k : Int) < (a.grants.length : Nat)) = false := decide_eq_false (by omega)
                          have hkl : k = a.grants.length := by omega
                          have r_grants : a.grants.map grT = b.grants.map grT := map_all_eq (by omega) (by rw [hkl] at hp; exact hp)
                          repeat (first | refine tr_seq_k fun _ _ => ?_ | (refine tr_region ?_; simp only [go_sem, reduceCtorEq, Nat.reduceEqDiff, Nat.reduceLT, Nat.reduceLeDiff, Nat.reduceAdd, Nat.reduceMul, Nat.reduceSub, Nat.reduceBEq, ↓reduceIte, d1]) | refine k_of (by assumption) ?_)
                          refine tr_cond rfl (fun ht => ?_) (fun hf => ?_)
                          · cases ht
                          · repeat (first | refine tr_seq_k fun _ _ => ?_ | (refine tr_region ?_; simp only [go_sem, reduceCtorEq, Nat.reduceEqDiff, Nat.reduceLT, Nat.reduceLeDiff, Nat.reduceAdd, Nat.reduceMul, Nat.reduceSub, Nat.reduceBEq, ↓reduceIte]) | refine k_of (by assumption) ?_ | (refine tr_exit ?_; try simp only [ex_seq_exit, ex_block_exit, Nat.reduceEqDiff, if_true, if_false, ex_seq, ex_block, reduceCtorEq, ↓reduceIte]) | (refine tr_ret ?_; try simp only [ex_seq_ret, ex_block_ret]))
                            have hr : decide (dat a = dat b) = true := decide_eq_true (dat_eq.2 ⟨of_decide_eq_true h1, of_decide_eq_true h2, of_decide_eq_true h3, of_decide_eq_true h4, r_clears, r_rules, r_grants⟩)
                            refine (hQ _ _ [bA true] ?_ (fun m => ?_)).2 <;> simp only [go_sem, reduceCtorEq, Nat.reduceEqDiff, Nat.reduceLT, Nat.reduceLeDiff, Nat.reduceAdd, Nat.reduceMul, Nat.reduceSub, Nat.reduceBEq, ↓reduceIte, Tryd.f11, hr]
end Go.Proofs.YtaeehadibckcjaaDoor
namespace Go.Vs.Ab
open Go.RowKit Go.Maps Go.ChangeShapes Go.WideShapes Go.Deep
theorem Reps.nil {X : Mem} : Reps X [] [] := ⟨rfl, fun i c x h => by simp at h⟩
theorem Reps.cons {X : Mem} {c : AV} {v : Value} {cs : List AV} {vs : List Value} (h : Rep X c v) (k : Reps X cs vs) : Reps X (c :: cs) (v :: vs) :=
  ⟨by simp [k.1], fun i d x h1 h2 => by
    cases i with
    | zero => simp at h1 h2; subst h1 h2; exact h
    | succ i => exact k.2 i d x (by simpa using h1) (by simpa using h2)⟩
theorem RepCs.nil {C : Nat → Nat → Option Value} : RepCs C [] [] := ⟨rfl, fun i c x h => by simp at h⟩
theorem RepCs.cons {C : Nat → Nat → Option Value} {c : CV} {v : Value} {cs : List CV} {vs : List Value} (h : RepC C c v) (k : RepCs C cs vs) : RepCs C (c :: cs) (v :: vs) :=
  ⟨by simp [k.1], fun i d x h1 h2 => by
    cases i with
    | zero => simp at h1 h2; subst h1 h2; exact h
    | succ i => exact k.2 i d x (by simpa using h1) (by simpa using h2)⟩
theorem RepCs.append {C : Nat → Nat → Option Value} {a b : List CV} {x y : List Value} (h : RepCs C a x) (k : RepCs C b y) : RepCs C (a ++ b) (x ++ y) := repcs_append h k
def Dec {T : Type} (d : Nat) (w : World) (ks : List Sh) (enc : T → List CV) (good : T → Prop) : Prop := ∀ cs, all2 (okc d w) ks cs → ∃ x, RepCs (all w).cell (enc x) cs ∧ good x
theorem dec_str {d : Nat} {w : World} {v : Value} (h : okc d w .str v) : ∃ s : ByteArray, RepC (all w).cell (.v (.string s)) v ∧ s.size ≤ maxLen := by
  cases d with
  | zero => exact h.elim
  | succ d => obtain ⟨s, rfl, hs⟩ := h; exact ⟨s, .v rfl, hs⟩
theorem dec_int {d : Nat} {w : World} {v : Value} (h : okc d w .int v) : ∃ n : Int, RepC (all w).cell (.v (.int .i64 n)) v ∧ (Lit.int .i64 n).wf = true := by
  cases d with
  | zero => exact h.elim
  | succ d => obtain ⟨s, rfl, hs⟩ := h; exact ⟨s, .v rfl, hs⟩
theorem dec_bool {d : Nat} {w : World} {v : Value} (h : okc d w .bool v) : ∃ b : Bool, RepC (all w).cell (.v (.bool b)) v := by
  cases d with
  | zero => exact h.elim
  | succ d => obtain ⟨s, rfl⟩ := h; exact ⟨s, .v rfl⟩
theorem rowsC_of {T : Type} {C : Nat → Nat → Option Value} (enc : T → List CV) (good : T → Prop) (k : Nat) : ∀ (n : Nat) (cs : List Value), cs.length = n * k →
    (∀ i, i < n → ∃ x, RepCs C (enc x) ((cs.drop (i * k)).take k) ∧ good x) → ∃ xs : List T, xs.length = n ∧ RepCs C (xs.flatMap enc) cs ∧ ∀ x ∈ xs, good x
  | 0, cs, hl, _ => by
    have : cs = [] := by simpa using hl
    subst this
    exact ⟨[], rfl, RepCs.nil, by simp⟩
  | n + 1, cs, hl, h => by
    obtain ⟨x, hx, hg⟩ := h 0 (by omega)
    rw [Nat.zero_mul, List.drop_zero] at hx
    obtain ⟨xs, h1, h2, h3⟩ := rowsC_of enc good k n (cs.drop k) (by rw [List.length_drop, hl, Nat.add_mul]; omega) (fun i hi => by
      obtain ⟨y, hy, hgy⟩ := h (i + 1) (by omega)
      refine ⟨y, ?_, hgy⟩
      rw [List.drop_drop]
      rwa [Nat.add_mul, Nat.one_mul, Nat.add_comm] at hy)
    refine ⟨x :: xs, by simp [h1], ?_, ?_⟩
    · rw [List.flatMap_cons]
      have := hx.append h2
      rwa [List.take_append_drop] at this
    · intro y hy
      rcases List.mem_cons.1 hy with rfl | hy
      · exact hg
      · exact h3 y hy
section
variable {H : Type} {enc : TypeId × Value → H} {P : Program} {w : World} {base b0 : Nat} {spare : Nat → Bool} {held : Bool} {r : Reach} {d : Nat} {t : TypeId} {v : Value} {x : DataW H} {ps : List MemPlace}
theorem open_agg {T : Type} {encT : T → List CV} {good : T → Prop} {fs : Array Field} {ks : List Sh} (ht : P.underlying t = some (.struct fs)) (hs : shapeOf P d t = some ks) (hdec : Dec d w ks encT good) (hval : Value.okWide P w r b0 t v) (hd : DataW.Trod enc P w base spare held t v x ps) :
    ∃ a : T, Rep (all w) (.agg (encT a)) v ∧ good a := by
  obtain ⟨cs, rfl, h⟩ := arg_struct ht hs hval hd
  obtain ⟨a, h1, h2⟩ := hdec cs h
  exact ⟨a, .agg h1, h2⟩
end
def AtOk (a : Atm) : Prop := a.says.size ≤ maxLen ∧ a.pred.size ≤ maxLen ∧ (Lit.int .i64 a.n).wf = true ∧ a.a0.name.size ≤ maxLen ∧ a.a1.name.size ≤ maxLen ∧ a.a2.name.size ≤ maxLen ∧ a.a3.name.size ≤ maxLen
theorem atD {d : Nat} {w : World} : Dec d w [.str, .str, .int, .bool, .str, .bool, .str, .bool, .str, .bool, .str] atC AtOk := fun cs t0 => by
  obtain ⟨c0, r0, rfl, h0, t1⟩ := all2_cons t0
  obtain ⟨c1, r1, rfl, h1, t2⟩ := all2_cons t1
  obtain ⟨c2, r2, rfl, h2, t3⟩ := all2_cons t2
  obtain ⟨c3, r3, rfl, h3, t4⟩ := all2_cons t3
  obtain ⟨c4, r4, rfl, h4, t5⟩ := all2_cons t4
  obtain ⟨c5, r5, rfl, h5, t6⟩ := all2_cons t5
  obtain ⟨c6, r6, rfl, h6, t7⟩ := all2_cons t6
  obtain ⟨c7, r7, rfl, h7, t8⟩ := all2_cons t7
  obtain ⟨c8, r8, rfl, h8, t9⟩ := all2_cons t8
  obtain ⟨c9, r9, rfl, h9, t10⟩ := all2_cons t9
  obtain ⟨c10, r10, rfl, h10, t11⟩ := all2_cons t10
  obtain rfl := all2_nil t11
  obtain ⟨x0, e0, g0⟩ := dec_str h0
  obtain ⟨x1, e1, g1⟩ := dec_str h1
  obtain ⟨x2, e2, g2⟩ := dec_int h2
  obtain ⟨x3, e3⟩ := dec_bool h3
  obtain ⟨x4, e4, g4⟩ := dec_str h4
  obtain ⟨x5, e5⟩ := dec_bool h5
  obtain ⟨x6, e6, g6⟩ := dec_str h6
  obtain ⟨x7, e7⟩ := dec_bool h7
  obtain ⟨x8, e8, g8⟩ := dec_str h8
  obtain ⟨x9, e9⟩ := dec_bool h9
  obtain ⟨x10, e10, g10⟩ := dec_str h10
  exact ⟨⟨x0, x1, x2, ⟨x3, x4⟩, ⟨x5, x6⟩, ⟨x7, x8⟩, ⟨x9, x10⟩⟩, .cons e0 (.cons e1 (.cons e2 (.cons e3 (.cons e4 (.cons e5 (.cons e6 (.cons e7 (.cons e8 (.cons e9 (.cons e10 .nil)))))))))), g0, g1, g2, g4, g6, g8, g10⟩
end Go.Vs.Ab
namespace Go.Vs.Ab
open Go.RowKit Go.Maps Go.ChangeShapes Go.WideShapes Go.Deep
def okz : Nat → World → Sh → Value → Prop
  | 0, _, _, _ => False
  | _ + 1, _, .str, v => ∃ s : ByteArray, v = .string s ∧ s.size ≤ reachBytes
  | _ + 1, _, .int, v => ∃ n : Int, v = .int .i64 n ∧ (Lit.int .i64 n).wf = true
  | _ + 1, _, .bool, v => ∃ b : Bool, v = .bool b
  | d + 1, w, .sl es, v => ∃ n xs, Rd w es.length v n xs ∧ ∀ i, i < n → all2 (okz d w) es ((xs.drop (i * es.length)).take es.length)
theorem okz_mono {w : World} : ∀ (d : Nat) (s : Sh) (v : Value), okz d w s v → okz (d + 1) w s v
  | 0, _, _, h => h.elim
  | d + 1, .str, _, h => h
  | d + 1, .int, _, h => h
  | d + 1, .bool, _, h => h
  | d + 1, .sl es, v, h => by
    obtain ⟨n, xs, h1, h2⟩ := h
    refine ⟨n, xs, h1, fun i hi => ?_⟩
    have := h2 i hi
    revert this
    generalize (xs.drop (i * es.length)).take es.length = ys
    intro this
    exact this.imp fun s v => okz_mono d s v
def Sized {H : Type} (P : Program) (t : TypeId) (x : DataW H) : Prop := ∀ n ∈ x.weights P t, n ≤ reachBytes
theorem weightsAll_mem {H : Type} {P : Program} {e : TypeId} : ∀ {l : List (DataW H)} {d : DataW H}, d ∈ l → ∀ n ∈ d.weights P e, n ∈ DataW.weightsAll P e l
  | x :: l, d, h, n, hn => by
    simp only [DataW.weightsAll, List.mem_append]
    rcases List.mem_cons.1 h with rfl | h
    · exact Or.inl hn
    · exact Or.inr (weightsAll_mem h n hn)
section
variable {H : Type} {enc : TypeId × Value → H} {P : Program} {w : World} {base : Nat} {spare : Nat → Bool} {held : Bool}
theorem sized_str {t : TypeId} {s : ByteArray} (h : Sized (H := H) P t (.lit (.string s.data.toList))) : s.size ≤ reachBytes := by
  have := h s.data.toList.length (by simp [DataW.weights])
  simpa using this
theorem sized_elem {t e : TypeId} {elems rest : List (DataW H)} {x : DataW H} (ht : P.underlying t = some (.slice e)) (h : Sized P t (.slice elems rest)) (hx : x ∈ elems) : Sized P e x := fun n hn =>
  h n (by simp only [DataW.weights, ht, List.mem_cons, List.mem_append]; exact Or.inr (Or.inl (weightsAll_mem hx n hn)))
theorem sized_part {t e : TypeId} {k : Nat} {parts : List (DataW H)} {x : DataW H} (ht : P.underlying t = some (.array k e)) (h : Sized P t (.agg parts)) (hx : x ∈ parts) : Sized P e x := fun n hn =>
  h n (by simp only [DataW.weights, ht]; exact weightsAll_mem hx n hn)
theorem sized_field {t : TypeId} {fs : Array Field} {parts : List (DataW H)} {i : Nat} {f : Field} {x : DataW H} (ht : P.underlying t = some (.struct fs)) (h : Sized P t (.agg parts)) (hf : fs[i]? = some f) (hx : parts[i]? = some x) : Sized P f.type x := fun n hn =>
  h n (by
    simp only [DataW.weights, ht]
    exact DataW.weights_mem_each (j := i) (by simp [hf]) hx n hn)
theorem fieldsZ_ok {rec : TypeId → Option (List Sh)} {d : Nat} {cs : List Value}
    (hrec : ∀ t ks, rec t = some ks → ∀ fuel cs x, DataW.trod enc P w base spare held fuel t cs = some x → Sized P t x.1 → all2 (okz d w) ks cs) :
    ∀ (fs : List Field) (off : Nat) (ks : List Sh), shFields P rec off fs = some ks →
      (∀ f ∈ fs, ∃ fuel x, DataW.trod enc P w base spare held fuel f.type ((cs.drop f.offset).take (P.cellsOf f.type)) = some x ∧ Sized P f.type x.1) →
      all2 (okz d w) ks ((cs.drop off).take ks.length)
  | [], off, ks, h, _ => by
    simp only [shFields, Option.some.injEq] at h
    subst h
    exact trivial
  | f :: fs, off, ks, h, hall => by
    unfold shFields at h
    split at h
    · rename_i hoff
      split at h
      · rename_i a b ha hb
        split at h
        · rename_i hlen
          simp only [Option.some.injEq] at h
          subst h
          obtain ⟨fuel, x, hx, hz⟩ := hall f (by simp)
          have h1 := hrec _ _ ha _ _ _ hx hz
          have h2 := fieldsZ_ok hrec fs _ b hb (fun g hg => hall g (by simp [hg]))
          rw [hoff] at h1
          have e1 := forall2_length h1
          have e : (cs.drop off).take (a ++ b).length = (cs.drop off).take (P.cellsOf f.type) ++ (cs.drop (off + P.cellsOf f.type)).take b.length := by
            rw [List.length_append, hlen, List.take_add, List.drop_drop]
          rw [e]
          exact forall2_append h1 h2
        · cases h
      · cases h
    · cases h
theorem shape_okz : ∀ (d : Nat) (t : TypeId) (ks : List Sh), shapeOf P d t = some ks → ∀ fuel cs x, DataW.trod enc P w base spare held fuel t cs = some x → Sized P t x.1 → all2 (okz d w) ks cs
  | 0, _, _, h, _, _, _, _, _ => by cases h
  | d + 1, t, ks, h, fuel, cs, x, hx, hz => by
    unfold shapeOf at h
    split at h
    · rename_i ht
      simp only [Option.some.injEq] at h; subst h
      obtain ⟨b, rfl, _⟩ := DataW.trod_bool ht hx
      exact ⟨⟨b, rfl⟩, trivial⟩
    · rename_i ht
      simp only [Option.some.injEq] at h; subst h
      obtain ⟨n, rfl, _, hw⟩ := DataW.trod_int ht hx
      exact ⟨⟨n, rfl, hw⟩, trivial⟩
    · rename_i ht
      simp only [Option.some.injEq] at h; subst h
      obtain ⟨s, rfl, hxe, hs⟩ := DataW.trod_string ht hx
      subst hxe
      exact ⟨⟨s, rfl, sized_str hz⟩, trivial⟩
    · rename_i e ht
      split at h
      · rename_i es he
        split at h
        · rename_i hlen
          simp only [Option.some.injEq] at h; subst h
          rcases open_slice ht hx with ⟨rfl, _⟩ | ⟨a, len, cap, m, n, D, Pl, rfl, _, hl, hm, hmm, hxe, hel⟩
          · exact ⟨⟨0, [], rd_nil w _, fun i hi => absurd hi (Nat.not_lt_zero _)⟩, trivial⟩
          · refine ⟨?_, trivial⟩
            subst hxe
            have hlm : len ≤ m := by rw [hmm]; split <;> omega
            have hch : ∀ i, i < len → ∃ c : List Value, w.cells? base (a.add (i * P.cellsOf e)) (P.cellsOf e) = some c ∧ all2 (okz d w) es c := fun i hi => by
              obtain ⟨c, h1, h2⟩ := hel i (by omega)
              exact ⟨c, h1, shape_okz d e es he _ _ _ h2 (sized_elem ht hz (List.mem_map.2 ⟨i, List.mem_range.2 hi, rfl⟩))⟩
            obtain ⟨C, hC⟩ := choose_lt hch
            obtain ⟨xs, x1, x2, x3⟩ := cells_rows (fun i hi => (hC i hi).1)
            refine ⟨len, xs, ⟨by rw [x1, hlen], Or.inr ⟨a, cap, rfl, hl, hm, x3⟩⟩, fun i hi => ?_⟩
            rw [hlen, x2 i hi]
            exact (hC i hi).2
        · cases h
      · cases h
    · rename_i fs ht
      split at h
      · rename_i ks' hk
        split at h
        · rename_i hlen
          simp only [Option.some.injEq] at h; subst h
          obtain ⟨xs, n, _, hxe, hcl, hxl, hf⟩ := DataW.trod_struct ht hx
          subst hxe
          have := fieldsZ_ok (cs := cs) (shape_okz d) fs.toList 0 ks' hk (fun f hfm => by
            obtain ⟨i, hi, hif⟩ := List.mem_iff_getElem.1 hfm
            have h2 : i < fs.size := by simpa using hi
            have hfi : fs[i]? = some f := by rw [← hif]; simp [h2]
            have := hf i f hfi
            rw [List.getElem?_eq_getElem (by omega)] at this
            exact ⟨n, _, this, sized_field ht hz hfi (by rw [List.getElem?_map, List.getElem?_eq_getElem (by omega)]; rfl)⟩)
          rw [List.drop_zero, List.take_of_length_le (by omega)] at this
          exact this.imp fun s v => okz_mono d s v
        · cases h
      · cases h
    · rename_i n e ht
      split at h
      · rename_i es he
        split at h
        · rename_i hlen
          simp only [Option.some.injEq] at h; subst h
          obtain ⟨xs, m, _, hxe, hcl, hxl, hf⟩ := DataW.trod_array ht hx
          subst hxe
          have key : ∀ k, k ≤ n → all2 (okz (d + 1) w) (List.replicate k es).flatten (cs.take (k * P.cellsOf e)) := by
            intro k hk
            induction k with
            | zero => simp [all2]
            | succ k ih =>
              rw [List.replicate_succ', List.flatten_append, Nat.succ_mul, List.take_add]
              refine forall2_append (ih (by omega)) ?_
              have hk2 := hf k (by omega)
              rw [List.getElem?_eq_getElem (by omega)] at hk2
              have := (shape_okz d e es he _ _ _ hk2 (sized_part ht hz (List.mem_map.2 ⟨_, List.getElem_mem (by omega), rfl⟩))).imp fun s v => okz_mono d s v
              simpa using this
          have := key n (Nat.le_refl _)
          rwa [List.take_of_length_le (by rw [hcl, ← hlen.2, hlen.1]; omega)] at this
        · cases h
      · cases h
    · cases h
end
def Decz {T : Type} (d : Nat) (w : World) (ks : List Sh) (enc : T → List CV) (good : T → Prop) : Prop := ∀ cs, all2 (okz d w) ks cs → ∃ x, RepCs (all w).cell (enc x) cs ∧ good x
theorem decz_str {d : Nat} {w : World} {v : Value} (h : okz d w .str v) : ∃ s : ByteArray, RepC (all w).cell (.v (.string s)) v ∧ s.size ≤ reachBytes := by
  cases d with
  | zero => exact h.elim
  | succ d => obtain ⟨s, rfl, hs⟩ := h; exact ⟨s, .v rfl, hs⟩
theorem decz_int {d : Nat} {w : World} {v : Value} (h : okz d w .int v) : ∃ n : Int, RepC (all w).cell (.v (.int .i64 n)) v ∧ (Lit.int .i64 n).wf = true := by
  cases d with
  | zero => exact h.elim
  | succ d => obtain ⟨s, rfl, hs⟩ := h; exact ⟨s, .v rfl, hs⟩
theorem decz_bool {d : Nat} {w : World} {v : Value} (h : okz d w .bool v) : ∃ b : Bool, RepC (all w).cell (.v (.bool b)) v := by
  cases d with
  | zero => exact h.elim
  | succ d => obtain ⟨s, rfl⟩ := h; exact ⟨s, .v rfl⟩
theorem decz_sl {T : Type} {d : Nat} {w : World} {es : List Sh} {enc : T → List CV} {good : T → Prop} (hdec : Decz d w es enc good) {v : Value} (h : okz (d + 1) w (.sl es) v) :
    ∃ l : List T, RepC (all w).cell (.sl false l.length (l.flatMap enc)) v ∧ ∀ x ∈ l, good x := by
  obtain ⟨n, cs, h1, h2⟩ := h
  obtain ⟨l, h3, h4, h5⟩ := rowsC_of (C := (all w).cell) enc good es.length n cs h1.1 (fun i hi => hdec _ (h2 i hi))
  refine ⟨l, ?_, h5⟩
  rcases h1.2 with ⟨rfl, h0⟩ | ⟨a, cap, rfl, g3, g4, g5⟩
  · have : l = [] := List.eq_nil_of_length_eq_zero (by omega)
    subst this
    exact .sl (xs := []) rfl (fun i c x h => by simp at h) (Nat.le_refl _) ⟨Nat.zero_le _, fun _ => rfl⟩ (fun e => by cases e) (fun j x hx => by simp at hx)
  · rw [h3]
    refine .sl (xs := cs) h4.1 h4.2 g3 ⟨g4, fun e => by cases e⟩ (fun e => by cases e) (fun j x hx => ?_)
    have h6 := g5 j x hx
    have hl := (List.getElem?_eq_some_iff.1 hx).1
    have h7 := g5 0 (cs[0]'(by omega)) (by simp)
    have hsp := spot_of_add h7
    obtain ⟨g, off, sp⟩ := a
    simp only at hsp
    subst hsp
    rw [add_none] at h6
    exact ⟨g, off, rfl, h6⟩
section
variable {H : Type} {enc : TypeId × Value → H} {P : Program} {w : World} {base b0 : Nat} {spare : Nat → Bool} {held : Bool} {r : Reach} {d : Nat} {t : TypeId} {v : Value} {x : DataW H} {ps : List MemPlace}
theorem openz_agg {T : Type} {encT : T → List CV} {good : T → Prop} {fs : Array Field} {ks : List Sh} (ht : P.underlying t = some (.struct fs)) (hs : shapeOf P d t = some ks) (hdec : Decz d w ks encT good) (hval : Value.okWide P w r b0 t v) (hd : DataW.Trod enc P w base spare held t v x ps) (hz : Sized P t x) :
    ∃ a : T, Rep (all w) (.agg (encT a)) v ∧ good a := by
  obtain ⟨cs, rfl, _⟩ := okWide_struct ht hval
  obtain ⟨fuel, hf⟩ := hd
  obtain ⟨a, h1, h2⟩ := hdec cs.toList (shape_okz d t ks hs _ _ _ hf hz)
  exact ⟨a, .agg (by simpa using h1), h2⟩
end
theorem all2_split {α β : Type} {R : α → β → Prop} : ∀ {a b : List α} {cs : List β}, all2 R (a ++ b) cs → ∃ x y, cs = x ++ y ∧ all2 R a x ∧ all2 R b y
  | [], b, cs, h => ⟨[], cs, rfl, trivial, h⟩
  | k :: a, b, cs, h => by
    obtain ⟨c, r, rfl, h0, h1⟩ := all2_cons (show all2 R (k :: (a ++ b)) cs from h)
    obtain ⟨x, y, rfl, h2, h3⟩ := all2_split h1
    exact ⟨c :: x, y, rfl, ⟨h0, h2⟩, h3⟩
theorem maxLen_of {n : Nat} (h : n ≤ reachBytes) : n ≤ maxLen := Nat.le_trans h (by decide)
theorem i64_of {n : Int} (h : (Lit.int .i64 n).wf = true) : -9223372036854775808 ≤ n ∧ n ≤ 9223372036854775807 := by
  simp only [Lit.wf, Bool.and_eq_true, decide_eq_true_eq] at h
  exact h
theorem decz_sl1 {T : Type} {d : Nat} {w : World} {es : List Sh} {enc : T → List CV} {good : T → Prop} (hdec : Decz d w es enc good) : Decz (d + 1) w [.sl es] (fun l : List T => [.sl false l.length (l.flatMap enc)]) (fun l => ∀ x ∈ l, good x) := fun cs t0 => by
  obtain ⟨c0, r0, rfl, h0, t1⟩ := all2_cons t0
  obtain rfl := all2_nil t1
  obtain ⟨l, h1, h2⟩ := decz_sl hdec h0
  exact ⟨l, .cons h1 .nil, h2⟩
theorem stZ {d : Nat} {w : World} : Decz d w [.str] stC (fun s => s.size ≤ reachBytes) := fun cs t0 => by
  obtain ⟨c0, r0, rfl, h0, t1⟩ := all2_cons t0
  obtain rfl := all2_nil t1
  obtain ⟨x0, e0, g0⟩ := decz_str h0
  exact ⟨x0, .cons e0 .nil, g0⟩
def atSh : List Sh := [.str, .str, .int, .bool, .str, .bool, .str, .bool, .str, .bool, .str]
theorem atZ {d : Nat} {w : World} : Decz d w atSh atC AtOk := fun cs t => by
  obtain ⟨c0, r0, rfl, h0, t⟩ := all2_cons t
  obtain ⟨c1, r1, rfl, h1, t⟩ := all2_cons t
  obtain ⟨c2, r2, rfl, h2, t⟩ := all2_cons t
  obtain ⟨c3, r3, rfl, h3, t⟩ := all2_cons t
  obtain ⟨c4, r4, rfl, h4, t⟩ := all2_cons t
  obtain ⟨c5, r5, rfl, h5, t⟩ := all2_cons t
  obtain ⟨c6, r6, rfl, h6, t⟩ := all2_cons t
  obtain ⟨c7, r7, rfl, h7, t⟩ := all2_cons t
  obtain ⟨c8, r8, rfl, h8, t⟩ := all2_cons t
  obtain ⟨c9, r9, rfl, h9, t⟩ := all2_cons t
  obtain ⟨c10, r10, rfl, h10, t⟩ := all2_cons t
  obtain rfl := all2_nil t
  obtain ⟨x0, e0, g0⟩ := decz_str h0
  obtain ⟨x1, e1, g1⟩ := decz_str h1
  obtain ⟨x2, e2, g2⟩ := decz_int h2
  obtain ⟨x3, e3⟩ := decz_bool h3
  obtain ⟨x4, e4, g4⟩ := decz_str h4
  obtain ⟨x5, e5⟩ := decz_bool h5
  obtain ⟨x6, e6, g6⟩ := decz_str h6
  obtain ⟨x7, e7⟩ := decz_bool h7
  obtain ⟨x8, e8, g8⟩ := decz_str h8
  obtain ⟨x9, e9⟩ := decz_bool h9
  obtain ⟨x10, e10, g10⟩ := decz_str h10
  exact ⟨⟨x0, x1, x2, ⟨x3, x4⟩, ⟨x5, x6⟩, ⟨x7, x8⟩, ⟨x9, x10⟩⟩, .cons e0 (.cons e1 (.cons e2 (.cons e3 (.cons e4 (.cons e5 (.cons e6 (.cons e7 (.cons e8 (.cons e9 (.cons e10 .nil)))))))))), maxLen_of g0, maxLen_of g1, g2, maxLen_of g4, maxLen_of g6, maxLen_of g8, maxLen_of g10⟩
theorem sized_of {H : Type} {P : Program} {ts : List TypeId} {ds : List (DataW H)} (h : (DataW.weightsEach P ts ds).all (· ≤ reachBytes) = true) {j : Nat} {t : TypeId} {x : DataW H} (ht : ts[j]? = some t) (hd : ds[j]? = some x) : Sized P t x := fun n hn => by
  simpa using List.all_eq_true.1 h _ (DataW.weights_mem_each ht hd n hn)
end Go.Vs.Ab
namespace Go.Proofs.YtaeehadibckcjaaDoor
open Go.RowKit Go.Vs Go.Vs.Ab
theorem prZ {d : Nat} {w : World} : Decz d w [.str, .int] prC (fun p => -9223372036854775808 ≤ p.ar ∧ p.ar ≤ 9223372036854775807) := fun cs t => by
  obtain ⟨c0, r0, rfl, h0, t⟩ := all2_cons t
  obtain ⟨c1, r1, rfl, h1, t⟩ := all2_cons t
  obtain rfl := all2_nil t
  obtain ⟨x0, e0, g0⟩ := decz_str h0
  obtain ⟨x1, e1, g1⟩ := decz_int h1
  exact ⟨⟨x0, x1⟩, .cons e0 (.cons e1 .nil), i64_of g1⟩
theorem clZ {d : Nat} {w : World} : Decz (d + 1) w [.str, .sl [.str]] clC (fun c => ∀ s ∈ c.reads, s.size ≤ reachBytes) := fun cs t => by
  obtain ⟨c0, r0, rfl, h0, t⟩ := all2_cons t
  obtain ⟨c1, r1, rfl, h1, t⟩ := all2_cons t
  obtain rfl := all2_nil t
  obtain ⟨x0, e0, g0⟩ := decz_str h0
  obtain ⟨l, e1, g1⟩ := decz_sl stZ h1
  exact ⟨⟨x0, false, l⟩, .cons e0 (.cons e1 .nil), g1⟩
theorem ruZ {d : Nat} {w : World} : Decz (d + 1) w (atSh ++ [.sl atSh]) ruC (fun r => AtOk r.head ∧ ∀ a ∈ r.body, AtOk a) := fun cs t => by
  obtain ⟨x, y, rfl, t0, t1⟩ := all2_split t
  obtain ⟨a, e0, g0⟩ := atZ x t0
  obtain ⟨l, e1, g1⟩ := decz_sl1 atZ y t1
  exact ⟨⟨a, false, l⟩, RepCs.append e0 e1, g0, g1⟩
theorem grZ {d : Nat} {w : World} : Decz (d + 1) w (.str :: (atSh ++ [.sl atSh])) grC (fun g => AtOk g.head ∧ ∀ a ∈ g.body, AtOk a) := fun cs t => by
  obtain ⟨c0, r0, rfl, h0, t⟩ := all2_cons t
  obtain ⟨x, y, rfl, t0, t1⟩ := all2_split t
  obtain ⟨s, e, _⟩ := decz_str h0
  obtain ⟨a, e0, g0⟩ := atZ x t0
  obtain ⟨l, e1, g1⟩ := decz_sl1 atZ y t1
  exact ⟨⟨s, a, false, l⟩, .cons e (RepCs.append e0 e1), g0, g1⟩
def poSh : List Sh := [.sl [.str], .sl [.str, .int], .sl [.str, .sl [.str]], .int, .int, .sl (atSh ++ [.sl atSh]), .sl (.str :: (atSh ++ [.sl atSh]))]
theorem poZ {d : Nat} {w : World} : Decz (d + 2) w poSh poC PolNum := fun cs t => by
  obtain ⟨c0, r0, rfl, h0, t⟩ := all2_cons t
  obtain ⟨c1, r1, rfl, h1, t⟩ := all2_cons t
  obtain ⟨c2, r2, rfl, h2, t⟩ := all2_cons t
  obtain ⟨c3, r3, rfl, h3, t⟩ := all2_cons t
  obtain ⟨c4, r4, rfl, h4, t⟩ := all2_cons t
  obtain ⟨c5, r5, rfl, h5, t⟩ := all2_cons t
  obtain ⟨c6, r6, rfl, h6, t⟩ := all2_cons t
  obtain rfl := all2_nil t
  obtain ⟨l0, e0, g0⟩ := decz_sl stZ h0
  obtain ⟨l1, e1, g1⟩ := decz_sl prZ h1
  obtain ⟨l2, e2, g2⟩ := decz_sl clZ h2
  obtain ⟨q, e3, g3⟩ := decz_int h3
  obtain ⟨b, e4, g4⟩ := decz_int h4
  obtain ⟨l5, e5, g5⟩ := decz_sl ruZ h5
  obtain ⟨l6, e6, g6⟩ := decz_sl grZ h6
  exact ⟨⟨false, l0, false, l1, false, l2, q, b, false, l5, false, l6⟩, .cons e0 (.cons e1 (.cons e2 (.cons e3 (.cons e4 (.cons e5 (.cons e6 .nil)))))), g0, g1, g2, i64_of g3, i64_of g4⟩
end Go.Proofs.YtaeehadibckcjaaDoor
namespace Go.Proofs.YtaeehadibckcjaaDoor
open Go.RowKit Go.Vs Go.Vs.Ab
set_option maxRecDepth 100000
set_option maxHeartbeats 4000000
theorem dat_back (p : Pol) : dat (polOf (ppOf p)) = dat p := by
  refine dat_eq.2 ⟨rfl, rfl, rfl, rfl, ?_, ?_, ?_⟩
  · show (p.clears.map nrmC).map clT = _
    rw [List.map_map]
    rfl
  · show (p.rules.map nrmR).map ruT = _
    rw [List.map_map]
    rfl
  · show (p.grants.map nrmG).map grT = _
    rw [List.map_map]
    rfl
theorem map_by {A B C : Type} {f : A → C} {t : A → B} (g : B → C) (hg : ∀ x, f x = g (t x)) {a b : List A} (h : a.map t = b.map t) : a.map f = b.map f := by
  have e : ∀ l : List A, l.map f = (l.map t).map g := fun l => by
    rw [List.map_map]
    exact List.map_congr_left fun x _ => hg x
  rw [e, e, h]
theorem policy_dat {a b : Pol} (h : dat a = dat b) : pPolicy a = pPolicy b := by
  obtain ⟨h1, h2, h3, h4, h5, h6, h7⟩ := dat_eq.1 h
  have k2 : a.preds.map (fun x => lnOf (prPred x)) = b.preds.map (fun x => lnOf (prPred x)) := map_by (t := prT) (fun y => lnOf [tPred, y.1, tSl, itoaB y.2]) (fun _ => rfl) h2
  have k5 : a.clears.map (fun x => lnOf (prClr x)) = b.clears.map (fun x => lnOf (prClr x)) := map_by (t := clT) (fun y => lnOf (prClr ⟨y.1, true, y.2⟩)) (fun _ => rfl) h5
  have k6 : a.rules.map (fun x => lnOf (prRul x)) = b.rules.map (fun x => lnOf (prRul x)) := map_by (t := ruT) (fun y => lnOf (prRul ⟨y.1, true, y.2⟩)) (fun _ => rfl) h6
  have k7 : a.grants.map (fun x => lnOf (prGrt x)) = b.grants.map (fun x => lnOf (prGrt x)) := map_by (t := grT) (fun y => lnOf (prGrt ⟨y.1, y.2.1, true, y.2.2⟩)) (fun _ => rfl) h7
  rw [policy_lines, policy_lines]
  unfold linesP
  rw [h1, k2, k5, h3, h4, k6, k7]
theorem same_text {p q : Pol} (hp : plainP p = true) (hq : plainP q = true) (hz : (pPolicy p).size ≤ 65536) : decide (pPolicy q = pPolicy p) = decide (dat p = dat q) := by
  rw [decide_eq_decide]
  constructor
  · intro h
    have h1 := back_law hp hz
    have h2 := back_law hq (by rw [h]; exact hz)
    rw [h, h1] at h2
    have h3 : polOf (ppOf p) = polOf (ppOf q) := congrArg Prod.fst h2
    rw [← dat_back p, ← dat_back q, h3]
  · intro h
    exact (policy_dat h).symm
theorem prin_size {s : ByteArray} (h : pprincipal s = true) : s.size ≤ 255 := by
  unfold pprincipal pconstant pconst0 at h
  simp only [Bool.and_eq_true, decide_eq_true_eq] at h
  exact h.1.1.1.1
theorem term_size {t : Tm} (h : ptermok t = true) : t.name.size ≤ 255 := by
  unfold ptermok at h
  split at h
  · unfold pvariable at h
    simp only [Bool.and_eq_true, decide_eq_true_eq] at h
    exact h.1.1
  · unfold pconstant pconst0 at h
    simp only [Bool.and_eq_true, decide_eq_true_eq] at h
    exact h.1.1.1
theorem saidK_small {a : Atm} (h : pcheck3 a = 0) : ∀ k, k ≤ a.count → (psaidK a k).size ≤ 255 + k * 257
  | 0, _ => prin_size (ok_parts h).2.1
  | k + 1, hk => by
    have ih := saidK_small h k (by omega)
    have ht := term_size (ok_term h (k := k) (by omega))
    have z1 : tOpen.size = 1 := rfl
    have z2 : tComma.size = 2 := rfl
    unfold psaidK
    rw [app_size, app_size]
    split <;> omega
theorem text_small {a : Atm} (h : pcheck3 a = 0) : (ptext a).size ≤ 1600 := by
  have h1 := prin_size (ok_parts h).1
  have h2 := prin_size (ok_parts h).2.1
  have h3 := saidK_small h a.count (Nat.le_refl _)
  have h4 := a.count_le
  have z1 : tSays.size = 6 := rfl
  have z2 : tShut.size = 1 := rfl
  unfold ptext psaid
  rw [app_size, app_size]
  split
  · rw [app_size]; omega
  · omega
theorem polLen_ok {p : Pol} (h : PolOk p) : PolLen p := ⟨by have := h.prin.1; omega, by have := h.preds.1; omega, ⟨by have := h.clears.1; omega, fun c hc => by have := (h.clears.2 c hc).2.1; omega⟩, ⟨by have := h.rules.1; omega, fun c hc => by have := (h.rules.2 c hc).2.2; omega⟩, ⟨by have := h.grants.1; omega, fun c hc => by have := (h.grants.2 c hc).2.2.2; omega⟩⟩
theorem polLen_back {p : Pol} (h : PolOk p) : PolLen (polOf (ppOf p)) := by
  have k := polLen_ok h
  refine ⟨k.prin, k.preds, ⟨?_, ?_⟩, ⟨?_, ?_⟩, ⟨?_, ?_⟩⟩
  · show (p.clears.map nrmC).length ≤ _
    rw [List.length_map]; exact k.clears.1
  · intro c hc
    have hc : c ∈ p.clears.map nrmC := hc
    obtain ⟨d, hd, rfl⟩ := List.mem_map.1 hc
    exact k.clears.2 d hd
  · show (p.rules.map nrmR).length ≤ _
    rw [List.length_map]; exact k.rules.1
  · intro c hc
    have hc : c ∈ p.rules.map nrmR := hc
    obtain ⟨d, hd, rfl⟩ := List.mem_map.1 hc
    exact k.rules.2 d hd
  · show (p.grants.map nrmG).length ≤ _
    rw [List.length_map]; exact k.grants.1
  · intro c hc
    have hc : c ∈ p.grants.map nrmG := hc
    obtain ⟨d, hd, rfl⟩ := List.mem_map.1 hc
    exact k.grants.2 d hd
theorem neq_bool (b : Bool) : pureVal Tryd.prog (binOp .neq 4 (.bool b) (.bool b)) = some (.bool false) := by
  cases b
  all_goals kernel_rfl
theorem pback_does (p q : Pol) (a : Atm) (hp : PolNum p) (hq : PolNum q) : Does Tryd.prog 7 [poA p, poA q, atA a] (fun m => (bA true, m)) := by
  have c0 := lives11_does
  have cLp := lightP_does p
  have cLq := lightP_does q
  have cLa := lightA_does a
  cases h1 : lightP p with
  | false =>
    rw [h1] at cLp
    refine does_of' Tryd.func7 rfl (by kernel_rfl) rfl Tryd.ntmps7 rfl rfl fun Q hQ => ?_
    repeat (first | refine tr_seq_k fun _ _ => ?_ | (refine tr_region ?_; simp only [go_sem, reduceCtorEq, Nat.reduceEqDiff, Nat.reduceLT, Nat.reduceLeDiff, Nat.reduceAdd, Nat.reduceMul, Nat.reduceSub, Nat.reduceBEq, ↓reduceIte]) | (refine call_of (c0) ?_ ?_; (first | rfl | simp only [go_sem, reduceCtorEq, Nat.reduceEqDiff, Nat.reduceLT, Nat.reduceLeDiff, Nat.reduceAdd, Nat.reduceMul, Nat.reduceSub, Nat.reduceBEq, ↓reduceIte, shut_col]); simp only [go_sem, reduceCtorEq, Nat.reduceEqDiff, Nat.reduceLT, Nat.reduceLeDiff, Nat.reduceAdd, Nat.reduceMul, Nat.reduceSub, Nat.reduceBEq, ↓reduceIte]) | refine k_of (by assumption) ?_)
    refine tr_cond rfl (fun ht => ?_) (fun hf => ?_)
    · cases ht
    · repeat (first | refine tr_seq_k fun _ _ => ?_ | (refine tr_region ?_; simp only [go_sem, reduceCtorEq, Nat.reduceEqDiff, Nat.reduceLT, Nat.reduceLeDiff, Nat.reduceAdd, Nat.reduceMul, Nat.reduceSub, Nat.reduceBEq, ↓reduceIte]) | (refine call_of (cLp) ?_ ?_; (first | rfl | simp only [go_sem, reduceCtorEq, Nat.reduceEqDiff, Nat.reduceLT, Nat.reduceLeDiff, Nat.reduceAdd, Nat.reduceMul, Nat.reduceSub, Nat.reduceBEq, ↓reduceIte, shut_col]); simp only [go_sem, reduceCtorEq, Nat.reduceEqDiff, Nat.reduceLT, Nat.reduceLeDiff, Nat.reduceAdd, Nat.reduceMul, Nat.reduceSub, Nat.reduceBEq, ↓reduceIte]) | refine k_of (by assumption) ?_ | (refine tr_skip ?_; try simp only [ex_seq, ex_block]))
      refine tr_cond rfl (fun ht => ?_) (fun hf => ?_)
      · repeat (first | refine tr_seq_k fun _ _ => ?_ | (refine tr_region ?_; simp only [go_sem, reduceCtorEq, Nat.reduceEqDiff, Nat.reduceLT, Nat.reduceLeDiff, Nat.reduceAdd, Nat.reduceMul, Nat.reduceSub, Nat.reduceBEq, ↓reduceIte]) | refine k_of (by assumption) ?_ | (refine tr_ret ?_; try simp only [ex_seq_ret, ex_block_ret]))
        refine (hQ _ _ [bA true] ?_ (fun m => ?_)).2 <;> simp only [go_sem, reduceCtorEq, Nat.reduceEqDiff, Nat.reduceLT, Nat.reduceLeDiff, Nat.reduceAdd, Nat.reduceMul, Nat.reduceSub, Nat.reduceBEq, ↓reduceIte, Tryd.f7,]
      · cases hf
  | true =>
   rw [h1] at cLp
   cases h2 : lightP q with
   | false =>
    rw [h2] at cLq
    refine does_of' Tryd.func7 rfl (by kernel_rfl) rfl Tryd.ntmps7 rfl rfl fun Q hQ => ?_
    repeat (first | refine tr_seq_k fun _ _ => ?_ | (refine tr_region ?_; simp only [go_sem, reduceCtorEq, Nat.reduceEqDiff, Nat.reduceLT, Nat.reduceLeDiff, Nat.reduceAdd, Nat.reduceMul, Nat.reduceSub, Nat.reduceBEq, ↓reduceIte]) | (refine call_of (c0) ?_ ?_; (first | rfl | simp only [go_sem, reduceCtorEq, Nat.reduceEqDiff, Nat.reduceLT, Nat.reduceLeDiff, Nat.reduceAdd, Nat.reduceMul, Nat.reduceSub, Nat.reduceBEq, ↓reduceIte, shut_col]); simp only [go_sem, reduceCtorEq, Nat.reduceEqDiff, Nat.reduceLT, Nat.reduceLeDiff, Nat.reduceAdd, Nat.reduceMul, Nat.reduceSub, Nat.reduceBEq, ↓reduceIte]) | refine k_of (by assumption) ?_)
    refine tr_cond rfl (fun ht => ?_) (fun hf => ?_)
    · cases ht
    · repeat (first | refine tr_seq_k fun _ _ => ?_ | (refine tr_region ?_; simp only [go_sem, reduceCtorEq, Nat.reduceEqDiff, Nat.reduceLT, Nat.reduceLeDiff, Nat.reduceAdd, Nat.reduceMul, Nat.reduceSub, Nat.reduceBEq, ↓reduceIte]) | (refine call_of (cLp) ?_ ?_; (first | rfl | simp only [go_sem, reduceCtorEq, Nat.reduceEqDiff, Nat.reduceLT, Nat.reduceLeDiff, Nat.reduceAdd, Nat.reduceMul, Nat.reduceSub, Nat.reduceBEq, ↓reduceIte, shut_col]); simp only [go_sem, reduceCtorEq, Nat.reduceEqDiff, Nat.reduceLT, Nat.reduceLeDiff, Nat.reduceAdd, Nat.reduceMul, Nat.reduceSub, Nat.reduceBEq, ↓reduceIte]) | (refine call_of (cLq) ?_ ?_; (first | rfl | simp only [go_sem, reduceCtorEq, Nat.reduceEqDiff, Nat.reduceLT, Nat.reduceLeDiff, Nat.reduceAdd, Nat.reduceMul, Nat.reduceSub, Nat.reduceBEq, ↓reduceIte, shut_col]); simp only [go_sem, reduceCtorEq, Nat.reduceEqDiff, Nat.reduceLT, Nat.reduceLeDiff, Nat.reduceAdd, Nat.reduceMul, Nat.reduceSub, Nat.reduceBEq, ↓reduceIte]) | refine k_of (by assumption) ?_ | (refine tr_skip ?_; try simp only [ex_seq, ex_block]))
      refine tr_cond rfl (fun ht => ?_) (fun hf => ?_)
      · repeat (first | refine tr_seq_k fun _ _ => ?_ | (refine tr_region ?_; simp only [go_sem, reduceCtorEq, Nat.reduceEqDiff, Nat.reduceLT, Nat.reduceLeDiff, Nat.reduceAdd, Nat.reduceMul, Nat.reduceSub, Nat.reduceBEq, ↓reduceIte]) | refine k_of (by assumption) ?_ | (refine tr_ret ?_; try simp only [ex_seq_ret, ex_block_ret]))
        refine (hQ _ _ [bA true] ?_ (fun m => ?_)).2 <;> simp only [go_sem, reduceCtorEq, Nat.reduceEqDiff, Nat.reduceLT, Nat.reduceLeDiff, Nat.reduceAdd, Nat.reduceMul, Nat.reduceSub, Nat.reduceBEq, ↓reduceIte, Tryd.f7,]
      · cases hf
   | true =>
    rw [h2] at cLq
    cases h3 : lightA a with
    | false =>
     rw [h3] at cLa
     refine does_of' Tryd.func7 rfl (by kernel_rfl) rfl Tryd.ntmps7 rfl rfl fun Q hQ => ?_
     repeat (first | refine tr_seq_k fun _ _ => ?_ | (refine tr_region ?_; simp only [go_sem, reduceCtorEq, Nat.reduceEqDiff, Nat.reduceLT, Nat.reduceLeDiff, Nat.reduceAdd, Nat.reduceMul, Nat.reduceSub, Nat.reduceBEq, ↓reduceIte]) | (refine call_of (c0) ?_ ?_; (first | rfl | simp only [go_sem, reduceCtorEq, Nat.reduceEqDiff, Nat.reduceLT, Nat.reduceLeDiff, Nat.reduceAdd, Nat.reduceMul, Nat.reduceSub, Nat.reduceBEq, ↓reduceIte, shut_col]); simp only [go_sem, reduceCtorEq, Nat.reduceEqDiff, Nat.reduceLT, Nat.reduceLeDiff, Nat.reduceAdd, Nat.reduceMul, Nat.reduceSub, Nat.reduceBEq, ↓reduceIte]) | refine k_of (by assumption) ?_)
     refine tr_cond rfl (fun ht => ?_) (fun hf => ?_)
     · cases ht
     · repeat (first | refine tr_seq_k fun _ _ => ?_ | (refine tr_region ?_; simp only [go_sem, reduceCtorEq, Nat.reduceEqDiff, Nat.reduceLT, Nat.reduceLeDiff, Nat.reduceAdd, Nat.reduceMul, Nat.reduceSub, Nat.reduceBEq, ↓reduceIte]) | (refine call_of (cLp) ?_ ?_; (first | rfl | simp only [go_sem, reduceCtorEq, Nat.reduceEqDiff, Nat.reduceLT, Nat.reduceLeDiff, Nat.reduceAdd, Nat.reduceMul, Nat.reduceSub, Nat.reduceBEq, ↓reduceIte, shut_col]); simp only [go_sem, reduceCtorEq, Nat.reduceEqDiff, Nat.reduceLT, Nat.reduceLeDiff, Nat.reduceAdd, Nat.reduceMul, Nat.reduceSub, Nat.reduceBEq, ↓reduceIte]) | (refine call_of (cLq) ?_ ?_; (first | rfl | simp only [go_sem, reduceCtorEq, Nat.reduceEqDiff, Nat.reduceLT, Nat.reduceLeDiff, Nat.reduceAdd, Nat.reduceMul, Nat.reduceSub, Nat.reduceBEq, ↓reduceIte, shut_col]); simp only [go_sem, reduceCtorEq, Nat.reduceEqDiff, Nat.reduceLT, Nat.reduceLeDiff, Nat.reduceAdd, Nat.reduceMul, Nat.reduceSub, Nat.reduceBEq, ↓reduceIte]) | (refine call_of (cLa) ?_ ?_; (first | rfl | simp only [go_sem, reduceCtorEq, Nat.reduceEqDiff, Nat.reduceLT, Nat.reduceLeDiff, Nat.reduceAdd, Nat.reduceMul, Nat.reduceSub, Nat.reduceBEq, ↓reduceIte, shut_col]); simp only [go_sem, reduceCtorEq, Nat.reduceEqDiff, Nat.reduceLT, Nat.reduceLeDiff, Nat.reduceAdd, Nat.reduceMul, Nat.reduceSub, Nat.reduceBEq, ↓reduceIte]) | refine k_of (by assumption) ?_ | (refine tr_skip ?_; try simp only [ex_seq, ex_block]))
       refine tr_cond rfl (fun ht => ?_) (fun hf => ?_)
       · repeat (first | refine tr_seq_k fun _ _ => ?_ | (refine tr_region ?_; simp only [go_sem, reduceCtorEq, Nat.reduceEqDiff, Nat.reduceLT, Nat.reduceLeDiff, Nat.reduceAdd, Nat.reduceMul, Nat.reduceSub, Nat.reduceBEq, ↓reduceIte]) | refine k_of (by assumption) ?_ | (refine tr_ret ?_; try simp only [ex_seq_ret, ex_block_ret]))
         refine (hQ _ _ [bA true] ?_ (fun m => ?_)).2 <;> simp only [go_sem, reduceCtorEq, Nat.reduceEqDiff, Nat.reduceLT, Nat.reduceLeDiff, Nat.reduceAdd, Nat.reduceMul, Nat.reduceSub, Nat.reduceBEq, ↓reduceIte, Tryd.f7,]
       · cases hf
    | true =>
     rw [h3] at cLa
     obtain ⟨hk, _⟩ := light_ok h1 hp
     obtain ⟨hkq, _⟩ := light_ok h2 hq
     have ha := lightA_sz h3
     have cT := polText_does p hk
     have cTq := polText_does q hkq
     have cN := plain_does p hk
     have cNq := plain_does q hkq
     have cK := check3_does a
     have cG := goal_does a ha
     have eq := fun u v => bin_eqA' u v a a
     rw [decide_eq_true rfl] at eq
     simp only [pv_bind] at eq
     cases h4 : plainP p with
     | false =>
      rw [h4] at cN
      refine does_of' Tryd.func7 rfl (by kernel_rfl) rfl Tryd.ntmps7 rfl rfl fun Q hQ => ?_
      repeat (first | refine tr_seq_k fun _ _ => ?_ | (refine tr_region ?_; simp only [go_sem, reduceCtorEq, Nat.reduceEqDiff, Nat.reduceLT, Nat.reduceLeDiff, Nat.reduceAdd, Nat.reduceMul, Nat.reduceSub, Nat.reduceBEq, ↓reduceIte]) | (refine call_of (c0) ?_ ?_; (first | rfl | simp only [go_sem, reduceCtorEq, Nat.reduceEqDiff, Nat.reduceLT, Nat.reduceLeDiff, Nat.reduceAdd, Nat.reduceMul, Nat.reduceSub, Nat.reduceBEq, ↓reduceIte, shut_col]); simp only [go_sem, reduceCtorEq, Nat.reduceEqDiff, Nat.reduceLT, Nat.reduceLeDiff, Nat.reduceAdd, Nat.reduceMul, Nat.reduceSub, Nat.reduceBEq, ↓reduceIte]) | refine k_of (by assumption) ?_)
      refine tr_cond rfl (fun ht => ?_) (fun hf => ?_)
      · cases ht
      repeat (first | refine tr_seq_k fun _ _ => ?_ | (refine tr_region ?_; simp only [go_sem, reduceCtorEq, Nat.reduceEqDiff, Nat.reduceLT, Nat.reduceLeDiff, Nat.reduceAdd, Nat.reduceMul, Nat.reduceSub, Nat.reduceBEq, ↓reduceIte]) | (refine call_of (cLp) ?_ ?_; (first | rfl | simp only [go_sem, reduceCtorEq, Nat.reduceEqDiff, Nat.reduceLT, Nat.reduceLeDiff, Nat.reduceAdd, Nat.reduceMul, Nat.reduceSub, Nat.reduceBEq, ↓reduceIte, shut_col]); simp only [go_sem, reduceCtorEq, Nat.reduceEqDiff, Nat.reduceLT, Nat.reduceLeDiff, Nat.reduceAdd, Nat.reduceMul, Nat.reduceSub, Nat.reduceBEq, ↓reduceIte]) | (refine call_of (cLq) ?_ ?_; (first | rfl | simp only [go_sem, reduceCtorEq, Nat.reduceEqDiff, Nat.reduceLT, Nat.reduceLeDiff, Nat.reduceAdd, Nat.reduceMul, Nat.reduceSub, Nat.reduceBEq, ↓reduceIte, shut_col]); simp only [go_sem, reduceCtorEq, Nat.reduceEqDiff, Nat.reduceLT, Nat.reduceLeDiff, Nat.reduceAdd, Nat.reduceMul, Nat.reduceSub, Nat.reduceBEq, ↓reduceIte]) | (refine call_of (cLa) ?_ ?_; (first | rfl | simp only [go_sem, reduceCtorEq, Nat.reduceEqDiff, Nat.reduceLT, Nat.reduceLeDiff, Nat.reduceAdd, Nat.reduceMul, Nat.reduceSub, Nat.reduceBEq, ↓reduceIte, shut_col]); simp only [go_sem, reduceCtorEq, Nat.reduceEqDiff, Nat.reduceLT, Nat.reduceLeDiff, Nat.reduceAdd, Nat.reduceMul, Nat.reduceSub, Nat.reduceBEq, ↓reduceIte]) | refine k_of (by assumption) ?_ | (refine tr_skip ?_; try simp only [ex_seq, ex_block]))
      refine tr_cond rfl (fun ht => ?_) (fun hf => ?_)
      · cases ht
      repeat (first | refine tr_seq_k fun _ _ => ?_ | (refine tr_region ?_; simp only [go_sem, reduceCtorEq, Nat.reduceEqDiff, Nat.reduceLT, Nat.reduceLeDiff, Nat.reduceAdd, Nat.reduceMul, Nat.reduceSub, Nat.reduceBEq, ↓reduceIte]) | (refine call_of (cT) ?_ ?_; (first | rfl | simp only [go_sem, reduceCtorEq, Nat.reduceEqDiff, Nat.reduceLT, Nat.reduceLeDiff, Nat.reduceAdd, Nat.reduceMul, Nat.reduceSub, Nat.reduceBEq, ↓reduceIte, shut_col]); simp only [go_sem, reduceCtorEq, Nat.reduceEqDiff, Nat.reduceLT, Nat.reduceLeDiff, Nat.reduceAdd, Nat.reduceMul, Nat.reduceSub, Nat.reduceBEq, ↓reduceIte]) | (refine call_of (cN) ?_ ?_; (first | rfl | simp only [go_sem, reduceCtorEq, Nat.reduceEqDiff, Nat.reduceLT, Nat.reduceLeDiff, Nat.reduceAdd, Nat.reduceMul, Nat.reduceSub, Nat.reduceBEq, ↓reduceIte, shut_col]); simp only [go_sem, reduceCtorEq, Nat.reduceEqDiff, Nat.reduceLT, Nat.reduceLeDiff, Nat.reduceAdd, Nat.reduceMul, Nat.reduceSub, Nat.reduceBEq, ↓reduceIte]) | refine k_of (by assumption) ?_ | (refine tr_skip ?_; try simp only [ex_seq, ex_block]))
      refine tr_cond rfl (fun ht => ?_) (fun hf => ?_)
      · cases ht
      cases hc : decide (pcheck3 a = 0) with
      | false =>
        repeat (first | refine tr_seq_k fun _ _ => ?_ | (refine tr_region ?_; simp only [go_sem, reduceCtorEq, Nat.reduceEqDiff, Nat.reduceLT, Nat.reduceLeDiff, Nat.reduceAdd, Nat.reduceMul, Nat.reduceSub, Nat.reduceBEq, ↓reduceIte, hc]) | (refine call_of (cK) ?_ ?_; (first | rfl | simp only [go_sem, reduceCtorEq, Nat.reduceEqDiff, Nat.reduceLT, Nat.reduceLeDiff, Nat.reduceAdd, Nat.reduceMul, Nat.reduceSub, Nat.reduceBEq, ↓reduceIte, hc, shut_col]); simp only [go_sem, reduceCtorEq, Nat.reduceEqDiff, Nat.reduceLT, Nat.reduceLeDiff, Nat.reduceAdd, Nat.reduceMul, Nat.reduceSub, Nat.reduceBEq, ↓reduceIte, hc]) | refine k_of (by assumption) ?_ | (refine tr_skip ?_; try simp only [ex_seq, ex_block]))
        refine tr_cond rfl (fun ht => ?_) (fun hf => ?_)
        · repeat (first | refine tr_seq_k fun _ _ => ?_ | (refine tr_region ?_; simp only [go_sem, reduceCtorEq, Nat.reduceEqDiff, Nat.reduceLT, Nat.reduceLeDiff, Nat.reduceAdd, Nat.reduceMul, Nat.reduceSub, Nat.reduceBEq, ↓reduceIte]) | refine k_of (by assumption) ?_ | (refine tr_ret ?_; try simp only [ex_seq_ret, ex_block_ret]))
          refine (hQ _ _ [bA true] ?_ (fun m => ?_)).2 <;> simp only [go_sem, reduceCtorEq, Nat.reduceEqDiff, Nat.reduceLT, Nat.reduceLeDiff, Nat.reduceAdd, Nat.reduceMul, Nat.reduceSub, Nat.reduceBEq, ↓reduceIte, Tryd.f7,]
        · cases hf
      | true =>
        have hz := text_small (of_decide_eq_true hc)
        have hg := goal_law (of_decide_eq_true hc) (by rw [app_size]; have : tQ.size = 1 := rfl; omega)
        have cP := parseGoal_does (ptext a ++ tQ) (by rw [app_size]; have : tQ.size = 1 := rfl; omega)
        rw [hg] at cP
        repeat (first | refine tr_seq_k fun _ _ => ?_ | (refine tr_region ?_; simp only [go_sem, reduceCtorEq, Nat.reduceEqDiff, Nat.reduceLT, Nat.reduceLeDiff, Nat.reduceAdd, Nat.reduceMul, Nat.reduceSub, Nat.reduceBEq, ↓reduceIte, hc]) | (refine call_of (cK) ?_ ?_; (first | rfl | simp only [go_sem, reduceCtorEq, Nat.reduceEqDiff, Nat.reduceLT, Nat.reduceLeDiff, Nat.reduceAdd, Nat.reduceMul, Nat.reduceSub, Nat.reduceBEq, ↓reduceIte, hc, shut_col]); simp only [go_sem, reduceCtorEq, Nat.reduceEqDiff, Nat.reduceLT, Nat.reduceLeDiff, Nat.reduceAdd, Nat.reduceMul, Nat.reduceSub, Nat.reduceBEq, ↓reduceIte, hc]) | refine k_of (by assumption) ?_ | (refine tr_skip ?_; try simp only [ex_seq, ex_block]))
        refine tr_cond rfl (fun ht => ?_) (fun hf => ?_)
        · cases ht
        · repeat (first | refine tr_seq_k fun _ _ => ?_ | (refine tr_region ?_; simp only [go_sem, reduceCtorEq, Nat.reduceEqDiff, Nat.reduceLT, Nat.reduceLeDiff, Nat.reduceAdd, Nat.reduceMul, Nat.reduceSub, Nat.reduceBEq, ↓reduceIte, eq]) | (refine call_of (cG) ?_ ?_; (first | rfl | simp only [go_sem, reduceCtorEq, Nat.reduceEqDiff, Nat.reduceLT, Nat.reduceLeDiff, Nat.reduceAdd, Nat.reduceMul, Nat.reduceSub, Nat.reduceBEq, ↓reduceIte, eq, shut_col]); simp only [go_sem, reduceCtorEq, Nat.reduceEqDiff, Nat.reduceLT, Nat.reduceLeDiff, Nat.reduceAdd, Nat.reduceMul, Nat.reduceSub, Nat.reduceBEq, ↓reduceIte, eq]) | (refine call_of (cP) ?_ ?_; (first | rfl | simp only [go_sem, reduceCtorEq, Nat.reduceEqDiff, Nat.reduceLT, Nat.reduceLeDiff, Nat.reduceAdd, Nat.reduceMul, Nat.reduceSub, Nat.reduceBEq, ↓reduceIte, eq, shut_col]); simp only [go_sem, reduceCtorEq, Nat.reduceEqDiff, Nat.reduceLT, Nat.reduceLeDiff, Nat.reduceAdd, Nat.reduceMul, Nat.reduceSub, Nat.reduceBEq, ↓reduceIte, eq]) | refine k_of (by assumption) ?_ | (refine tr_skip ?_; try simp only [ex_seq, ex_block]) | (refine tr_ret ?_; try simp only [ex_seq_ret, ex_block_ret]))
          refine (hQ _ _ [bA true] ?_ (fun m => ?_)).2 <;> simp only [go_sem, reduceCtorEq, Nat.reduceEqDiff, Nat.reduceLT, Nat.reduceLeDiff, Nat.reduceAdd, Nat.reduceMul, Nat.reduceSub, Nat.reduceBEq, ↓reduceIte, Tryd.f7,]
     | true =>
      rw [h4] at cN
      cases h5 : decide (((pPolicy p).size : Int) ≤ 65536) with
      | false =>
       refine does_of' Tryd.func7 rfl (by kernel_rfl) rfl Tryd.ntmps7 rfl rfl fun Q hQ => ?_
       repeat (first | refine tr_seq_k fun _ _ => ?_ | (refine tr_region ?_; simp only [go_sem, reduceCtorEq, Nat.reduceEqDiff, Nat.reduceLT, Nat.reduceLeDiff, Nat.reduceAdd, Nat.reduceMul, Nat.reduceSub, Nat.reduceBEq, ↓reduceIte]) | (refine call_of (c0) ?_ ?_; (first | rfl | simp only [go_sem, reduceCtorEq, Nat.reduceEqDiff, Nat.reduceLT, Nat.reduceLeDiff, Nat.reduceAdd, Nat.reduceMul, Nat.reduceSub, Nat.reduceBEq, ↓reduceIte, shut_col]); simp only [go_sem, reduceCtorEq, Nat.reduceEqDiff, Nat.reduceLT, Nat.reduceLeDiff, Nat.reduceAdd, Nat.reduceMul, Nat.reduceSub, Nat.reduceBEq, ↓reduceIte]) | refine k_of (by assumption) ?_)
       refine tr_cond rfl (fun ht => ?_) (fun hf => ?_)
       · cases ht
       repeat (first | refine tr_seq_k fun _ _ => ?_ | (refine tr_region ?_; simp only [go_sem, reduceCtorEq, Nat.reduceEqDiff, Nat.reduceLT, Nat.reduceLeDiff, Nat.reduceAdd, Nat.reduceMul, Nat.reduceSub, Nat.reduceBEq, ↓reduceIte]) | (refine call_of (cLp) ?_ ?_; (first | rfl | simp only [go_sem, reduceCtorEq, Nat.reduceEqDiff, Nat.reduceLT, Nat.reduceLeDiff, Nat.reduceAdd, Nat.reduceMul, Nat.reduceSub, Nat.reduceBEq, ↓reduceIte, shut_col]); simp only [go_sem, reduceCtorEq, Nat.reduceEqDiff, Nat.reduceLT, Nat.reduceLeDiff, Nat.reduceAdd, Nat.reduceMul, Nat.reduceSub, Nat.reduceBEq, ↓reduceIte]) | (refine call_of (cLq) ?_ ?_; (first | rfl | simp only [go_sem, reduceCtorEq, Nat.reduceEqDiff, Nat.reduceLT, Nat.reduceLeDiff, Nat.reduceAdd, Nat.reduceMul, Nat.reduceSub, Nat.reduceBEq, ↓reduceIte, shut_col]); simp only [go_sem, reduceCtorEq, Nat.reduceEqDiff, Nat.reduceLT, Nat.reduceLeDiff, Nat.reduceAdd, Nat.reduceMul, Nat.reduceSub, Nat.reduceBEq, ↓reduceIte]) | (refine call_of (cLa) ?_ ?_; (first | rfl | simp only [go_sem, reduceCtorEq, Nat.reduceEqDiff, Nat.reduceLT, Nat.reduceLeDiff, Nat.reduceAdd, Nat.reduceMul, Nat.reduceSub, Nat.reduceBEq, ↓reduceIte, shut_col]); simp only [go_sem, reduceCtorEq, Nat.reduceEqDiff, Nat.reduceLT, Nat.reduceLeDiff, Nat.reduceAdd, Nat.reduceMul, Nat.reduceSub, Nat.reduceBEq, ↓reduceIte]) | refine k_of (by assumption) ?_ | (refine tr_skip ?_; try simp only [ex_seq, ex_block]))
       refine tr_cond rfl (fun ht => ?_) (fun hf => ?_)
       · cases ht
       repeat (first | refine tr_seq_k fun _ _ => ?_ | (refine tr_region ?_; simp only [go_sem, reduceCtorEq, Nat.reduceEqDiff, Nat.reduceLT, Nat.reduceLeDiff, Nat.reduceAdd, Nat.reduceMul, Nat.reduceSub, Nat.reduceBEq, ↓reduceIte, h5]) | (refine call_of (cT) ?_ ?_; (first | rfl | simp only [go_sem, reduceCtorEq, Nat.reduceEqDiff, Nat.reduceLT, Nat.reduceLeDiff, Nat.reduceAdd, Nat.reduceMul, Nat.reduceSub, Nat.reduceBEq, ↓reduceIte, h5, shut_col]); simp only [go_sem, reduceCtorEq, Nat.reduceEqDiff, Nat.reduceLT, Nat.reduceLeDiff, Nat.reduceAdd, Nat.reduceMul, Nat.reduceSub, Nat.reduceBEq, ↓reduceIte, h5]) | (refine call_of (cN) ?_ ?_; (first | rfl | simp only [go_sem, reduceCtorEq, Nat.reduceEqDiff, Nat.reduceLT, Nat.reduceLeDiff, Nat.reduceAdd, Nat.reduceMul, Nat.reduceSub, Nat.reduceBEq, ↓reduceIte, h5, shut_col]); simp only [go_sem, reduceCtorEq, Nat.reduceEqDiff, Nat.reduceLT, Nat.reduceLeDiff, Nat.reduceAdd, Nat.reduceMul, Nat.reduceSub, Nat.reduceBEq, ↓reduceIte, h5]) | refine k_of (by assumption) ?_ | (refine tr_skip ?_; try simp only [ex_seq, ex_block]))
       refine tr_cond rfl (fun ht => ?_) (fun hf => ?_)
       · cases ht
       cases hc : decide (pcheck3 a = 0) with
       | false =>
         repeat (first | refine tr_seq_k fun _ _ => ?_ | (refine tr_region ?_; simp only [go_sem, reduceCtorEq, Nat.reduceEqDiff, Nat.reduceLT, Nat.reduceLeDiff, Nat.reduceAdd, Nat.reduceMul, Nat.reduceSub, Nat.reduceBEq, ↓reduceIte, hc]) | (refine call_of (cK) ?_ ?_; (first | rfl | simp only [go_sem, reduceCtorEq, Nat.reduceEqDiff, Nat.reduceLT, Nat.reduceLeDiff, Nat.reduceAdd, Nat.reduceMul, Nat.reduceSub, Nat.reduceBEq, ↓reduceIte, hc, shut_col]); simp only [go_sem, reduceCtorEq, Nat.reduceEqDiff, Nat.reduceLT, Nat.reduceLeDiff, Nat.reduceAdd, Nat.reduceMul, Nat.reduceSub, Nat.reduceBEq, ↓reduceIte, hc]) | refine k_of (by assumption) ?_ | (refine tr_skip ?_; try simp only [ex_seq, ex_block]))
         refine tr_cond rfl (fun ht => ?_) (fun hf => ?_)
         · repeat (first | refine tr_seq_k fun _ _ => ?_ | (refine tr_region ?_; simp only [go_sem, reduceCtorEq, Nat.reduceEqDiff, Nat.reduceLT, Nat.reduceLeDiff, Nat.reduceAdd, Nat.reduceMul, Nat.reduceSub, Nat.reduceBEq, ↓reduceIte]) | refine k_of (by assumption) ?_ | (refine tr_ret ?_; try simp only [ex_seq_ret, ex_block_ret]))
           refine (hQ _ _ [bA true] ?_ (fun m => ?_)).2 <;> simp only [go_sem, reduceCtorEq, Nat.reduceEqDiff, Nat.reduceLT, Nat.reduceLeDiff, Nat.reduceAdd, Nat.reduceMul, Nat.reduceSub, Nat.reduceBEq, ↓reduceIte, Tryd.f7,]
         · cases hf
       | true =>
         have hz := text_small (of_decide_eq_true hc)
         have hg := goal_law (of_decide_eq_true hc) (by rw [app_size]; have : tQ.size = 1 := rfl; omega)
         have cP := parseGoal_does (ptext a ++ tQ) (by rw [app_size]; have : tQ.size = 1 := rfl; omega)
         rw [hg] at cP
         repeat (first | refine tr_seq_k fun _ _ => ?_ | (refine tr_region ?_; simp only [go_sem, reduceCtorEq, Nat.reduceEqDiff, Nat.reduceLT, Nat.reduceLeDiff, Nat.reduceAdd, Nat.reduceMul, Nat.reduceSub, Nat.reduceBEq, ↓reduceIte, hc]) | (refine call_of (cK) ?_ ?_; (first | rfl | simp only [go_sem, reduceCtorEq, Nat.reduceEqDiff, Nat.reduceLT, Nat.reduceLeDiff, Nat.reduceAdd, Nat.reduceMul, Nat.reduceSub, Nat.reduceBEq, ↓reduceIte, hc, shut_col]); simp only [go_sem, reduceCtorEq, Nat.reduceEqDiff, Nat.reduceLT, Nat.reduceLeDiff, Nat.reduceAdd, Nat.reduceMul, Nat.reduceSub, Nat.reduceBEq, ↓reduceIte, hc]) | refine k_of (by assumption) ?_ | (refine tr_skip ?_; try simp only [ex_seq, ex_block]))
         refine tr_cond rfl (fun ht => ?_) (fun hf => ?_)
         · cases ht
         · repeat (first | refine tr_seq_k fun _ _ => ?_ | (refine tr_region ?_; simp only [go_sem, reduceCtorEq, Nat.reduceEqDiff, Nat.reduceLT, Nat.reduceLeDiff, Nat.reduceAdd, Nat.reduceMul, Nat.reduceSub, Nat.reduceBEq, ↓reduceIte, eq]) | (refine call_of (cG) ?_ ?_; (first | rfl | simp only [go_sem, reduceCtorEq, Nat.reduceEqDiff, Nat.reduceLT, Nat.reduceLeDiff, Nat.reduceAdd, Nat.reduceMul, Nat.reduceSub, Nat.reduceBEq, ↓reduceIte, eq, shut_col]); simp only [go_sem, reduceCtorEq, Nat.reduceEqDiff, Nat.reduceLT, Nat.reduceLeDiff, Nat.reduceAdd, Nat.reduceMul, Nat.reduceSub, Nat.reduceBEq, ↓reduceIte, eq]) | (refine call_of (cP) ?_ ?_; (first | rfl | simp only [go_sem, reduceCtorEq, Nat.reduceEqDiff, Nat.reduceLT, Nat.reduceLeDiff, Nat.reduceAdd, Nat.reduceMul, Nat.reduceSub, Nat.reduceBEq, ↓reduceIte, eq, shut_col]); simp only [go_sem, reduceCtorEq, Nat.reduceEqDiff, Nat.reduceLT, Nat.reduceLeDiff, Nat.reduceAdd, Nat.reduceMul, Nat.reduceSub, Nat.reduceBEq, ↓reduceIte, eq]) | refine k_of (by assumption) ?_ | (refine tr_skip ?_; try simp only [ex_seq, ex_block]) | (refine tr_ret ?_; try simp only [ex_seq_ret, ex_block_ret]))
           refine (hQ _ _ [bA true] ?_ (fun m => ?_)).2 <;> simp only [go_sem, reduceCtorEq, Nat.reduceEqDiff, Nat.reduceLT, Nat.reduceLeDiff, Nat.reduceAdd, Nat.reduceMul, Nat.reduceSub, Nat.reduceBEq, ↓reduceIte, Tryd.f7,]
      | true =>
       have hz0 : (pPolicy p).size ≤ 65536 := by have := of_decide_eq_true h5; omega
       have cR := parsePol_does (pPolicy p) (by omega)
       rw [back_law h4 hz0] at cR
       have cS := samePol_does (polOf (ppOf p)) p (polLen_back hk)
       rw [decide_eq_true (dat_back p)] at cS
       have cSq := samePol_does p q (polLen_ok hk)
       have hst := fun hq' => same_text (q := q) h4 hq' hz0
       generalize polOf (ppOf p) = x at *
       generalize pPolicy p = T at *
       generalize pPolicy q = Tq at *
       cases h6 : plainP q with
       | false =>
        rw [h6] at cNq
        refine does_of' Tryd.func7 rfl (by kernel_rfl) rfl Tryd.ntmps7 rfl rfl fun Q hQ => ?_
        repeat (first | refine tr_seq_k fun _ _ => ?_ | (refine tr_region ?_; simp only [go_sem, reduceCtorEq, Nat.reduceEqDiff, Nat.reduceLT, Nat.reduceLeDiff, Nat.reduceAdd, Nat.reduceMul, Nat.reduceSub, Nat.reduceBEq, ↓reduceIte]) | (refine call_of (c0) ?_ ?_; (first | rfl | simp only [go_sem, reduceCtorEq, Nat.reduceEqDiff, Nat.reduceLT, Nat.reduceLeDiff, Nat.reduceAdd, Nat.reduceMul, Nat.reduceSub, Nat.reduceBEq, ↓reduceIte, shut_col]); simp only [go_sem, reduceCtorEq, Nat.reduceEqDiff, Nat.reduceLT, Nat.reduceLeDiff, Nat.reduceAdd, Nat.reduceMul, Nat.reduceSub, Nat.reduceBEq, ↓reduceIte]) | refine k_of (by assumption) ?_)
        refine tr_cond rfl (fun ht => ?_) (fun hf => ?_)
        · cases ht
        repeat (first | refine tr_seq_k fun _ _ => ?_ | (refine tr_region ?_; simp only [go_sem, reduceCtorEq, Nat.reduceEqDiff, Nat.reduceLT, Nat.reduceLeDiff, Nat.reduceAdd, Nat.reduceMul, Nat.reduceSub, Nat.reduceBEq, ↓reduceIte]) | (refine call_of (cLp) ?_ ?_; (first | rfl | simp only [go_sem, reduceCtorEq, Nat.reduceEqDiff, Nat.reduceLT, Nat.reduceLeDiff, Nat.reduceAdd, Nat.reduceMul, Nat.reduceSub, Nat.reduceBEq, ↓reduceIte, shut_col]); simp only [go_sem, reduceCtorEq, Nat.reduceEqDiff, Nat.reduceLT, Nat.reduceLeDiff, Nat.reduceAdd, Nat.reduceMul, Nat.reduceSub, Nat.reduceBEq, ↓reduceIte]) | (refine call_of (cLq) ?_ ?_; (first | rfl | simp only [go_sem, reduceCtorEq, Nat.reduceEqDiff, Nat.reduceLT, Nat.reduceLeDiff, Nat.reduceAdd, Nat.reduceMul, Nat.reduceSub, Nat.reduceBEq, ↓reduceIte, shut_col]); simp only [go_sem, reduceCtorEq, Nat.reduceEqDiff, Nat.reduceLT, Nat.reduceLeDiff, Nat.reduceAdd, Nat.reduceMul, Nat.reduceSub, Nat.reduceBEq, ↓reduceIte]) | (refine call_of (cLa) ?_ ?_; (first | rfl | simp only [go_sem, reduceCtorEq, Nat.reduceEqDiff, Nat.reduceLT, Nat.reduceLeDiff, Nat.reduceAdd, Nat.reduceMul, Nat.reduceSub, Nat.reduceBEq, ↓reduceIte, shut_col]); simp only [go_sem, reduceCtorEq, Nat.reduceEqDiff, Nat.reduceLT, Nat.reduceLeDiff, Nat.reduceAdd, Nat.reduceMul, Nat.reduceSub, Nat.reduceBEq, ↓reduceIte]) | refine k_of (by assumption) ?_ | (refine tr_skip ?_; try simp only [ex_seq, ex_block]))
        refine tr_cond rfl (fun ht => ?_) (fun hf => ?_)
        · cases ht
        repeat (first | refine tr_seq_k fun _ _ => ?_ | (refine tr_region ?_; simp only [go_sem, reduceCtorEq, Nat.reduceEqDiff, Nat.reduceLT, Nat.reduceLeDiff, Nat.reduceAdd, Nat.reduceMul, Nat.reduceSub, Nat.reduceBEq, ↓reduceIte, h5]) | (refine call_of (cT) ?_ ?_; (first | rfl | simp only [go_sem, reduceCtorEq, Nat.reduceEqDiff, Nat.reduceLT, Nat.reduceLeDiff, Nat.reduceAdd, Nat.reduceMul, Nat.reduceSub, Nat.reduceBEq, ↓reduceIte, h5, shut_col]); simp only [go_sem, reduceCtorEq, Nat.reduceEqDiff, Nat.reduceLT, Nat.reduceLeDiff, Nat.reduceAdd, Nat.reduceMul, Nat.reduceSub, Nat.reduceBEq, ↓reduceIte, h5]) | (refine call_of (cN) ?_ ?_; (first | rfl | simp only [go_sem, reduceCtorEq, Nat.reduceEqDiff, Nat.reduceLT, Nat.reduceLeDiff, Nat.reduceAdd, Nat.reduceMul, Nat.reduceSub, Nat.reduceBEq, ↓reduceIte, h5, shut_col]); simp only [go_sem, reduceCtorEq, Nat.reduceEqDiff, Nat.reduceLT, Nat.reduceLeDiff, Nat.reduceAdd, Nat.reduceMul, Nat.reduceSub, Nat.reduceBEq, ↓reduceIte, h5]) | refine k_of (by assumption) ?_ | (refine tr_skip ?_; try simp only [ex_seq, ex_block]))
        refine tr_cond rfl (fun ht => ?_) (fun hf => ?_)
        rotate_left
        · cases hf
        repeat (first | refine tr_seq_k fun _ _ => ?_ | (refine tr_region ?_; simp only [go_sem, reduceCtorEq, Nat.reduceEqDiff, Nat.reduceLT, Nat.reduceLeDiff, Nat.reduceAdd, Nat.reduceMul, Nat.reduceSub, Nat.reduceBEq, ↓reduceIte]) | (refine call_of (cR) ?_ ?_; (first | rfl | simp only [go_sem, reduceCtorEq, Nat.reduceEqDiff, Nat.reduceLT, Nat.reduceLeDiff, Nat.reduceAdd, Nat.reduceMul, Nat.reduceSub, Nat.reduceBEq, ↓reduceIte, shut_col]); simp only [go_sem, reduceCtorEq, Nat.reduceEqDiff, Nat.reduceLT, Nat.reduceLeDiff, Nat.reduceAdd, Nat.reduceMul, Nat.reduceSub, Nat.reduceBEq, ↓reduceIte]) | (refine call_of (cS) ?_ ?_; (first | rfl | simp only [go_sem, reduceCtorEq, Nat.reduceEqDiff, Nat.reduceLT, Nat.reduceLeDiff, Nat.reduceAdd, Nat.reduceMul, Nat.reduceSub, Nat.reduceBEq, ↓reduceIte, shut_col]); simp only [go_sem, reduceCtorEq, Nat.reduceEqDiff, Nat.reduceLT, Nat.reduceLeDiff, Nat.reduceAdd, Nat.reduceMul, Nat.reduceSub, Nat.reduceBEq, ↓reduceIte]) | refine k_of (by assumption) ?_)
        refine tr_cond rfl (fun ht => ?_) (fun hf => ?_)
        · cases ht
        repeat (first | refine tr_seq_k fun _ _ => ?_ | (refine tr_draw (id := 10) follows 10000 [1, 4, 9] [0, 1, 2, 3, 5, 7, 8, 4, 6, 9, 10, 11] (by kernel_rfl) ?_; simp only [go_sem, reduceCtorEq, Nat.reduceEqDiff, Nat.reduceLT, Nat.reduceLeDiff, Nat.reduceAdd, Nat.reduceMul, Nat.reduceSub, Nat.reduceBEq, ↓reduceIte]) | (refine call_of (cNq) ?_ ?_; (first | rfl | simp only [go_sem, reduceCtorEq, Nat.reduceEqDiff, Nat.reduceLT, Nat.reduceLeDiff, Nat.reduceAdd, Nat.reduceMul, Nat.reduceSub, Nat.reduceBEq, ↓reduceIte, shut_col]); simp only [go_sem, reduceCtorEq, Nat.reduceEqDiff, Nat.reduceLT, Nat.reduceLeDiff, Nat.reduceAdd, Nat.reduceMul, Nat.reduceSub, Nat.reduceBEq, ↓reduceIte]) | refine k_of (by assumption) ?_ | (refine tr_skip ?_; try simp only [ex_seq, ex_block]))
        refine tr_cond rfl (fun ht => ?_) (fun hf => ?_)
        · cases ht
        cases hc : decide (pcheck3 a = 0) with
        | false =>
          repeat (first | refine tr_seq_k fun _ _ => ?_ | (refine tr_region ?_; simp only [go_sem, reduceCtorEq, Nat.reduceEqDiff, Nat.reduceLT, Nat.reduceLeDiff, Nat.reduceAdd, Nat.reduceMul, Nat.reduceSub, Nat.reduceBEq, ↓reduceIte, hc]) | (refine call_of (cK) ?_ ?_; (first | rfl | simp only [go_sem, reduceCtorEq, Nat.reduceEqDiff, Nat.reduceLT, Nat.reduceLeDiff, Nat.reduceAdd, Nat.reduceMul, Nat.reduceSub, Nat.reduceBEq, ↓reduceIte, hc, shut_col]); simp only [go_sem, reduceCtorEq, Nat.reduceEqDiff, Nat.reduceLT, Nat.reduceLeDiff, Nat.reduceAdd, Nat.reduceMul, Nat.reduceSub, Nat.reduceBEq, ↓reduceIte, hc]) | refine k_of (by assumption) ?_ | (refine tr_skip ?_; try simp only [ex_seq, ex_block]))
          refine tr_cond rfl (fun ht => ?_) (fun hf => ?_)
          · repeat (first | refine tr_seq_k fun _ _ => ?_ | (refine tr_region ?_; simp only [go_sem, reduceCtorEq, Nat.reduceEqDiff, Nat.reduceLT, Nat.reduceLeDiff, Nat.reduceAdd, Nat.reduceMul, Nat.reduceSub, Nat.reduceBEq, ↓reduceIte]) | refine k_of (by assumption) ?_ | (refine tr_ret ?_; try simp only [ex_seq_ret, ex_block_ret]))
            refine (hQ _ _ [bA true] ?_ (fun m => ?_)).2 <;> simp only [go_sem, reduceCtorEq, Nat.reduceEqDiff, Nat.reduceLT, Nat.reduceLeDiff, Nat.reduceAdd, Nat.reduceMul, Nat.reduceSub, Nat.reduceBEq, ↓reduceIte, Tryd.f7,]
          · cases hf
        | true =>
          have hz := text_small (of_decide_eq_true hc)
          have hg := goal_law (of_decide_eq_true hc) (by rw [app_size]; have : tQ.size = 1 := rfl; omega)
          have cP := parseGoal_does (ptext a ++ tQ) (by rw [app_size]; have : tQ.size = 1 := rfl; omega)
          rw [hg] at cP
          repeat (first | refine tr_seq_k fun _ _ => ?_ | (refine tr_region ?_; simp only [go_sem, reduceCtorEq, Nat.reduceEqDiff, Nat.reduceLT, Nat.reduceLeDiff, Nat.reduceAdd, Nat.reduceMul, Nat.reduceSub, Nat.reduceBEq, ↓reduceIte, hc]) | (refine call_of (cK) ?_ ?_; (first | rfl | simp only [go_sem, reduceCtorEq, Nat.reduceEqDiff, Nat.reduceLT, Nat.reduceLeDiff, Nat.reduceAdd, Nat.reduceMul, Nat.reduceSub, Nat.reduceBEq, ↓reduceIte, hc, shut_col]); simp only [go_sem, reduceCtorEq, Nat.reduceEqDiff, Nat.reduceLT, Nat.reduceLeDiff, Nat.reduceAdd, Nat.reduceMul, Nat.reduceSub, Nat.reduceBEq, ↓reduceIte, hc]) | refine k_of (by assumption) ?_ | (refine tr_skip ?_; try simp only [ex_seq, ex_block]))
          refine tr_cond rfl (fun ht => ?_) (fun hf => ?_)
          · cases ht
          · repeat (first | refine tr_seq_k fun _ _ => ?_ | (refine tr_region ?_; simp only [go_sem, reduceCtorEq, Nat.reduceEqDiff, Nat.reduceLT, Nat.reduceLeDiff, Nat.reduceAdd, Nat.reduceMul, Nat.reduceSub, Nat.reduceBEq, ↓reduceIte, eq]) | (refine call_of (cG) ?_ ?_; (first | rfl | simp only [go_sem, reduceCtorEq, Nat.reduceEqDiff, Nat.reduceLT, Nat.reduceLeDiff, Nat.reduceAdd, Nat.reduceMul, Nat.reduceSub, Nat.reduceBEq, ↓reduceIte, eq, shut_col]); simp only [go_sem, reduceCtorEq, Nat.reduceEqDiff, Nat.reduceLT, Nat.reduceLeDiff, Nat.reduceAdd, Nat.reduceMul, Nat.reduceSub, Nat.reduceBEq, ↓reduceIte, eq]) | (refine call_of (cP) ?_ ?_; (first | rfl | simp only [go_sem, reduceCtorEq, Nat.reduceEqDiff, Nat.reduceLT, Nat.reduceLeDiff, Nat.reduceAdd, Nat.reduceMul, Nat.reduceSub, Nat.reduceBEq, ↓reduceIte, eq, shut_col]); simp only [go_sem, reduceCtorEq, Nat.reduceEqDiff, Nat.reduceLT, Nat.reduceLeDiff, Nat.reduceAdd, Nat.reduceMul, Nat.reduceSub, Nat.reduceBEq, ↓reduceIte, eq]) | refine k_of (by assumption) ?_ | (refine tr_skip ?_; try simp only [ex_seq, ex_block]) | (refine tr_ret ?_; try simp only [ex_seq_ret, ex_block_ret]))
            refine (hQ _ _ [bA true] ?_ (fun m => ?_)).2 <;> simp only [go_sem, reduceCtorEq, Nat.reduceEqDiff, Nat.reduceLT, Nat.reduceLeDiff, Nat.reduceAdd, Nat.reduceMul, Nat.reduceSub, Nat.reduceBEq, ↓reduceIte, Tryd.f7,]
       | true =>
        rw [h6] at cNq
        have hst := hst h6
        rw [← hst] at cSq
        cases h7 : decide (Tq = T)
        all_goals
          rw [h7] at cSq
          refine does_of' Tryd.func7 rfl (by kernel_rfl) rfl Tryd.ntmps7 rfl rfl fun Q hQ => ?_
          repeat (first | refine tr_seq_k fun _ _ => ?_ | (refine tr_region ?_; simp only [go_sem, reduceCtorEq, Nat.reduceEqDiff, Nat.reduceLT, Nat.reduceLeDiff, Nat.reduceAdd, Nat.reduceMul, Nat.reduceSub, Nat.reduceBEq, ↓reduceIte]) | (refine call_of (c0) ?_ ?_; (first | rfl | simp only [go_sem, reduceCtorEq, Nat.reduceEqDiff, Nat.reduceLT, Nat.reduceLeDiff, Nat.reduceAdd, Nat.reduceMul, Nat.reduceSub, Nat.reduceBEq, ↓reduceIte, shut_col]); simp only [go_sem, reduceCtorEq, Nat.reduceEqDiff, Nat.reduceLT, Nat.reduceLeDiff, Nat.reduceAdd, Nat.reduceMul, Nat.reduceSub, Nat.reduceBEq, ↓reduceIte]) | refine k_of (by assumption) ?_)
          refine tr_cond rfl (fun ht => ?_) (fun hf => ?_)
          · cases ht
          repeat (first | refine tr_seq_k fun _ _ => ?_ | (refine tr_region ?_; simp only [go_sem, reduceCtorEq, Nat.reduceEqDiff, Nat.reduceLT, Nat.reduceLeDiff, Nat.reduceAdd, Nat.reduceMul, Nat.reduceSub, Nat.reduceBEq, ↓reduceIte]) | (refine call_of (cLp) ?_ ?_; (first | rfl | simp only [go_sem, reduceCtorEq, Nat.reduceEqDiff, Nat.reduceLT, Nat.reduceLeDiff, Nat.reduceAdd, Nat.reduceMul, Nat.reduceSub, Nat.reduceBEq, ↓reduceIte, shut_col]); simp only [go_sem, reduceCtorEq, Nat.reduceEqDiff, Nat.reduceLT, Nat.reduceLeDiff, Nat.reduceAdd, Nat.reduceMul, Nat.reduceSub, Nat.reduceBEq, ↓reduceIte]) | (refine call_of (cLq) ?_ ?_; (first | rfl | simp only [go_sem, reduceCtorEq, Nat.reduceEqDiff, Nat.reduceLT, Nat.reduceLeDiff, Nat.reduceAdd, Nat.reduceMul, Nat.reduceSub, Nat.reduceBEq, ↓reduceIte, shut_col]); simp only [go_sem, reduceCtorEq, Nat.reduceEqDiff, Nat.reduceLT, Nat.reduceLeDiff, Nat.reduceAdd, Nat.reduceMul, Nat.reduceSub, Nat.reduceBEq, ↓reduceIte]) | (refine call_of (cLa) ?_ ?_; (first | rfl | simp only [go_sem, reduceCtorEq, Nat.reduceEqDiff, Nat.reduceLT, Nat.reduceLeDiff, Nat.reduceAdd, Nat.reduceMul, Nat.reduceSub, Nat.reduceBEq, ↓reduceIte, shut_col]); simp only [go_sem, reduceCtorEq, Nat.reduceEqDiff, Nat.reduceLT, Nat.reduceLeDiff, Nat.reduceAdd, Nat.reduceMul, Nat.reduceSub, Nat.reduceBEq, ↓reduceIte]) | refine k_of (by assumption) ?_ | (refine tr_skip ?_; try simp only [ex_seq, ex_block]))
          refine tr_cond rfl (fun ht => ?_) (fun hf => ?_)
          · cases ht
          repeat (first | refine tr_seq_k fun _ _ => ?_ | (refine tr_region ?_; simp only [go_sem, reduceCtorEq, Nat.reduceEqDiff, Nat.reduceLT, Nat.reduceLeDiff, Nat.reduceAdd, Nat.reduceMul, Nat.reduceSub, Nat.reduceBEq, ↓reduceIte, h5]) | (refine call_of (cT) ?_ ?_; (first | rfl | simp only [go_sem, reduceCtorEq, Nat.reduceEqDiff, Nat.reduceLT, Nat.reduceLeDiff, Nat.reduceAdd, Nat.reduceMul, Nat.reduceSub, Nat.reduceBEq, ↓reduceIte, h5, shut_col]); simp only [go_sem, reduceCtorEq, Nat.reduceEqDiff, Nat.reduceLT, Nat.reduceLeDiff, Nat.reduceAdd, Nat.reduceMul, Nat.reduceSub, Nat.reduceBEq, ↓reduceIte, h5]) | (refine call_of (cN) ?_ ?_; (first | rfl | simp only [go_sem, reduceCtorEq, Nat.reduceEqDiff, Nat.reduceLT, Nat.reduceLeDiff, Nat.reduceAdd, Nat.reduceMul, Nat.reduceSub, Nat.reduceBEq, ↓reduceIte, h5, shut_col]); simp only [go_sem, reduceCtorEq, Nat.reduceEqDiff, Nat.reduceLT, Nat.reduceLeDiff, Nat.reduceAdd, Nat.reduceMul, Nat.reduceSub, Nat.reduceBEq, ↓reduceIte, h5]) | refine k_of (by assumption) ?_ | (refine tr_skip ?_; try simp only [ex_seq, ex_block]))
          refine tr_cond rfl (fun ht => ?_) (fun hf => ?_)
          rotate_left
          · cases hf
          repeat (first | refine tr_seq_k fun _ _ => ?_ | (refine tr_region ?_; simp only [go_sem, reduceCtorEq, Nat.reduceEqDiff, Nat.reduceLT, Nat.reduceLeDiff, Nat.reduceAdd, Nat.reduceMul, Nat.reduceSub, Nat.reduceBEq, ↓reduceIte]) | (refine call_of (cR) ?_ ?_; (first | rfl | simp only [go_sem, reduceCtorEq, Nat.reduceEqDiff, Nat.reduceLT, Nat.reduceLeDiff, Nat.reduceAdd, Nat.reduceMul, Nat.reduceSub, Nat.reduceBEq, ↓reduceIte, shut_col]); simp only [go_sem, reduceCtorEq, Nat.reduceEqDiff, Nat.reduceLT, Nat.reduceLeDiff, Nat.reduceAdd, Nat.reduceMul, Nat.reduceSub, Nat.reduceBEq, ↓reduceIte]) | (refine call_of (cS) ?_ ?_; (first | rfl | simp only [go_sem, reduceCtorEq, Nat.reduceEqDiff, Nat.reduceLT, Nat.reduceLeDiff, Nat.reduceAdd, Nat.reduceMul, Nat.reduceSub, Nat.reduceBEq, ↓reduceIte, shut_col]); simp only [go_sem, reduceCtorEq, Nat.reduceEqDiff, Nat.reduceLT, Nat.reduceLeDiff, Nat.reduceAdd, Nat.reduceMul, Nat.reduceSub, Nat.reduceBEq, ↓reduceIte]) | refine k_of (by assumption) ?_)
          refine tr_cond rfl (fun ht => ?_) (fun hf => ?_)
          · cases ht
          repeat (first | refine tr_seq_k fun _ _ => ?_ | (refine tr_draw (id := 10) follows 10000 [1, 4, 9] [0, 1, 2, 3, 5, 7, 8, 4, 6, 9, 10, 11] (by kernel_rfl) ?_; simp only [go_sem, reduceCtorEq, Nat.reduceEqDiff, Nat.reduceLT, Nat.reduceLeDiff, Nat.reduceAdd, Nat.reduceMul, Nat.reduceSub, Nat.reduceBEq, ↓reduceIte, h7, neq_bool]) | (refine call_of (cNq) ?_ ?_; (first | rfl | simp only [go_sem, reduceCtorEq, Nat.reduceEqDiff, Nat.reduceLT, Nat.reduceLeDiff, Nat.reduceAdd, Nat.reduceMul, Nat.reduceSub, Nat.reduceBEq, ↓reduceIte, h7, neq_bool, shut_col]); simp only [go_sem, reduceCtorEq, Nat.reduceEqDiff, Nat.reduceLT, Nat.reduceLeDiff, Nat.reduceAdd, Nat.reduceMul, Nat.reduceSub, Nat.reduceBEq, ↓reduceIte, h7, neq_bool]) | (refine call_of (cTq) ?_ ?_; (first | rfl | simp only [go_sem, reduceCtorEq, Nat.reduceEqDiff, Nat.reduceLT, Nat.reduceLeDiff, Nat.reduceAdd, Nat.reduceMul, Nat.reduceSub, Nat.reduceBEq, ↓reduceIte, h7, neq_bool, shut_col]); simp only [go_sem, reduceCtorEq, Nat.reduceEqDiff, Nat.reduceLT, Nat.reduceLeDiff, Nat.reduceAdd, Nat.reduceMul, Nat.reduceSub, Nat.reduceBEq, ↓reduceIte, h7, neq_bool]) | (refine call_of (cSq) ?_ ?_; (first | rfl | simp only [go_sem, reduceCtorEq, Nat.reduceEqDiff, Nat.reduceLT, Nat.reduceLeDiff, Nat.reduceAdd, Nat.reduceMul, Nat.reduceSub, Nat.reduceBEq, ↓reduceIte, h7, neq_bool, shut_col]); simp only [go_sem, reduceCtorEq, Nat.reduceEqDiff, Nat.reduceLT, Nat.reduceLeDiff, Nat.reduceAdd, Nat.reduceMul, Nat.reduceSub, Nat.reduceBEq, ↓reduceIte, h7, neq_bool]) | refine k_of (by assumption) ?_ | (refine tr_skip ?_; try simp only [ex_seq, ex_block]))
          refine tr_cond rfl (fun ht => ?_) (fun hf => ?_)
          · cases ht
          cases hc : decide (pcheck3 a = 0) with
          | false =>
            repeat (first | refine tr_seq_k fun _ _ => ?_ | (refine tr_region ?_; simp only [go_sem, reduceCtorEq, Nat.reduceEqDiff, Nat.reduceLT, Nat.reduceLeDiff, Nat.reduceAdd, Nat.reduceMul, Nat.reduceSub, Nat.reduceBEq, ↓reduceIte, hc]) | (refine call_of (cK) ?_ ?_; (first | rfl | simp only [go_sem, reduceCtorEq, Nat.reduceEqDiff, Nat.reduceLT, Nat.reduceLeDiff, Nat.reduceAdd, Nat.reduceMul, Nat.reduceSub, Nat.reduceBEq, ↓reduceIte, hc, shut_col]); simp only [go_sem, reduceCtorEq, Nat.reduceEqDiff, Nat.reduceLT, Nat.reduceLeDiff, Nat.reduceAdd, Nat.reduceMul, Nat.reduceSub, Nat.reduceBEq, ↓reduceIte, hc]) | refine k_of (by assumption) ?_ | (refine tr_skip ?_; try simp only [ex_seq, ex_block]))
            refine tr_cond rfl (fun ht => ?_) (fun hf => ?_)
            · repeat (first | refine tr_seq_k fun _ _ => ?_ | (refine tr_region ?_; simp only [go_sem, reduceCtorEq, Nat.reduceEqDiff, Nat.reduceLT, Nat.reduceLeDiff, Nat.reduceAdd, Nat.reduceMul, Nat.reduceSub, Nat.reduceBEq, ↓reduceIte]) | refine k_of (by assumption) ?_ | (refine tr_ret ?_; try simp only [ex_seq_ret, ex_block_ret]))
              refine (hQ _ _ [bA true] ?_ (fun m => ?_)).2 <;> simp only [go_sem, reduceCtorEq, Nat.reduceEqDiff, Nat.reduceLT, Nat.reduceLeDiff, Nat.reduceAdd, Nat.reduceMul, Nat.reduceSub, Nat.reduceBEq, ↓reduceIte, Tryd.f7,]
            · cases hf
          | true =>
            have hz := text_small (of_decide_eq_true hc)
            have hg := goal_law (of_decide_eq_true hc) (by rw [app_size]; have : tQ.size = 1 := rfl; omega)
            have cP := parseGoal_does (ptext a ++ tQ) (by rw [app_size]; have : tQ.size = 1 := rfl; omega)
            rw [hg] at cP
            repeat (first | refine tr_seq_k fun _ _ => ?_ | (refine tr_region ?_; simp only [go_sem, reduceCtorEq, Nat.reduceEqDiff, Nat.reduceLT, Nat.reduceLeDiff, Nat.reduceAdd, Nat.reduceMul, Nat.reduceSub, Nat.reduceBEq, ↓reduceIte, hc]) | (refine call_of (cK) ?_ ?_; (first | rfl | simp only [go_sem, reduceCtorEq, Nat.reduceEqDiff, Nat.reduceLT, Nat.reduceLeDiff, Nat.reduceAdd, Nat.reduceMul, Nat.reduceSub, Nat.reduceBEq, ↓reduceIte, hc, shut_col]); simp only [go_sem, reduceCtorEq, Nat.reduceEqDiff, Nat.reduceLT, Nat.reduceLeDiff, Nat.reduceAdd, Nat.reduceMul, Nat.reduceSub, Nat.reduceBEq, ↓reduceIte, hc]) | refine k_of (by assumption) ?_ | (refine tr_skip ?_; try simp only [ex_seq, ex_block]))
            refine tr_cond rfl (fun ht => ?_) (fun hf => ?_)
            · cases ht
            · repeat (first | refine tr_seq_k fun _ _ => ?_ | (refine tr_region ?_; simp only [go_sem, reduceCtorEq, Nat.reduceEqDiff, Nat.reduceLT, Nat.reduceLeDiff, Nat.reduceAdd, Nat.reduceMul, Nat.reduceSub, Nat.reduceBEq, ↓reduceIte, eq]) | (refine call_of (cG) ?_ ?_; (first | rfl | simp only [go_sem, reduceCtorEq, Nat.reduceEqDiff, Nat.reduceLT, Nat.reduceLeDiff, Nat.reduceAdd, Nat.reduceMul, Nat.reduceSub, Nat.reduceBEq, ↓reduceIte, eq, shut_col]); simp only [go_sem, reduceCtorEq, Nat.reduceEqDiff, Nat.reduceLT, Nat.reduceLeDiff, Nat.reduceAdd, Nat.reduceMul, Nat.reduceSub, Nat.reduceBEq, ↓reduceIte, eq]) | (refine call_of (cP) ?_ ?_; (first | rfl | simp only [go_sem, reduceCtorEq, Nat.reduceEqDiff, Nat.reduceLT, Nat.reduceLeDiff, Nat.reduceAdd, Nat.reduceMul, Nat.reduceSub, Nat.reduceBEq, ↓reduceIte, eq, shut_col]); simp only [go_sem, reduceCtorEq, Nat.reduceEqDiff, Nat.reduceLT, Nat.reduceLeDiff, Nat.reduceAdd, Nat.reduceMul, Nat.reduceSub, Nat.reduceBEq, ↓reduceIte, eq]) | refine k_of (by assumption) ?_ | (refine tr_skip ?_; try simp only [ex_seq, ex_block]) | (refine tr_ret ?_; try simp only [ex_seq_ret, ex_block_ret]))
              refine (hQ _ _ [bA true] ?_ (fun m => ?_)).2 <;> simp only [go_sem, reduceCtorEq, Nat.reduceEqDiff, Nat.reduceLT, Nat.reduceLeDiff, Nat.reduceAdd, Nat.reduceMul, Nat.reduceSub, Nat.reduceBEq, ↓reduceIte, Tryd.f7,]
end Go.Proofs.YtaeehadibckcjaaDoor
namespace Go.Proofs.YtaeehadibckcjaaDoor
open Go.RowKit Go.Vs Go.Vs.Ab
set_option maxRecDepth 100000
theorem gl_of_tab {W : World} (h : Lib.TabIs Tryd.prog W "internal/strconv.uint64pow10" .u64 Lib.pow10Tab) : Gl W := by
  have hn : Tryd.prog.globalNamed "internal/strconv.uint64pow10" = some 0 := by kernel_rfl
  have h1 : W.var? Tryd.prog "internal/strconv.uint64pow10" = some (Lib.pow10Tab.map fun z => Value.int .u64 z).toArray := h
  unfold World.var? at h1
  rw [hn] at h1
  intro p hp
  rcases List.mem_cons.1 hp with rfl | hp
  · change (match W.heap[0]? with | some (.cells cs _ _) => some cs | _ => none) = _ at h1
    split at h1
    · rename_i cs t z hb
      injection h1 with h1
      subst h1
      exact ⟨t, z, hb.trans (by kernel_rfl)⟩
    · cases h1
  · cases hp
theorem gl_of_laid {l : List (String × DataW Unit)} {W : World} (hp : (l.all fun x => x.2.handleName?.isNone) = true)
    (hf : (l.filter fun x => x.1 == "internal/strconv.uint64pow10") = [("internal/strconv.uint64pow10", Lib.tabData .u64 Lib.pow10Tab)])
    (h : laidMetH Tryd.prog l W) : Gl W := by
  rw [MakeChecks.laidMetH_plain _ _ _ hp] at h
  have h2 := h.filter (fun x => x.1 == "internal/strconv.uint64pow10")
  rw [hf] at h2
  exact gl_of_tab (Lib.tabIs_of_head (g := 0) (t := 136) (e := 116) (n := 20) (by kernel_rfl) (by kernel_rfl) (by kernel_rfl) (by kernel_rfl) (by kernel_rfl) (by kernel_rfl) h2)
end Go.Proofs.YtaeehadibckcjaaDoor
namespace Go.Proofs.YtaeehadibckcjaaDoor.back
open Go.ChangeShapes Go.WideShapes Go.ChangeAt Go.RowKit Go.Vs Go.Vs.Ab
theorem own : ownKnob Tryd.prog.godebug = none := by kernel_rfl
theorem laidOut : laidOutB Tryd.prog = true := by kernel_rfl
theorem readable : (Tryd.f7.params.toList.all fun t => Tryd.prog.readableRec t && decide (t < Tryd.prog.types.size)) = true := by kernel_rfl
theorem shape29 : shapeOf Tryd.prog 8 29 = some poSh := by kernel_rfl
theorem shape42 : shapeOf Tryd.prog 8 42 = some [.str, .str, .int, .bool, .str, .bool, .str, .bool, .str, .bool, .str] := by kernel_rfl
set_option maxRecDepth 100000 in
theorem door_met (os : Os) (args : Array Value) : laidMetH Tryd.prog Rows.printerBackRow.laid ((World.doorLaid Tryd.prog 400 os).forCall (fun _ _ => 0) ⟨#[], args, []⟩).memory :=
  laidMetH_of_parts3 (fuel := 8) (laidMet_of_run' 8 (by kernel_rfl) (by kernel_rfl)) (by kernel_rfl) (by kernel_rfl)
set_option maxRecDepth 100000 in
theorem lifted (os : Os) (started : os.Started) (H : Type) (enc : TypeId × Value → H) :
    ReturnsInHanded {} Tryd.checked os 7 .any (fun w args => (Rows.printerBackSpec.pre enc Tryd.prog Tryd.f7 [] false w args ∧ laidMetH Tryd.prog Rows.printerBackRow.laid w) ∧ sizedMet enc Tryd.prog Tryd.f7 (OpenSpec.ofChange Rows.printerBackSpec) false w args) (Rows.printerBackSpec.post enc Tryd.prog Tryd.f7 false true false false) := by
  refine returnsInHanded_of_change_and (C := Tryd.checked) (X := fun w _ => laidMetH Tryd.prog Rows.printerBackRow.laid w) (fun _ _ _ hh h => h.of_heap hh) own started (by kernel_rfl) Tryd.func7
    (ChangeSpec.witness_shaped (enc := enc) (C := Tryd.checked) (os := os) (X := fun w _ => laidMetH Tryd.prog Rows.printerBackRow.laid w) false (World.doorLaid Tryd.prog 400 os) #[.agg #[.slice none 0 0, .slice none 0 0, .slice none 0 0, .int .i64 0, .int .i64 0, .slice none 0 0, .slice none 0 0], .agg #[.slice none 0 0, .slice none 0 0, .slice none 0 0, .int .i64 0, .int .i64 0, .slice none 0 0, .slice none 0 0], .agg #[.string ⟨#[]⟩, .string ⟨#[]⟩, .int .i64 0, .bool false, .string ⟨#[]⟩, .bool false, .string ⟨#[]⟩, .bool false, .string ⟨#[]⟩, .bool false, .string ⟨#[]⟩]] 8 rfl (World.shaped_of_RefB (by kernel_rfl) (by kernel_rfl)) (by kernel_rfl) (by kernel_rfl) (by kernel_rfl) (door_met os _)) ?_
  intro W base args ds gs before hval0 hW _ hwt hL _
  have hval : ∀ (j : Nat) t v, Tryd.f7.params[j]? = some t → args[j]? = some v → Value.okWide Tryd.prog W .any base t v := hval0
  have hW' := hW
  obtain ⟨p, q, hA0, hV, rfl, hfz, hnd⟩ := hW
  have hA : DataW.TrodAll enc Tryd.prog W 0 (fun _ => true) true Tryd.f7.params.toList args.toList ds p := hA0
  rw [Tryd.params7] at hA hval
  obtain ⟨v0, vs0, d0, ds0, p0, q0, hargs, rfl, rfl, h0, r0⟩ := trodAll_cons hA
  obtain ⟨v1, vs1, d1, ds1, p1, q1, rfl, rfl, rfl, h1, r1⟩ := trodAll_cons r0
  obtain ⟨v2, vs2, d2, ds2, p2, q2, rfl, rfl, rfl, h2, r2⟩ := trodAll_cons r1
  obtain ⟨rfl, rfl, rfl⟩ := trodAll_nil r2
  obtain rfl : args = #[v0, v1, v2] := by cases args; simp_all
  obtain ⟨rfl, rfl⟩ := trodVars_none hV
  obtain ⟨a0, R0, g0⟩ := openz_agg Tryd.underlying29 shape29 poZ (hval 0 29 v0 rfl rfl) h0 (sized_of hwt (j := 0) (t := 29) (by kernel_rfl) rfl)
  obtain ⟨a1, R1, g1⟩ := openz_agg Tryd.underlying29 shape29 poZ (hval 1 29 v1 rfl rfl) h1 (sized_of hwt (j := 1) (t := 29) (by kernel_rfl) rfl)
  obtain ⟨a2, R2, _⟩ := open_agg Tryd.underlying42 shape42 atD (hval 2 42 v2 rfl rfl) h2
  refine ((pback_does a0 a1 a2 g0 g1).bool (Reps.cons R0 (Reps.cons R1 (Reps.cons R2 Reps.nil))) (gl_of_laid (by kernel_rfl) (by kernel_rfl) hL)).mono fun e W' ⟨he, hb⟩ => ?_
  subst he
  refine ⟨_, rfl, law_post (tb := 4) hW' rfl rfl laidOut (fun t ht => ?_) rfl Tryd.underlying4 hb⟩
  have := List.all_eq_true.1 readable t ht
  simp only [Bool.and_eq_true, decide_eq_true_eq] at this
  exact this
theorem row_holds : Rows.PrinterBackSaid :=
  OpenClaim.holds_of_wide 7 Tryd.f7 rfl rfl rfl rfl rfl rfl rfl ⟨rfl, rfl, rfl, rfl, rfl⟩ rfl rfl rfl rfl rfl (by kernel_rfl) Tryd.func7 (by kernel_rfl)
    (of_decide_eq_true (by kernel_rfl)) (by unfold Func.isWrapper; first | (rw [if_pos (by decide +kernel)]; kernel_rfl) | (rw [if_neg (by decide +kernel)]; exact ⟨rfl, rfl⟩))
    (fun os started H enc _ => lifted os started H enc)
theorem holds : Rows.PrinterBackCardSaid :=
  Claim7.holds_tied_plain_at .later [] [.data, .data, .data] true (true, "f37234fd77400c584e10aa3671dc226d2b52cb94022700707c3a844a9caa0d3f") false
    row_holds (fun _ h => by cases h) (by kernel_rfl) (fun _ h => by cases h) printerBack_row_tie rfl ⟨rfl, rfl⟩ (by kernel_rfl) rfl
    (fun f fn hf hfn => by
      obtain rfl : f = 7 := Option.some.inj ((show Tryd.prog.funcNamed "vouchsafe/vouchsafelaw11.PrinterBack" = some 7 by kernel_rfl).symm.trans hf) |>.symm
      obtain rfl : fn = Tryd.f7 := (Option.some.inj (Tryd.func7.symm.trans hfn)).symm
      exact ⟨by kernel_rfl, fun j t ht => by
        have hm : t ∈ Tryd.f7.params.toList := by simpa using Array.mem_of_getElem? ht
        have hall : (Tryd.f7.params.toList.all fun u => !Tryd.prog.wantsStandIn u) = true := by kernel_rfl
        exact (show Tryd.prog.wantsStandIn t = false by simpa using List.all_eq_true.1 hall t hm)⟩)
    (by kernel_rfl)
#print axioms holds
end Go.Proofs.YtaeehadibckcjaaDoor.back
