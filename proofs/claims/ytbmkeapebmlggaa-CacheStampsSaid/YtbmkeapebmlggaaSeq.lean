/-
  A region that draws its order, walked once in the order of the text: the operations that run code or write ('loud') come up alone; all others yield one value in every world of a class S, or are not wanted. No program in sight.
-/
import Derived.WalkKit
import Derived.OrdersHeld
import Derived.Still
namespace Go.Vs

/-- Only the plain end, and the end for want of room. -/
def NoP (Q : Exit → Act → World → Prop) : Exit → Act → World → Prop
  | .normal, a, w => Q .normal a w
  | .outgrown, a, w => Q .outgrown a w
  | _, _, _ => False

theorem NoP.le {Q : Exit → Act → World → Prop} : ∀ e a w, NoP Q e a w → Q e a w
  | .normal, _, _, h => h
  | .exit _, _, _, h => h.elim
  | .goto _, _, _, h => h.elim
  | .ret, _, _, h => h.elim
  | .panic _, _, _, h => h.elim
  | .outgrown, _, _, h => h

/-- Operations that hand on a value and run no code of the program. -/
def plainOp : Op → Bool
  | .move _ | .assign _ | .pick .. | .load .. | .binOp .. | .unOp .. | .convert .. | .slice .. | .fieldAddr .. | .field .. | .indexAddr .. | .index .. | .lookup .. | .extract .. | .makeInterface .. | .build .. => true
  | .call { callee := .builtin .len, .. } | .call { callee := .builtin .cap, .. } => true
  | _ => false

theorem andThen_value {m : Sem Value} {P : Program} {w w' : World} {n : Next} (h : Sem.run P (do pure (.value (← m))) w = .ok n w') : ∃ u, n = .value u := by
  rw [Sem.run_bind] at h
  cases hm : Sem.run P m w with
  | ok a w1 =>
    rw [hm] at h
    simp [Result.andThen] at h
    exact ⟨a, h.1.symm⟩
  | halt x w1 =>
    rw [hm] at h
    simp [Result.andThen] at h

theorem plainOp_value {P : Program} {o : Oper} (hp : plainOp o.op = true) {ρ : Operand → Value} {w w' : World} {n : Next} (h : (execOp ρ o).run P w = .ok n w') : ∃ u, n = .value u := by
  obtain ⟨dst, op, type, pos, after, guard⟩ := o
  cases op <;> first | (simp only [plainOp] at hp; done) | (cases hp; done) | skip
  case call c =>
    obtain ⟨callee, args, argTypes⟩ := c
    cases callee <;> first | (cases hp; done) | skip
    rename_i b
    cases b <;> first | (cases hp; done) | skip
    all_goals
      simp [execOp, resolve, invoke, builtin] at h
      generalize hm : Sem.run P _ w = r at h
      cases r with
      | ok a w1 => simp [Result.andThen] at h; exact ⟨_, h.1.symm⟩
      | halt x w1 => simp [Result.andThen] at h
  case pick c a b =>
    simp only [execOp] at h
    rw [Sem.run_bind] at h
    generalize hm : Sem.run P _ w = r at h
    cases r with
    | ok a w1 => simp [Result.andThen] at h; exact ⟨_, h.1.symm⟩
    | halt x w1 => simp [Result.andThen] at h
  case move x => simp [execOp] at h; exact ⟨_, h.1.symm⟩
  case assign x => simp [execOp] at h; exact ⟨_, h.1.symm⟩
  all_goals exact andThen_value h

section
variable {P : Program} {ops : Array Oper} {Q : Exit → Act → World → Prop} {md : Region.Mode} {S : World → Prop}

/-- An operation that yields one value in every world of the class, or is not wanted. -/
def yieldsS (P : Program) (ops : Array Oper) (S : World → Prop) (o : Oper) (a : Act) (next : Act → Prop) : Prop := ∃ v, YieldsIf P ops S o v a ∧ next (a.put o.dst v)

def wpSeq (P : Program) (ops : Array Oper) (Q : Exit → Act → World → Prop) (S : World → Prop) (loud : List Nat) : Nat → List Oper → Act → World → Prop
  | _, [], a, w => Q .normal a w
  | k, o :: rest, a, w =>
    if loud.contains k = true then wpList P ops (fun e a' w' => match e with
        | .normal => S w' ∧ wpSeq P ops Q S loud (k + 1) rest a' w'
        | .outgrown => Q .outgrown a' w'
        | _ => False) [o] a w
    else yieldsS P ops S o a (fun a' => wpSeq P ops Q S loud (k + 1) rest a' w)

/-- The loud ones come up alone. -/
def loudFrom (md : Region.Mode) (ops : Array Oper) (loud : List Nat) : Nat → Nat → Array Bool → Bool
  | 0, _, _ => true
  | n + 1, k, listed => (!loud.contains k || Region.ready md ops listed == [k]) && loudFrom md ops loud n (k + 1) (listed.setIfInBounds k true)

theorem wpAnyH_of_seq (hsel : Region.noSelect ops = true) {loud : List Nat} : ∀ (l : List Oper) (k : Nat) (listed : Array Bool) (a : Act) (w : World), (∀ j, l[j]? = ops[k + j]?) →
    Region.lexFrom md ops l.length k listed = true → loudFrom md ops loud l.length k listed = true → S w → wpSeq P ops (NoP Q) S loud k l a w → wpAnyH P md ops (NoP Q) S l.length listed a w
  | [], _, _, _, _, _, hB, _, _, h => ⟨by simpa [Region.lexFrom] using hB, h⟩
  | o :: l, k, listed, a, w, hl, hB, hL, hS, h => by
    have h0 : ops[k]? = some o := by simpa using (hl 0).symm
    simp only [List.length_cons, Region.lexFrom, Bool.and_eq_true] at hB
    obtain ⟨⟨hr, hf⟩, hB'⟩ := hB
    simp only [List.length_cons, loudFrom, Bool.and_eq_true, Bool.or_eq_true, Bool.not_eq_true', beq_iff_eq] at hL
    obtain ⟨hl1, hL'⟩ := hL
    have next : ∀ a' w', S w' → wpSeq P ops (NoP Q) S loud (k + 1) l a' w' → wpAnyH P md ops (NoP Q) S l.length (listed.setIfInBounds k true) a' w' := fun a' w' hS' h' =>
      wpAnyH_of_seq hsel l (k + 1) _ a' w' (fun j => by have := hl (j + 1); simpa [Nat.add_assoc, Nat.add_comm 1 j] using this) hB' hL' hS' h'
    unfold wpSeq at h
    by_cases hk : loud.contains k = true
    · rw [if_pos hk] at h
      have hready : Region.ready md ops listed = [k] := by
        rcases hl1 with h1 | h1
        · rw [hk] at h1; cases h1
        · exact h1
      refine wpAnyH_all hready (by simp) fun i hi => ?_
      obtain rfl := List.mem_singleton.1 hi
      unfold wpOp
      simp only [h0]
      simp only [wpList] at h
      have up : ∀ (c : Oper) (a1 : Act) (w1 : World), Oper.wp P c a1 w1 (fun a' w' => S w' ∧ wpSeq P ops (NoP Q) S loud (i + 1) l a' w') (fun e a' w' => match e with
          | .normal => S w' ∧ wpSeq P ops (NoP Q) S loud (i + 1) l a' w'
          | .outgrown => NoP Q .outgrown a' w'
          | _ => False) → Oper.wp P c a1 w1 (fun a' w' => S w' ∧ wpAnyH P md ops (NoP Q) S l.length (listed.setIfInBounds i true) a' w') (NoP Q) := by
        intro c a1 w1 hc
        unfold Oper.wp at *
        generalize (execOp a1.eval c).run P w1 = r at *
        have lets : LetsOut (fun e a' w' => match e with
          | .normal => S w' ∧ wpSeq P ops (NoP Q) S loud (i + 1) l a' w'
          | .outgrown => NoP Q .outgrown a' w'
          | _ => False) → LetsOut (NoP Q) := fun ⟨a2, w2, h2⟩ => ⟨a2, w2, h2⟩
        cases r with
        | ok n w' =>
          cases n <;> simp only [Oper.upon] at hc ⊢ <;>
            first
              | exact ⟨hc.1, next _ _ hc.1 hc.2⟩
              | exact Calls.mono hc (fun e w'' he => by cases e <;> first | exact ⟨he.1, next _ _ he.1 he.2⟩ | exact he.elim | exact lets he)
              | exact Rows.mono hc (fun _ _ he => ⟨he.1, next _ _ he.1 he.2⟩)
        | halt x w' => cases x <;> simp only [Oper.upon] at hc ⊢
      by_cases hw : Region.wanted o (yielded ops a.tmps) = true
      · rw [if_pos hw] at h ⊢
        rcases h with h | ⟨h1, a2, w2, h2⟩
        · exact .inl (up _ _ _ h)
        · exact .inr ⟨h1, a2, w2, h2⟩
      · rw [if_neg hw] at h ⊢
        exact ⟨h.1, next _ _ h.1 h.2⟩
    · rw [if_neg hk] at h
      obtain ⟨v, hv, h'⟩ := h
      exact wpAnyH_first h0 (Region.noSelect_spec hsel) (fun _ _ _ h => h.elim) l.length listed a w (Region.free_spec h0 hf) (by simpa using hr) hv hS (next _ _ hS h')

def seqB (l : List Oper) (loud : List Nat) : Bool := Region.lexB .any l.toArray && loudFrom .any l.toArray loud l.length 0 (Array.replicate l.toArray.size false)

theorem wp_region_seq {id : Nat} {a : Act} {w : World} {l : List Oper} (loud : List Nat) (S : World → Prop) (hm : P.follows .mixedOrders = true) (hB : seqB l loud = true) (hS : S w.drew)
    (h : wpSeq P l.toArray (NoP Q) S loud 0 l a w.drew) : (Code.region id l.toArray true).wp P Q a w := by
  unfold seqB at hB
  simp only [Bool.and_eq_true] at hB
  obtain ⟨hB, hL⟩ := hB
  simp only [Region.lexB, Bool.and_eq_true] at hB
  refine wp_mono (wp_region_held (S := S) hm ?_) NoP.le
  have := wpAnyH_of_seq (md := .any) hB.1 l 0 (Array.replicate l.toArray.size false) a w.drew (by simp) (by simpa using hB.2) hL hS h
  simpa using this

theorem wpSeq_end {loud : List Nat} {k : Nat} {a : Act} {w : World} (h : Q .normal a w) : wpSeq P ops (NoP Q) S loud k [] a w := h

theorem wpSeq_nil {loud : List Nat} {k : Nat} {a : Act} {w : World} (h : Q .normal a w) : wpSeq P ops Q S loud k [] a w := h

theorem wpSeq_loud {loud : List Nat} {k : Nat} {a : Act} {w : World} {o : Oper} {rest : List Oper} (hk : loud.contains k = true)
    (h : wpList P ops (fun e a' w' => match e with
        | .normal => S w' ∧ wpSeq P ops Q S loud (k + 1) rest a' w'
        | .outgrown => Q .outgrown a' w'
        | _ => False) [o] a w) : wpSeq P ops Q S loud k (o :: rest) a w := by
  unfold wpSeq
  rw [if_pos hk]
  exact h

/-- The one end of an operation that yields. -/
def Only (A : Act) (w : World) (e : Exit) (a' : Act) (w' : World) : Prop := e = .normal ∧ a' = A ∧ w' = w

theorem wpSeq_calm {loud : List Nat} {k d : Nat} {a A : Act} {w : World} {o : Oper} {rest : List Oper} (hk : loud.contains k = false) (hp : plainOp o.op = true) (hd : o.dst = some d) (hlt : Nat.blt d a.tmps.size = true) (hS : S w)
    (hy : ∀ w', S w' → wpList P ops (Only A w') [o] a w') (h : wpSeq P ops Q S loud (k + 1) rest A w) : wpSeq P ops Q S loud k (o :: rest) a w := by
  unfold wpSeq
  rw [if_neg (by rw [hk]; exact Bool.false_ne_true)]
  have hlt' : d < a.tmps.size := by have h0 := hlt; simp only [Nat.blt, Nat.ble_eq] at h0; exact h0
  have key : ∀ w', S w' → Region.wanted o (yielded ops a.tmps) = true → ∃ u, (execOp a.eval o).run P w' = .ok (.value u) w' ∧ a.put o.dst u = A := by
    intro w' hS' hw
    have := hy w' hS'
    simp only [wpList] at this
    rw [if_pos hw] at this
    rcases this with this | ⟨_, _, _, h1, _⟩
    · unfold Oper.wp at this
      cases hr : (execOp a.eval o).run P w' with
      | ok n w1 =>
        obtain ⟨u, rfl⟩ := plainOp_value hp hr
        rw [hr] at this
        obtain ⟨_, h1, h2⟩ := this
        exact ⟨u, by rw [h2], h1⟩
      | halt x w1 =>
        rw [hr] at this
        cases x <;> first | exact this.elim | (obtain ⟨h1, _⟩ := this; cases h1)
    · cases h1
  by_cases hw : Region.wanted o (yielded ops a.tmps) = true
  · obtain ⟨u, h1, h2⟩ := key w hS hw
    refine ⟨u, Or.inl ⟨hw, fun w' hS' => ?_⟩, by rw [h2]; exact h⟩
    obtain ⟨u', h3, h4⟩ := key w' hS' hw
    have : u' = u := by
      rw [← h2, hd] at h4
      simp only [Act.put, Act.mk.injEq] at h4
      have h5 := congrArg (fun t : Array Value => t[d]?) h4.1
      simpa [hlt'] using h5
    rw [h3, this]
  · have := hy w hS
    simp only [wpList] at this
    rw [if_neg hw] at this
    obtain ⟨_, h1, _⟩ := this
    exact ⟨undef, Or.inr ⟨by simpa using hw, rfl⟩, by rw [h1]; exact h⟩

theorem wpSeq_one {loud : List Nat} {k d : Nat} {a : Act} {w : World} {o : Oper} {rest : List Oper} (hk : loud.contains k = false) (hp : plainOp o.op = true) (hd : o.dst = some d) (hlt : Nat.blt d a.tmps.size = true) (hS : S w)
    (h : ∃ A, (∀ w', S w' → wpList P ops (Only A w') [o] a w') ∧ wpSeq P ops Q S loud (k + 1) rest A w) : wpSeq P ops Q S loud k (o :: rest) a w :=
  let ⟨_, hy, hn⟩ := h
  wpSeq_calm hk hp hd hlt hS hy hn
end
end Go.Vs
