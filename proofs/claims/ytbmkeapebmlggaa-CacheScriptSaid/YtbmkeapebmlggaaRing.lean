/-
  A ring of blocks linked both ways (cells 3 and 4 of each block), cut and lengthened; no program in sight.
-/
import Derived.Test.YtbmkeapebmlggaaLib
namespace Go.Vs
open Go.RowKit

/-- The pointer to a block's head. -/
def P0 (b : Nat) : Value := .pointer (some ⟨b, 0, none⟩)

/-- One step of the ring: x's cell 4 leads to y, y's cell 3 back to x. -/
def Link (w : World) (x y : Nat) : Prop := w.cell? ⟨x, 4, none⟩ = some (P0 y) ∧ w.cell? ⟨y, 3, none⟩ = some (P0 x)

def Links (w : World) : List Nat → Prop
  | x :: y :: r => Link w x y ∧ Links w (y :: r)
  | _ => True

theorem links_append (w : World) (x : Nat) (B : List Nat) : ∀ A : List Nat, Links w (A ++ x :: B) ↔ Links w (A ++ [x]) ∧ Links w (x :: B)
  | [] => by simp [Links]
  | [a] => by simp [Links]
  | a :: b :: r => by
    have ih := links_append w x B (b :: r)
    simp only [List.cons_append, Links] at ih ⊢
    rw [ih, and_assoc]

/-- The ring stays where neither a first's cell 4 nor a second's cell 3 turns. -/
theorem links_stay {w w' : World} : ∀ l : List Nat, Links w l → (∀ x ∈ l.dropLast, w'.cell? ⟨x, 4, none⟩ = w.cell? ⟨x, 4, none⟩) → (∀ y ∈ l.tail, w'.cell? ⟨y, 3, none⟩ = w.cell? ⟨y, 3, none⟩) → Links w' l
  | [], _, _, _ => trivial
  | [_], _, _, _ => trivial
  | x :: y :: r, h, h1, h2 => by
    obtain ⟨⟨a1, a2⟩, h⟩ := h
    refine ⟨⟨by rw [h1 x (by simp)]; exact a1, by rw [h2 y (by simp)]; exact a2⟩, links_stay (y :: r) h (fun z hz => h1 z ?_) (fun z hz => h2 z ?_)⟩
    · simp only [List.dropLast_cons_cons]; exact List.mem_cons_of_mem _ hz
    · simp only [List.tail_cons] at hz ⊢; exact List.mem_cons_of_mem _ hz

theorem links_block {w w' : World} {l : List Nat} (h : Links w l) (hb : ∀ x ∈ l, w'.heap[x]? = w.heap[x]?) : Links w' l :=
  links_stay l h (fun x hx => World.cell?_of_block (w := w) (a := ⟨x, 4, none⟩) (hb x (List.dropLast_subset _ hx))) (fun y hy => World.cell?_of_block (w := w) (a := ⟨y, 3, none⟩) (hb y (List.mem_of_mem_tail hy)))

theorem cell_setCell_same (w : World) (a : Addr) (v u : Value) (ha : a.spot = none) (h : w.cell? a = some u) : (w.setCell a v).cell? a = some v := by
  obtain ⟨b, o, s⟩ := a
  subst ha
  simp only [World.cell?] at h ⊢
  cases hb : w.heap[b]? with
  | none => simp [hb] at h
  | some x =>
    cases x with
    | cells c t f =>
      simp [hb] at h
      rw [hset_same hb]
      have := (Array.getElem?_eq_some_iff.1 h).1
      simp [this]
    | _ => simp [hb] at h

theorem cell_setCell_other (w : World) (a b : Addr) (v : Value) (h : a.block ≠ b.block ∨ a.off ≠ b.off) (ha : a.spot = none) : (w.setCell a v).cell? b = w.cell? b := by
  obtain ⟨b1, o1, s1⟩ := a
  subst ha
  by_cases hb : b.block = b1
  · have ho : o1 ≠ b.off := by
      rcases h with h | h
      · exact absurd hb.symm h
      · exact h
    subst hb
    cases hx : w.heap[b.block]? with
    | none => simp [World.cell?, World.setCell, Array.getElem?_modify, hx]
    | some x => cases x <;> simp [World.cell?, World.setCell, Array.getElem?_modify, hx, Array.getElem?_setIfInBounds_ne, ho]
  · exact World.cell?_of_block (w := w) (hset_other w b1 o1 v b.block hb)

theorem split_last {α : Type} (x : α) : ∀ l : List α, ∃ A p, x :: l = A ++ [p]
  | [] => ⟨[], x, rfl⟩
  | y :: r => by
    obtain ⟨A, p, h⟩ := split_last y r
    exact ⟨x :: A, p, by rw [h]; rfl⟩

/-- The world behind 'cut'. -/
def cutWorld (w : World) (p n : Nat) : World := (w.setCell ⟨p, 4, none⟩ (P0 n)).setCell ⟨n, 3, none⟩ (P0 p)

theorem links_cut {w : World} {A C : List Nat} {p e n : Nat} (h : Links w (A ++ p :: e :: n :: C)) (hf : (A ++ p :: e :: n :: C).dropLast.Nodup) (hs : (A ++ p :: e :: n :: C).tail.Nodup) :
    Links (cutWorld w p n) (A ++ p :: n :: C) := by
  obtain ⟨h1, ⟨hpe, hen, h4⟩⟩ := (links_append w p (e :: n :: C) A).1 h
  have hd : (A ++ p :: e :: n :: C).dropLast = A ++ p :: e :: (n :: C).dropLast := by simp [List.dropLast_append_of_ne_nil]
  rw [hd] at hf
  have hpA : ∀ x ∈ A, x ≠ p := fun x hx hxp => by
    have := (List.nodup_append.1 hf).2.2 x hx p (by simp)
    exact this hxp
  have hpC : ∀ x ∈ (n :: C).dropLast, x ≠ p := fun x hx hxp => by
    have := (List.nodup_append.1 hf).2.1
    simp only [List.nodup_cons, List.mem_cons, not_or] at this
    exact this.1.2 (hxp ▸ hx)
  have ht : ∃ T, (A ++ [p]).tail = T ∧ (A ++ p :: e :: n :: C).tail = T ++ e :: n :: C := by
    cases A with
    | nil => exact ⟨[], rfl, rfl⟩
    | cons a r => exact ⟨r ++ [p], rfl, by simp⟩
  obtain ⟨T, hT1, hT2⟩ := ht
  rw [hT2] at hs
  have hnT : ∀ y ∈ T, y ≠ n := fun y hy hyn => (List.nodup_append.1 hs).2.2 y hy n (by simp) hyn
  have hnC : ∀ y ∈ C, y ≠ n := fun y hy hyn => by
    have := (List.nodup_append.1 hs).2.1
    simp only [List.nodup_cons, List.mem_cons, not_or] at this
    exact this.2.1 (hyn ▸ hy)
  have c4 : ∀ x, x ≠ p → (cutWorld w p n).cell? ⟨x, 4, none⟩ = w.cell? ⟨x, 4, none⟩ := fun x hx => by
    unfold cutWorld
    rw [cell_setCell_other _ _ _ _ (Or.inr (by simp)) rfl, cell_setCell_other _ _ _ _ (Or.inl (by simpa using Ne.symm hx)) rfl]
  have c3 : ∀ y, y ≠ n → (cutWorld w p n).cell? ⟨y, 3, none⟩ = w.cell? ⟨y, 3, none⟩ := fun y hy => by
    unfold cutWorld
    rw [cell_setCell_other _ _ _ _ (Or.inl (by simpa using Ne.symm hy)) rfl, cell_setCell_other _ _ _ _ (Or.inr (by simp)) rfl]
  refine (links_append _ p (n :: C) A).2 ⟨links_stay _ h1 (fun x hx => c4 x (hpA x ?_)) (fun y hy => c3 y (hnT y (hT1 ▸ hy))), ⟨?_, ?_⟩, links_stay _ h4 (fun x hx => c4 x (hpC x hx)) (fun y hy => c3 y (hnC y hy))⟩
  · simpa using hx
  · unfold cutWorld
    rw [cell_setCell_other _ _ _ _ (Or.inr (by simp)) rfl, cell_setCell_same w ⟨p, 4, none⟩ _ _ rfl hpe.1]
  · unfold cutWorld
    have : (w.setCell ⟨p, 4, none⟩ (P0 n)).cell? ⟨n, 3, none⟩ = some (P0 e) := by
      rw [cell_setCell_other _ _ _ _ (Or.inr (by simp)) rfl]; exact hen.2
    exact cell_setCell_same _ ⟨n, 3, none⟩ _ _ rfl this

/-- The world behind 'end'. -/
def endWorld (w : World) (b e l : Nat) : World :=
  (((w.setCell ⟨e, 3, none⟩ (P0 l)).setCell ⟨e, 4, none⟩ (P0 b)).setCell ⟨l, 4, none⟩ (P0 e)).setCell ⟨b, 3, none⟩ (P0 e)

theorem links_end {w : World} {X : List Nat} {b e l : Nat} (h : Links w (X ++ l :: [b])) (hf : (X ++ [l]).Nodup) (hs : (X ++ l :: [b]).tail.Nodup) (he : e ∉ X ++ l :: [b])
    (he3 : (w.cell? ⟨e, 3, none⟩).isSome) (he4 : (w.cell? ⟨e, 4, none⟩).isSome) : Links (endWorld w b e l) (X ++ l :: e :: [b]) := by
  obtain ⟨h1, h2, _⟩ := (links_append w l [b] X).1 h
  simp only [List.mem_append, List.mem_cons, List.not_mem_nil, or_false, not_or] at he
  have hlX : ∀ x ∈ X, x ≠ l := fun x hx hxl => (List.nodup_append.1 hf).2.2 x hx l (by simp) hxl
  have ht : ∃ T, (X ++ [l]).tail = T ∧ (X ++ l :: [b]).tail = T ++ [b] ∧ ∀ y ∈ T, y ∈ X ∨ y = l := by
    cases X with
    | nil => exact ⟨[], rfl, rfl, by simp⟩
    | cons a r => exact ⟨r ++ [l], rfl, by simp, by simp; intro y hy; rcases hy with hy | hy <;> simp [hy]⟩
  obtain ⟨T, hT1, hT2, hT3⟩ := ht
  rw [hT2] at hs
  have hbT : ∀ y ∈ T, y ≠ b := fun y hy hyb => (List.nodup_append.1 hs).2.2 y hy b (by simp) hyb
  obtain ⟨v3, hv3⟩ := Option.isSome_iff_exists.1 he3
  obtain ⟨v4, hv4⟩ := Option.isSome_iff_exists.1 he4
  have c4 : ∀ x, x ≠ l → x ≠ e → (endWorld w b e l).cell? ⟨x, 4, none⟩ = w.cell? ⟨x, 4, none⟩ := fun x hx hx' => by
    unfold endWorld
    rw [cell_setCell_other _ _ _ _ (Or.inr (by simp)) rfl, cell_setCell_other _ _ _ _ (Or.inl (by simpa using Ne.symm hx)) rfl,
      cell_setCell_other _ _ _ _ (Or.inl (by simpa using Ne.symm hx')) rfl, cell_setCell_other _ _ _ _ (Or.inr (by simp)) rfl]
  have c3 : ∀ y, y ≠ b → y ≠ e → (endWorld w b e l).cell? ⟨y, 3, none⟩ = w.cell? ⟨y, 3, none⟩ := fun y hy hy' => by
    unfold endWorld
    rw [cell_setCell_other _ _ _ _ (Or.inl (by simpa using Ne.symm hy)) rfl, cell_setCell_other _ _ _ _ (Or.inr (by simp)) rfl,
      cell_setCell_other _ _ _ _ (Or.inr (by simp)) rfl, cell_setCell_other _ _ _ _ (Or.inl (by simpa using Ne.symm hy')) rfl]
  refine (links_append _ l (e :: [b]) X).2 ⟨links_stay _ h1 (fun x hx => ?_) (fun y hy => ?_), ⟨?_, ?_⟩, ⟨?_, ?_⟩, trivial⟩
  · have hx' : x ∈ X := by simpa using hx
    exact c4 x (hlX x hx') (fun hxe => he.1 (hxe ▸ hx'))
  · have hy' : y ∈ T := hT1 ▸ hy
    refine c3 y (hbT y hy') (fun hye => ?_)
    rcases hT3 y hy' with h | h
    · exact he.1 (hye ▸ h)
    · exact he.2.1 (hye ▸ h)
  · unfold endWorld
    rw [cell_setCell_other _ _ _ _ (Or.inr (by simp)) rfl]
    refine cell_setCell_same _ ⟨l, 4, none⟩ _ (P0 b) rfl ?_
    rw [cell_setCell_other _ _ _ _ (Or.inl (by simpa using he.2.1)) rfl, cell_setCell_other _ _ _ _ (Or.inr (by simp)) rfl]
    exact h2.1
  · unfold endWorld
    rw [cell_setCell_other _ _ _ _ (Or.inl (by simpa using Ne.symm he.2.2)) rfl, cell_setCell_other _ _ _ _ (Or.inr (by simp)) rfl, cell_setCell_other _ _ _ _ (Or.inr (by simp)) rfl]
    exact cell_setCell_same _ ⟨e, 3, none⟩ _ _ rfl hv3
  · unfold endWorld
    rw [cell_setCell_other _ _ _ _ (Or.inr (by simp)) rfl, cell_setCell_other _ _ _ _ (Or.inl (by simpa using Ne.symm he.2.1)) rfl]
    refine cell_setCell_same _ ⟨e, 4, none⟩ _ v4 rfl ?_
    rw [cell_setCell_other _ _ _ _ (Or.inr (by simp)) rfl]
    exact hv4
  · unfold endWorld
    refine cell_setCell_same _ ⟨b, 3, none⟩ _ (P0 l) rfl ?_
    rw [cell_setCell_other _ _ _ _ (Or.inr (by simp)) rfl, cell_setCell_other _ _ _ _ (Or.inr (by simp)) rfl, cell_setCell_other _ _ _ _ (Or.inl (by simpa using he.2.2)) rfl]
    exact h2.2

end Go.Vs
