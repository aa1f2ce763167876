/-
  Maps on abstract values: what they hold, in the order in which it came; slices over local blocks. Operations that change nothing. No program in sight.
-/
import Derived.Test.YtinbfakpjnnagaaDoorDNAc
set_option linter.unusedVariables false
set_option linter.unusedSimpArgs false
namespace Go.Vs.Ab
open Go.RowKit
variable {P : Program} {X : Mem} {W0 w w' : World} {m : Mm}
def ents (es : List (Value × Value)) : List MapEntry := es.map fun p => ⟨p.1, p.2, 0⟩
def SameE (a b : List MapEntry) : Prop := a.map (fun e => (e.key, e.val)) = b.map (fun e => (e.key, e.val))
theorem SameE.cons {x y : MapEntry} {a b : List MapEntry} (h : SameE (x :: a) (y :: b)) : x.key = y.key ∧ x.val = y.val ∧ SameE a b := by
  simp only [SameE, List.map_cons, List.cons.injEq, Prod.mk.injEq] at h
  exact ⟨h.1.1, h.1.2, h.2⟩
theorem findNow_same (kd : TypeDesc) (k : Value) : ∀ (a b : List MapEntry) (i : Nat), SameE a b → Instr.findNow kd k a i = Instr.findNow kd k b i
  | [], [], i, _ => rfl
  | [], _ :: _, _, h => by simp [SameE] at h
  | _ :: _, [], _, h => by simp [SameE] at h
  | x :: a, y :: b, i, h => by
    obtain ⟨h1, h2, h3⟩ := h.cons
    unfold Instr.findNow
    rw [h1, h2, findNow_same kd k a b (i + 1) h3]
theorem findAsking_same (kt : TypeId) (k : Value) : ∀ (a b : List MapEntry) (i : Nat), SameE a b → Instr.findAsking kt k a i = Instr.findAsking kt k b i
  | [], [], i, _ => rfl
  | [], _ :: _, _, h => by simp [SameE] at h
  | _ :: _, [], _, h => by simp [SameE] at h
  | x :: a, y :: b, i, h => by
    obtain ⟨h1, h2, h3⟩ := h.cons
    unfold Instr.findAsking
    rw [h1, h2, findAsking_same kt k a b (i + 1) h3]
theorem findKey_same (kt : TypeId) (k : Value) {a b : List MapEntry} (h : SameE a b) : Instr.findKey kt k a = Instr.findKey kt k b := by
  unfold Instr.findKey
  simp only [findNow_same _ k a b 0 h, findAsking_same kt k a b 0 h]
theorem MapIs.same {es : List (Value × Value)} {arr : Array MapEntry} {clock : Nat} (h : MapIs es arr clock) : SameE arr.toList (ents es) := by
  rw [SameE, h.es, ents, List.map_map]
  exact (List.map_id es).symm
theorem MapIs.len {es : List (Value × Value)} {arr : Array MapEntry} {clock : Nat} (h : MapIs es arr clock) : arr.size = es.length := by
  rw [← h.es, List.length_map, Array.length_toList]
theorem MapIs.emp {es : List (Value × Value)} {arr : Array MapEntry} {clock : Nat} (h : MapIs es arr clock) : arr.isEmpty = es.isEmpty := by
  rw [Array.isEmpty, h.len]
  cases es <;> simp
def mLook (P : Program) (kt : TypeId) (es : List (Value × Value)) (k : Value) (em : Bool) : Option (Option (Nat × Value)) :=
  match pureVal P (Instr.checkKey em 10000 kt k) with
  | some _ => pureVal P (Instr.findKey kt k (ents es))
  | none => none
theorem mLook_run {kt : TypeId} {es : List (Value × Value)} {k : Value} {em : Bool} {r : Option (Nat × Value)} {arr : Array MapEntry} {clock : Nat} (h : mLook P kt es k em = some r) (hm : MapIs es arr clock) (w : World) :
    (Instr.checkKey em 10000 kt k).run P w = .ok () w ∧ (Instr.findKey kt k arr.toList).run P w = .ok r w := by
  unfold mLook at h
  split at h
  · rename_i u hu
    refine ⟨pureVal_run hu w, ?_⟩
    rw [findKey_same kt k hm.same]
    exact pureVal_run h w
  · cases h
def tzeroA (P : Program) (t : TypeId) : Option AV := match P.info? t with
  | some i => match i.zero with
    | some z => avOf1 z
    | none => none
  | none => none
theorem tzeroA_spec {t : TypeId} {c : AV} (h : tzeroA P t = some c) : ∃ z, avOf1 z = some c ∧ ∀ w, (zeroValue t).run P w = .ok z w := by
  unfold tzeroA at h
  split at h
  · rename_i i hi
    split at h
    · rename_i z hz
      exact ⟨z, h, fun w => by simp [zeroValue, typeInfo, hi, hz]⟩
    · cases h
  · cases h
def blkEnt : List AV → Option (List (Value × Value))
  | [.ent es] => some es
  | _ => none
theorem blkEnt_eq {cs : List AV} {es : List (Value × Value)} (h : blkEnt cs = some es) : cs = [.ent es] := by
  unfold blkEnt at h
  split at h
  · injection h with h; subst h; rfl
  · cases h
def aMapAt (m : Mm) : AV → Option (Nat × List (Value × Value))
  | .mapp b => match m.hp[b]? with
    | some blk => (blkEnt blk.cs).map fun es => (b, es)
    | none => none
  | _ => none
theorem aMapAt_ok (M : MR X W0 m w) {p : AV} {q : Value} {b : Nat} {es : List (Value × Value)} (h : aMapAt m p = some (b, es)) (hp : Rep X p q) :
    ∃ β blk arr clock, q = .map (some β) ∧ X.loc b = some β ∧ m.hp[b]? = some blk ∧ blk.cs = [.ent es] ∧ w.heap[β]? = some (.map arr clock) ∧ MapIs es arr clock ∧ (∀ o, X.cell β o = none) := by
  unfold aMapAt at h
  split at h
  · rename_i b'
    split at h
    · rename_i blk hblk
      simp only [Option.map_eq_some_iff, Prod.mk.injEq] at h
      obtain ⟨es', h1, rfl, rfl⟩ := h
      have hcs := blkEnt_eq h1
      cases hp with
      | mapp hb =>
        obtain ⟨β', g1, _, _, hB⟩ := M.locs _ blk hblk
        rw [hb] at g1
        injection g1 with g1
        subst g1
        cases hB with
        | dead h => rw [hcs] at h; simp at h
        | ent h2 h3 h4 h5 h6 =>
          rw [hcs] at h2
          simp at h2
          subst h2
          exact ⟨_, blk, _, _, rfl, hb, hblk, hcs, h3, h4, h6⟩
        | bld h2 => rw [hcs] at h2; simp at h2
        | byt h2 => rw [hcs] at h2; simp at h2
        | cells h2 h3 h4 =>
          rw [hcs] at h4
          have hl := h4.1
          cases hx : List.take [AV.ent es'].length (Array.toList ‹Array Value›) with
          | nil => rw [hx] at hl; simp at hl
          | cons x r =>
            rw [hx] at h4
            have := h4.2 0 (.ent es') x rfl rfl
            cases this
    · cases h
  · cases h
theorem run_getMap {β : Nat} {arr : Array MapEntry} {clock : Nat} (h : w.heap[β]? = some (.map arr clock)) : (getObj β).run P w = .ok (.map arr clock) w := by
  simp [getObj, Sem.run, h]
def lookRes (P : Program) (e : TypeId) (ok : Bool) : Option (Nat × Value) → Option AV
  | some (_, v) => (avOf1 v).map fun a => if ok then .tup [a, .c (.v (.bool true))] else a
  | none => (tzeroA P e).map fun a => if ok then .tup [a, .c (.v (.bool false))] else a
def aLookup (P : Program) (m : Mm) (t : TypeId) (p : AV) (k : Value) (ok : Bool) : Option AV :=
  match P.underlying t, aMapAt m p with
  | some (.map kt e), some (_, es) => match mLook P kt es k es.isEmpty with
    | some r => lookRes P e ok r
    | none => none
  | _, _ => none
theorem rep_pair {a : AV} {v : Value} {t : Bool} (h : Rep X a v) : Rep X (.tup [a, .c (.v (.bool t))]) (.tuple #[v, .bool t]) :=
  .tup rfl (fun i c x h1 h2 => by
    match i with
    | 0 => simp at h1 h2; subst h1 h2; exact h
    | 1 => simp at h1 h2; subst h1 h2; exact .c (.v rfl)
    | i + 2 => simp at h1)
theorem aLookup_ok (M : MR X W0 m w) {t : TypeId} {p c : AV} {q k : Value} {ok : Bool} (h : aLookup P m t p k ok = some c) (hp : Rep X p q) : Yl P X w (Instr.lookup t q k ok) c := by
  unfold aLookup at h
  split at h
  · rename_i kt e b es ht hm
    split at h
    · rename_i r hr
      obtain ⟨β, blk, arr, clock, rfl, hb, _, _, hw, hM, _⟩ := aMapAt_ok M hm hp
      have key : ∀ (V : Value) (t0 : Bool), (∀ w : World, (match r with
          | some (_, v) => (pure (v, true) : Sem (Value × Bool))
          | none => do pure (← zeroValue e, false)).run P w = .ok (V, t0) w) → ∀ w', Ag X w w' → (Instr.lookup t (.map (some β)) k ok).run P w' = .ok (if ok then .tuple #[V, .bool t0] else V) w' := fun V t0 hV w' A => by
        have hw' := (A.loc b β hb).trans hw
        have hc := mLook_run hr hM w'
        rw [← hM.emp] at hc
        have hV' := hV w'
        unfold Instr.lookup
        cases r with
        | some iv =>
          obtain ⟨i, v⟩ := iv
          simp only [Sem.run_pure, Result.ok.injEq, Prod.mk.injEq] at hV'
          obtain ⟨⟨rfl, rfl⟩, _⟩ := hV'
          simp only [Sem.run_bind, run_under ht, Result.andThen_ok, run_getMap hw', Sem.run_pure, hc.1, hc.2]
        | none =>
          simp only [Sem.run_bind, Sem.run_pure] at hV'
          simp only [Sem.run_bind, run_under ht, Result.andThen_ok, run_getMap hw', Sem.run_pure, hc.1, hc.2]
          cases hz : (zeroValue e).run P w' with
          | ok z w2 =>
            rw [hz] at hV'
            simp only [Result.andThen_ok, Result.ok.injEq, Prod.mk.injEq] at hV'
            obtain ⟨⟨rfl, rfl⟩, rfl⟩ := hV'
            simp only [Result.andThen_ok]
          | halt x w2 =>
            rw [hz] at hV'
            cases hV'
      cases r with
      | some iv =>
        obtain ⟨i, v⟩ := iv
        simp only [lookRes, Option.map_eq_some_iff] at h
        obtain ⟨a, ha, rfl⟩ := h
        have hra := avOf1_rep (X := X) ha
        refine ⟨if ok then .tuple #[v, .bool true] else v, ?_, key v true (fun w => by simp)⟩
        cases ok
        · exact hra
        · exact rep_pair hra
      | none =>
        simp only [lookRes, Option.map_eq_some_iff] at h
        obtain ⟨a, ha, rfl⟩ := h
        obtain ⟨z, hz, hzr⟩ := tzeroA_spec ha
        have hra := avOf1_rep (X := X) hz
        refine ⟨if ok then .tuple #[z, .bool false] else z, ?_, key z false (fun w => by simp [hzr w])⟩
        cases ok
        · exact hra
        · exact rep_pair hra
    · cases h
  · cases h
def aMapLen (m : Mm) (p : AV) : Option AV := (aMapAt m p).map fun r => .c (.v (.int .i64 (r.2.length : Nat)))
theorem aMapLen_ok (M : MR X W0 m w) {t ty : TypeId} {kt e : TypeId} (ht : P.underlying t = some (.map kt e)) {p c : AV} {q : Value} (h : aMapLen m p = some c) (hp : Rep X p q) : Yl P X w (Builtin.len_ #[t] ty #[q]) c := by
  simp only [aMapLen, Option.map_eq_some_iff] at h
  obtain ⟨⟨b, es⟩, h1, rfl⟩ := h
  obtain ⟨β, blk, arr, clock, rfl, hb, _, _, hw, hM, _⟩ := aMapAt_ok M h1 hp
  refine ⟨.int .i64 es.length, .c (.v rfl), fun w' A => ?_⟩
  have hw' := (A.loc b β hb).trans hw
  simp [Builtin.len_, run_under ht, run_getMap hw', hM.len, goInt]
/-! ### slices over local blocks -/
def lsV : AV → Option (Nat × Nat × Nat × Nat)
  | .lsl b lo n k => some (b, lo, n, k)
  | _ => none
theorem lsV_eq {c : AV} {b lo n k : Nat} (h : lsV c = some (b, lo, n, k)) : c = .lsl b lo n k := by
  unfold lsV at h
  split at h
  · simp only [Option.some.injEq, Prod.mk.injEq] at h
    obtain ⟨rfl, rfl, rfl, rfl⟩ := h
    rfl
  · cases h
def aIndexL (P : Program) (t : TypeId) (p ix : AV) : Option AV :=
  match P.underlying t, lsV p, intV ix with
  | some (.slice e), some (b, lo, n, k), some i => match tsz P e, natI i with
    | some s, some j => if Nat.blt j n && Nat.blt 0 s && Nat.beq s k then some (.ptr b ((lo + j) * k)) else none
    | _, _ => none
  | _, _, _ => none
theorem aIndexL_ok {t : TypeId} {p ix c : AV} {q j : Value} (h : aIndexL P t p ix = some c) (hp : Rep X p q) (hj : Rep X ix j) : Yl P X w (Instr.indexAt t q j) c := by
  unfold aIndexL at h
  split at h
  · rename_i e b lo n k i ht hl hi
    obtain rfl := lsV_eq hl
    obtain ⟨kk, rfl⟩ := intV_rep hi hj
    split at h
    · rename_i s jn hs hjn
      obtain ⟨inf, h2, rfl⟩ := tsz_spec hs
      obtain rfl := natI_eq hjn
      split at h
      · rename_i hc
        simp only [Bool.and_eq_true, Nat.blt_eq] at hc
        have hk := Nat.eq_of_beq_eq_true hc.2
        injection h with h
        subst h
        cases hp with
        | lsl hb ho hn hcap hrm =>
          have ho := ho (by omega)
          subst ho
          have e1 : lo * k + jn * k = (lo + jn) * k := by rw [Nat.add_mul]
          refine ⟨_, .ptr hb, fun w' _ => ?_⟩
          have : (jn : Int) < (n : Int) := by omega
          simp [Instr.indexAt, asIntOf, run_under ht, run_size h2, add_none, hk, ← e1]
          omega
      · cases h
    · cases h
  · cases h
def aSliceL (P : Program) (t : TypeId) (p : AV) (lo hi mx : Option Int) : Option AV :=
  match P.underlying t, lsV p with
  | some (.slice e), some (b, l0, n, k) => match tsz P e, bnds n lo hi mx with
    | some s, some (l, h, none) => if Nat.beq s k then some (.lsl b (l0 + l) (h - l) k) else none
    | _, _ => none
  | _, _ => none
theorem aSliceL_ok {t : TypeId} {p c : AV} {q : Value} {lo hi mx : Option Int} {vlo vhi vmx : Option Value} (h : aSliceL P t p lo hi mx = some c) (hp : Rep X p q)
    (hlo : lo = none ∧ vlo = none ∨ ∃ k i, lo = some i ∧ vlo = some (.int k i)) (hhi : hi = none ∧ vhi = none ∨ ∃ k i, hi = some i ∧ vhi = some (.int k i)) (hmx : mx = none ∧ vmx = none ∨ ∃ k i, mx = some i ∧ vmx = some (.int k i)) :
    Yl P X w (Instr.sliceAt t q vlo vhi vmx) c := by
  unfold aSliceL at h
  split at h
  · rename_i e b l0 n k ht hl
    obtain rfl := lsV_eq hl
    split at h
    · rename_i s l hh hs hb
      obtain ⟨inf, h2, rfl⟩ := tsz_spec hs
      split at h
      · rename_i hk
        have hk := Nat.eq_of_beq_eq_true hk
        injection h with h
        subst h
        obtain ⟨b1, b2, b3, b4, b5, b6⟩ := bnds_spec hb
        cases hp with
        | lsl hbl ho hn hcap hrm =>
          rename_i β o cap
          have hm : vmx = none := by
            rcases hmx with ⟨_, e⟩ | ⟨k', i, e, _⟩
            · exact e
            · rw [e] at b3; cases b3
          have hrun : ∀ w', (Instr.sliceAt t (.slice (some ⟨β, o, none⟩) n cap) vlo vhi vmx).run P w' = .ok (.slice (some (if cap = l then ⟨β, o, none⟩ else ⟨β, o + l * inf.size, none⟩)) (hh - l) (cap - l)) w' := fun w' => by
            have := run_bounds (P := P) (n := n) (cap := cap) (l := l) (h := hh) (m := none) (lo := vlo) (hi := vhi) (mx := vmx)
              (by rcases hlo with ⟨rfl, rfl⟩ | ⟨k, i, rfl, rfl⟩
                  · rcases b1 with ⟨_, e⟩ | e
                    · exact Or.inl ⟨rfl, e⟩
                    · cases e
                  · rcases b1 with ⟨e, _⟩ | e
                    · cases e
                    · injection e with e; exact Or.inr ⟨k, by rw [e]⟩)
              (by rcases hhi with ⟨rfl, rfl⟩ | ⟨k, i, rfl, rfl⟩
                  · rcases b2 with ⟨_, e⟩ | e
                    · exact Or.inl ⟨rfl, e⟩
                    · cases e
                  · rcases b2 with ⟨e, _⟩ | e
                    · cases e
                    · injection e with e; exact Or.inr ⟨k, by rw [e]⟩)
              (Or.inl ⟨hm, rfl⟩) b4 b5 hn b6 w'
            simp only [Option.getD_none] at this
            simp only [Instr.sliceAt, Instr.slice, Sem.run_bind, run_under ht, Result.andThen_ok, this, Sem.run_pure, run_size h2, Option.map_some, add_none]
            by_cases hc : cap = l
            · simp [hc]
            · simp [hc]
          refine ⟨_, ?_, fun w' _ => hrun w'⟩
          by_cases hc : cap = l
          · rw [if_pos hc]
            exact .lsl hbl (fun h => by omega) (by omega) (by omega) (by rw [hc, Nat.sub_self, Nat.zero_mul]; exact Nat.le_trans (Nat.le_add_right _ _) hrm)
          · rw [if_neg hc]
            refine .lsl hbl (fun h => ?_) (by omega) (by omega) ?_
            · rw [ho (by omega), hk, Nat.add_mul]
            · rw [hk, Nat.sub_mul]
              have : l * k ≤ cap * k := Nat.mul_le_mul_right _ (by omega)
              omega
      · cases h
    · cases h
  · cases h
end Go.Vs.Ab
