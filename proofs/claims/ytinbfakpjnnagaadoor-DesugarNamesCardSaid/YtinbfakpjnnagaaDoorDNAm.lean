/-
  Abstract values, spelt: what the rules' premises come to. No program in sight.
-/
import Derived.Test.YtinbfakpjnnagaaDoorDNAl
import Derived.IntWalk
namespace Go.Vs.Ab
open Go.RowKit
variable {P : Program} {X : Mem} {W0 w w' : World} {m : Mm} {nt : Nat} {fr : Fr} {Q : Ex → Fr → Mm → Prop}
abbrev iA (n : Int) : AV := .c (.v (.int .i64 n))
abbrev bA (b : Bool) : AV := .c (.v (.bool b))
abbrev sA (s : ByteArray) : AV := .c (.v (.string s))
variable {R : MRel} [hR : RelOk R]
/-! ### code, one piece at a time, the rest unseen -/
theorem tr_seq_k {a b : Code} (h : ∀ K : Fr → Mm → Prop, (∀ fr m, Tr R P nt b fr m Q → K fr m) → Tr R P nt a fr m (Ex.seq K Q)) : Tr R P nt (.seq a b) fr m Q := tr_seq (h _ fun _ _ h => h)
theorem call_of {F : FuncId} {args args' : List AV} {f : Mm → AV × Mm} {K : Kind → AV → Mm → Prop} (h : Does P F args' f) (hs : shuts args = some args') (hk : K .loud (f m).1 (f m).2) : CallW P F args m K := ⟨_, _, Or.inl ⟨h.gives hs, hk⟩⟩
theorem call_gives {F : FuncId} {args : List AV} {r : AV} {m' : Mm} {K : Kind → AV → Mm → Prop} (h : Gives P F args m r m') (hk : K .loud r m') : CallW P F args m K := ⟨_, _, Or.inl ⟨h, hk⟩⟩
theorem call_givesW {F : FuncId} {args : List AV} {r : AV} {m' : Mm} {K : Kind → AV → Mm → Prop} (h : GivesW P F args m r m') (hk : K .store r m') : CallW P F args m K := ⟨_, _, Or.inr ⟨h, hk⟩⟩
theorem k_of {K A : Fr → Mm → Prop} (h : ∀ fr m, A fr m → K fr m) (h2 : A fr m) : K fr m := h fr m h2
theorem tr_loop_k {c : Code} {σ : Type} (frs : σ → Fr) (ms : σ → Mm) (I : σ → Prop) (μ : σ → Nat) (s0 : σ) (hI : I s0) (h0 : SubF (frs s0) fr) (hm : m = ms s0)
    (round : ∀ s, I s → ∀ K : Fr → Mm → Prop, (∀ s' fr' m', I s' → Back (ms s0) (frs s') (ms s') fr' m' → μ s' < μ s → K fr' m') → Tr R P nt c (frs s) (ms s) (Ex.seq K Q)) : Tr R P nt (.loop c) fr m Q :=
  tr_loop frs ms I μ s0 hI h0 hm fun s hs => round s hs _ fun s' _ _ h1 h2 h3 => ⟨s', h1, h2, h3⟩
theorem ex_seq {K : Fr → Mm → Prop} : Ex.seq K Q .nrm fr m = K fr m := rfl
theorem ex_seq_exit {K : Fr → Mm → Prop} {id : Nat} : Ex.seq K Q (.exit id) fr m = Q (.exit id) fr m := rfl
theorem ex_seq_ret {K : Fr → Mm → Prop} : Ex.seq K Q .ret fr m = Q .ret fr m := rfl
theorem ex_block {id : Nat} : Ex.block id Q .nrm fr m = Q .nrm fr m := rfl
theorem ex_block_exit {id j : Nat} : Ex.block id Q (.exit j) fr m = if j = id then Q .nrm fr m else Q (.exit j) fr m := rfl
theorem ex_block_ret {id : Nat} : Ex.block id Q .ret fr m = Q .ret fr m := rfl
theorem does_of' {F : FuncId} {fn : Func} {c : Code} {rs : List ResultVar} (hF : P.funcs[F]? = some fn) (hb : fn.body = some c) (hcb : callableB fn = true) {args : List AV} {f : Mm → AV × Mm} (hs : shuts args = some args) {nt : Nat} (hnt : fn.ntmps = nt) (hle : Nat.ble args.length nt = true) (hrs : fn.results.toList = rs)
    (h : ∀ Q : Ex → Fr → Mm → Prop, (∀ fr m1 cs, resAll P fr m1 rs = some cs → (∀ m, retV m1 m (resV cs) = some (f m)) → Q .nrm fr m1 ∧ Q .ret fr m1) → Tr cle P nt c (initFr 0 args) ⟨[], []⟩ Q) : Does P F args f := by
  subst hnt hrs
  exact does_of hF hb hcb hs (by simpa using hle) (h _ fun fr m1 cs h1 h2 => ⟨⟨(fun _ h => by cases h), cs, h1, h2⟩, ⟨(fun _ h => by cases h), cs, h1, h2⟩⟩)
/-! ### values -/
theorem cv_int (k : IntKind) (n : Int) : cvOf (.int k n) = some (.v (.int k n)) := rfl
theorem cv_bool (b : Bool) : cvOf (.bool b) = some (.v (.bool b)) := rfl
theorem cv_str (s : ByteArray) : cvOf (.string s) = some (.v (.string s)) := rfl
theorem cv_nil : cvOf (.slice none 0 0) = some (.sl true 0 []) := rfl
theorem av1_int (k : IntKind) (n : Int) : avOf1 (.int k n) = some (.c (.v (.int k n))) := rfl
theorem av1_bool (b : Bool) : avOf1 (.bool b) = some (.c (.v (.bool b))) := rfl
theorem av1_str (s : ByteArray) : avOf1 (.string s) = some (.c (.v (.string s))) := rfl
theorem av_int (k : IntKind) (n : Int) : avOf (.int k n) = some (.c (.v (.int k n))) := rfl
theorem av_bool (b : Bool) : avOf (.bool b) = some (.c (.v (.bool b))) := rfl
theorem av_str (s : ByteArray) : avOf (.string s) = some (.c (.v (.string s))) := rfl
theorem av_nil : avOf (.slice none 0 0) = some (.c (.sl true 0 [])) := rfl
theorem av_agg (xs : Array Value) : avOf (.agg xs) = (cvsOf xs.toList).map .agg := rfl
theorem avs1 (v : Value) : av1 (some v) = avOf1 v := rfl
theorem avs_none : av1 none = none := rfl
theorem bin_iadd (t : TypeId) (x y : Operand) (a b : Int) : pureVal P (do eqGuard .add t x y (.int .i64 a) (.int .i64 b); binOp .add t (.int .i64 a) (.int .i64 b)) = some (.int .i64 (IntKind.i64.wrap (a + b))) := rfl
theorem bin_isub (t : TypeId) (x y : Operand) (a b : Int) : pureVal P (do eqGuard .sub t x y (.int .i64 a) (.int .i64 b); binOp .sub t (.int .i64 a) (.int .i64 b)) = some (.int .i64 (IntKind.i64.wrap (a - b))) := rfl
theorem bin_imul (t : TypeId) (x y : Operand) (a b : Int) : pureVal P (do eqGuard .mul t x y (.int .i64 a) (.int .i64 b); binOp .mul t (.int .i64 a) (.int .i64 b)) = some (.int .i64 (IntKind.i64.wrap (a * b))) := rfl
theorem bin_ilss (t : TypeId) (x y : Operand) (k : IntKind) (a b : Int) : pureVal P (do eqGuard .lss t x y (.int k a) (.int k b); binOp .lss t (.int k a) (.int k b)) = some (.bool (decide (a < b))) := by cases k <;> rfl
theorem bin_ileq (t : TypeId) (x y : Operand) (k : IntKind) (a b : Int) : pureVal P (do eqGuard .leq t x y (.int k a) (.int k b); binOp .leq t (.int k a) (.int k b)) = some (.bool (decide (a ≤ b))) := by cases k <;> rfl
theorem bin_igtr (t : TypeId) (x y : Operand) (k : IntKind) (a b : Int) : pureVal P (do eqGuard .gtr t x y (.int k a) (.int k b); binOp .gtr t (.int k a) (.int k b)) = some (.bool (decide (b < a))) := by cases k <;> rfl
theorem bin_igeq (t : TypeId) (x y : Operand) (k : IntKind) (a b : Int) : pureVal P (do eqGuard .geq t x y (.int k a) (.int k b); binOp .geq t (.int k a) (.int k b)) = some (.bool (decide (b ≤ a))) := by cases k <;> rfl
theorem bin_ieql (t : TypeId) (x y : Operand) (k : IntKind) (a b : Int) : pureVal P (do eqGuard .eql t x y (.int k a) (.int k b); binOp .eql t (.int k a) (.int k b)) = some (.bool (decide (a = b))) := by cases k <;> rfl
theorem bin_ineq (t : TypeId) (x y : Operand) (k : IntKind) (a b : Int) : pureVal P (do eqGuard .neq t x y (.int k a) (.int k b); binOp .neq t (.int k a) (.int k b)) = some (.bool (!decide (a = b))) := by cases k <;> rfl
theorem bin_seql (t : TypeId) (x y : Operand) (a b : ByteArray) : pureVal P (do eqGuard .eql t x y (.string a) (.string b); binOp .eql t (.string a) (.string b)) = some (.bool (decide (a = b))) := by rw [← str_beq]; rfl
theorem bin_sneq (t : TypeId) (x y : Operand) (a b : ByteArray) : pureVal P (do eqGuard .neq t x y (.string a) (.string b); binOp .neq t (.string a) (.string b)) = some (.bool (!decide (a = b))) := by rw [← str_beq]; rfl
def slt (a b : ByteArray) : Bool := Op.bytesLess a.toList b.toList
theorem bin_slss (t : TypeId) (x y : Operand) (a b : ByteArray) : pureVal P (do eqGuard .lss t x y (.string a) (.string b); binOp .lss t (.string a) (.string b)) = some (.bool (slt a b)) := rfl
theorem bin_sgeq (t : TypeId) (x y : Operand) (a b : ByteArray) : pureVal P (do eqGuard .geq t x y (.string a) (.string b); binOp .geq t (.string a) (.string b)) = some (.bool (!slt a b)) := rfl
theorem bin_sgtr (t : TypeId) (x y : Operand) (a b : ByteArray) : pureVal P (do eqGuard .gtr t x y (.string a) (.string b); binOp .gtr t (.string a) (.string b)) = some (.bool (!(slt a b || decide (a = b)))) := by rw [← str_beq]; rfl
theorem un_not (b : Bool) : pureVal P (Op.unary .not (.bool b)) = some (.bool (!b)) := rfl
theorem pv_bind {α β : Type} : ∀ (x : Sem α) (f : α → Sem β), pureVal P (x >>= f) = (pureVal P x).bind fun a => pureVal P (f a)
  | .pure a, f => rfl
  | .program k, f => by
    have := pv_bind (k P) f
    exact this
  | .load .., _ => rfl
  | .store .., _ => rfl
  | .new .., _ => rfl
  | .shape .., _ => rfl
  | .freeze .., _ => rfl
  | .frozen .., _ => rfl
  | .getObj .., _ => rfl
  | .setObj .., _ => rfl
  | .choose .., _ => rfl
  | .sys .., _ => rfl
  | .mark .., _ => rfl
  | .halt .., _ => rfl
theorem shut_c {x : CV} : shut (.c x) = some (.c x) := rfl
theorem shut_agg {x : List CV} : shut (.agg x) = some (.agg x) := rfl
theorem shut_own {k n : Nat} {x : List CV} : shut (.own k n x) = some (.c (.sl false n x)) := rfl
theorem shut_cptr {x : List CV} : shut (.cptr x) = some (.cptr x) := rfl
theorem shut_fn {f : Fn} : shut (.fn f [] []) = some (.fn f [] []) := rfl
theorem clean_c {x : CV} : clean (.c x) = some x := rfl
theorem clean_own {k n : Nat} {x : List CV} : clean (.own k n x) = some (.sl false n x) := rfl
theorem cells_agg {x : List CV} : cells (.agg x) = some x := rfl
theorem cells_c {x : CV} : cells (.c x) = some [x] := rfl
theorem cells_own {k n : Nat} {x : List CV} : cells (.own k n x) = some [.sl false n x] := rfl
theorem avCells_agg {x : List CV} : avCells (.agg x) = some (x.map .c) := rfl
theorem avCells_c {x : CV} : avCells (.c x) = some [.c x] := rfl
theorem avCells_own {k n : Nat} {x : List CV} : avCells (.own k n x) = some [.own k n x] := rfl
theorem avCells_ptr {k n : Nat} : avCells (.ptr k n) = some [.ptr k n] := rfl
theorem avCells_fn {f : Fn} {a b : List AV} : avCells (.fn f a b) = some [.fn f a b] := rfl
theorem intV_int {k : IntKind} {n : Int} : intV (.c (.v (.int k n))) = some n := rfl
theorem slV_c {ex : Bool} {n : Nat} {x : List CV} : slV (.c (.sl ex n x)) = some (n, x) := rfl
theorem slV_own {k n : Nat} {x : List CV} : slV (.own k n x) = some (n, x) := rfl
theorem val_v {x : Value} : AV.val (.c (.v x)) = some x := rfl
theorem val_sl {ex : Bool} {n : Nat} {x : List CV} : AV.val (.c (.sl ex n x)) = none := rfl
theorem val_own {k n : Nat} {x : List CV} : AV.val (.own k n x) = none := rfl
theorem val_agg {x : List CV} : AV.val (.agg x) = (vals x).map fun xs => .agg xs.toArray := rfl
theorem val_ptr {b o : Nat} : AV.val (.ptr b o) = none := rfl
theorem val_cptr {x : List CV} : AV.val (.cptr x) = none := rfl
theorem low_c {i j : Nat} {x : CV} : low i j (.c x) = true := rfl
theorem low_agg {i j : Nat} {x : List CV} : low i j (.agg x) = true := rfl
theorem low_ptr {i j b o : Nat} : low i j (.ptr b o) = Nat.blt b i := rfl
theorem low_own {i j k n : Nat} {x : List CV} : low i j (.own k n x) = Nat.blt k j := rfl
theorem low_lsl {i j b lo n k : Nat} : low i j (.lsl b lo n k) = Nat.blt b i := rfl
theorem low_mapp {i j b : Nat} : low i j (.mapp b) = Nat.blt b i := rfl
theorem low_ent {i j : Nat} {es : List (Value × Value)} : low i j (.ent es) = true := rfl
theorem low_dead {i j : Nat} : low i j .dead = true := rfl
theorem low_cptr {i j : Nat} {x : List CV} : low i j (.cptr x) = true := rfl
theorem b_max (ts : Array TypeId) (ty : TypeId) (k : IntKind) (a b : Int) : pureVal P (Builtin.max_ ts ty #[.int k a, .int k b]) = some (.int k (if b > a then b else a)) := rfl
theorem b_min (ts : Array TypeId) (ty : TypeId) (k : IntKind) (a b : Int) : pureVal P (Builtin.min_ ts ty #[.int k a, .int k b]) = some (.int k (if b < a then b else a)) := rfl
theorem b_lenS (t ty : TypeId) (ht : P.underlying t = some .string) (s : ByteArray) : pureVal P (Builtin.len_ #[t] ty #[.string s]) = some (.int .i64 s.size) := by
  simp [Builtin.len_, pureVal, underlying, program, ht, goInt, bind, Sem.bind, pure]
theorem pv_pure {α : Type} (a : α) : pureVal P (pure a) = some a := rfl
/-! ### slices of records -/
def slR {T : Type} (enc : T → List CV) (ex : Bool) (l : List T) : AV := .c (.sl ex l.length (l.flatMap enc))
theorem flat_drop {T : Type} (enc : T → List CV) (k : Nat) (hk : ∀ x, (enc x).length = k) : ∀ (l : List T) (i : Nat) (hi : i < l.length), (l.flatMap enc).drop (i * k) = enc l[i] ++ (l.drop (i + 1)).flatMap enc
  | [], i, hi => absurd hi (Nat.not_lt_zero _)
  | x :: l, 0, hi => by simp
  | x :: l, i + 1, hi => by
    have := flat_drop enc k hk l i (by simpa using hi)
    rw [List.flatMap_cons, Nat.succ_mul, Nat.add_comm, ← List.drop_drop, List.drop_left' (hk x), this]
    simp
theorem flat_length {T : Type} (enc : T → List CV) (k : Nat) (hk : ∀ x, (enc x).length = k) : ∀ l : List T, (l.flatMap enc).length = l.length * k
  | [] => by simp
  | x :: l => by rw [List.flatMap_cons, List.length_append, hk, flat_length enc k hk l, List.length_cons, Nat.succ_mul, Nat.add_comm]
theorem idx_R {T : Type} (enc : T → List CV) (k : Nat) (hk : ∀ x, (enc x).length = k) {t e : TypeId} (ht : P.underlying t = some (.slice e)) (he : tsz P e = some k) (h0 : 0 < k) {ex : Bool} {l : List T} {ik : IntKind} {i : Nat} (hi : i < l.length) :
    aIndexAddr P t (slR enc ex l) (.c (.v (.int ik (i : Int)))) = some (.cptr (enc l[i] ++ (l.drop (i + 1)).flatMap enc)) := by
  have hle : i * k + k ≤ l.length * k := by rw [← Nat.succ_mul]; exact Nat.mul_le_mul_right _ hi
  have h1 : Nat.blt i l.length = true := by simpa using hi
  have h2 : Nat.blt 0 k = true := by simpa using h0
  have h3 : Nat.ble (i * k + k) (l.flatMap enc).length = true := by rw [flat_length enc k hk]; simpa using hle
  have hn : ¬ ((i : Int) < 0) := by omega
  simp only [aIndexAddr, intV, ht, slR, slV, he, Int.toNat_natCast, h1, h2, h3, flat_drop enc k hk l i hi, Bool.and_self, if_true, hn, decide_false, Bool.false_eq_true, if_false]
theorem plain1_c {x : CV} : plain1 (.c x) = true := rfl
theorem plain1_agg {x : List CV} : plain1 (.agg x) = true := rfl
theorem plain1_tup {x} : plain1 (.tup x) = true := rfl
theorem plain1_own {k n cs} : plain1 (.own k n cs) = true := rfl
theorem plain1_ptr {b o} : plain1 (.ptr b o) = true := rfl
theorem plain1_cptr {c} : plain1 (.cptr c) = true := rfl
theorem plain1_fn {f x y} : plain1 (.fn f x y) = true := rfl
theorem plain1_lsl {b l n k} : plain1 (.lsl b l n k) = true := rfl
theorem plain1_mapp {b} : plain1 (.mapp b) = true := rfl
theorem plain1_ifc {t v} : plain1 (.ifc t v) = true := rfl
theorem plain1_strc {v} : plain1 (.strc v) = true := rfl
theorem plain1_ent {e} : plain1 (.ent e) = false := rfl
theorem plain1_dead : plain1 .dead = false := rfl
theorem plain1_slR {T : Type} {enc : T → List CV} {ex : Bool} {l : List T} : plain1 (slR enc ex l) = true := rfl
theorem plainB_nil : plainB [] = true := rfl
theorem plainB_cons {c : AV} {r : List AV} : plainB (c :: r) = plain1 c := rfl
theorem shut_slR {T : Type} {enc : T → List CV} {ex : Bool} {l : List T} : shut (slR enc ex l) = some (slR enc ex l) := rfl
theorem val_slR {T : Type} {enc : T → List CV} {ex : Bool} {l : List T} : AV.val (slR enc ex l) = none := rfl
theorem clean_slR {T : Type} {enc : T → List CV} {ex : Bool} {l : List T} : clean (slR enc ex l) = some (.sl ex l.length (l.flatMap enc)) := rfl
theorem cells_slR {T : Type} {enc : T → List CV} {ex : Bool} {l : List T} : cells (slR enc ex l) = some [.sl ex l.length (l.flatMap enc)] := rfl
theorem avCells_slR {T : Type} {enc : T → List CV} {ex : Bool} {l : List T} : avCells (slR enc ex l) = some [slR enc ex l] := rfl
theorem low_slR {i j : Nat} {T : Type} {enc : T → List CV} {ex : Bool} {l : List T} : low i j (slR enc ex l) = true := rfl
theorem len_R {T : Type} (enc : T → List CV) (ex : Bool) (l : List T) : slV (slR enc ex l) = some (l.length, l.flatMap enc) := rfl
theorem ok_calm {l : List Nat} {f i : Nat} {b : Bool} : okKind l f i b .calm = true := by
  unfold okKind
  split <;> rfl
theorem ok_loud {l : List Nat} {f i : Nat} {b : Bool} : okKind l f i b .loud = l.contains i := by
  unfold okKind
  split
  · rename_i h
    rw [h]
    rfl
  · rename_i h
    rw [Bool.not_eq_true] at h
    rw [h]
    rfl
theorem ok_store {l : List Nat} {f i : Nat} {b : Bool} : okKind l f i b .store = (l.contains i && (Nat.beq i f && b)) := by
  unfold okKind
  split
  · rename_i h
    rw [h]
    rfl
  · rename_i h
    rw [Bool.not_eq_true] at h
    rw [h]
    rfl
theorem lsV_c {x : CV} : lsV (.c x) = none := rfl
theorem lsV_agg {x : List CV} : lsV (.agg x) = none := rfl
theorem lsV_own {k n : Nat} {x : List CV} : lsV (.own k n x) = none := rfl
theorem lsV_ptr {k n : Nat} : lsV (.ptr k n) = none := rfl
theorem lsV_cptr {x : List CV} : lsV (.cptr x) = none := rfl
theorem lsV_lsl {b lo n k : Nat} : lsV (.lsl b lo n k) = some (b, lo, n, k) := rfl
theorem lsV_slR {T : Type} {enc : T → List CV} {ex : Bool} {l : List T} : lsV (slR enc ex l) = none := rfl
theorem slV_lsl {b lo n k : Nat} : slV (.lsl b lo n k) = none := rfl
theorem val_lsl {b lo n k : Nat} : AV.val (.lsl b lo n k) = none := rfl
theorem val_mapp {b : Nat} : AV.val (.mapp b) = none := rfl
theorem blkEnt_ent {es : List (Value × Value)} : blkEnt [.ent es] = some es := rfl
theorem avCells_lsl {b lo n k : Nat} : avCells (.lsl b lo n k) = some [.lsl b lo n k] := rfl
theorem avCells_mapp {b : Nat} : avCells (.mapp b) = some [.mapp b] := rfl
attribute [go_sem] lsV_c lsV_agg lsV_own lsV_ptr lsV_cptr lsV_lsl lsV_slR slV_lsl val_lsl val_mapp blkEnt_ent avCells_lsl avCells_mapp mapD aMapAt aMapLen aLookup lookRes aMapPut
attribute [go_sem] zblk isCalm aFill splice Bool.and_eq_true and_self Bool.not_eq_true' Bool.not_eq_false' pv_bind pv_pure SeqW OrdW ok_calm ok_loud ok_store List.contains_cons List.contains_nil aWanted evOp calm calmB opd opdV oprs oprsV oprps optV bnd find ins initFr vals natI cleans aLoad aFieldAddr aExtract aField aPart aStore aFreeze aSliceArr fixedAt aBuild placesOf shuts ret1 retV resAll resOne resV SubF lows lowF lowB aggD arrD sliceD cv_int cv_bool cv_str cv_nil av1_int av1_bool av1_str av_int av_bool av_str av_nil av_agg avs1 avs_none cvsOf bin_iadd bin_isub bin_imul bin_ilss bin_ileq bin_igtr bin_igeq bin_ieql bin_ineq bin_seql bin_sneq bin_slss bin_sgeq bin_sgtr un_not ex_seq ex_seq_exit ex_seq_ret ex_block ex_block_exit ex_block_ret len_R Option.map_some Option.map_none Option.bind_some Option.bind_none Nat.beq_eq Nat.blt_eq Nat.ble_eq if_true if_false ite_true ite_false true_and and_true List.map_cons List.map_nil List.append_nil List.nil_append List.cons_append List.length_cons List.length_nil List.drop_zero List.drop_succ_cons List.take_zero List.take_succ_cons List.getElem?_cons_zero List.getElem?_cons_succ List.getElem?_nil List.set_cons_zero List.set_cons_succ Nat.zero_add Nat.add_zero Nat.zero_mul Nat.one_mul Bool.and_true Bool.true_and Bool.not_true Bool.not_false Bool.false_eq_true decide_true decide_false beq_self_eq_true Bool.or_false Bool.or_true List.isEmpty_nil List.isEmpty_cons Nat.zero_eq shut_c shut_agg shut_own shut_cptr shut_fn clean_c clean_own cells_agg cells_c cells_own avCells_agg avCells_c avCells_own avCells_ptr avCells_fn intV_int slV_c slV_own val_v val_sl val_own val_agg val_ptr val_cptr low_c low_agg low_ptr low_own low_cptr low_lsl low_mapp low_ent low_dead plainB_nil plainB_cons plain1_c plain1_agg plain1_tup plain1_own plain1_ptr plain1_cptr plain1_fn plain1_lsl plain1_mapp plain1_ifc plain1_strc plain1_ent plain1_dead plain1_slR shut_slR val_slR clean_slR cells_slR avCells_slR low_slR SeqC opW_none opW_false opW_true evW_calm evW_frz evW_loud evW_store evW_wr evW_call b_max b_min b_lenS mk_eq
theorem orB_some {c : AV} {b : Option AV} : orBuild (some c) b = some c := rfl
theorem orB_none {b : Option AV} : orBuild none b = b := rfl
@[congr] theorem orB_congr {a a' b : Option AV} (h : a = a') : orBuild a b = orBuild a' b := by rw [h]
theorem cells_mapp {b : Nat} : cells (.mapp b) = none := rfl
theorem cells_lsl {b l n k : Nat} : cells (.lsl b l n k) = none := rfl
theorem cells_ptr {b o : Nat} : cells (.ptr b o) = none := rfl
theorem avCells_strc {vs : List AV} : avCells (.strc vs) = some vs := rfl
theorem avCells_ifc {t : TypeId} {v : AV} : avCells (.ifc t v) = some [.ifc t v] := rfl
theorem val_ifc {t : TypeId} {v : AV} : AV.val (.ifc t v) = none := rfl
theorem val_fn {f : Fn} {a b : List AV} : AV.val (.fn f a b) = none := rfl
theorem low_ifc {i j : Nat} {t : TypeId} {v : AV} : low i j (.ifc t v) = low i j v := rfl
theorem low_fn {i j : Nat} {f : Fn} {a b : List AV} : low i j (.fn f a b) = (lows i j a && lows i j b) := rfl
theorem lsV_ifc {t : TypeId} {v : AV} : lsV (.ifc t v) = none := rfl
theorem aNil_eql {t : TypeId} {b o : Nat} : aNil P .eql t (some (.ptr b o)) (.pointer none) = if ptrD (P.underlying t) then some (.c (.v (.bool false))) else none := rfl
theorem aNil_neq {t : TypeId} {b o : Nat} : aNil P .neq t (some (.ptr b o)) (.pointer none) = if ptrD (P.underlying t) then some (.c (.v (.bool true))) else none := rfl
theorem aNil_eqlF {t : TypeId} {f : Fn} {a b : List AV} : aNil P .eql t (some (.fn f a b)) .nilFunc = if funcD (P.underlying t) then some (.c (.v (.bool false))) else none := rfl
theorem aNil_neqF {t : TypeId} {f : Fn} {a b : List AV} : aNil P .neq t (some (.fn f a b)) .nilFunc = if funcD (P.underlying t) then some (.c (.v (.bool true))) else none := rfl
theorem aAssert_ifc {t u : TypeId} {ok : Bool} {c : AV} : aAssert P t ok (.ifc u c) = if Nat.beq u t && !ifaceD (P.underlying t) && (P.underlying t).isSome then some (if ok then .tup [c, .c (.v (.bool true))] else c) else none := rfl
theorem ptrD_ptr {e : TypeId} : ptrD (some (.pointer e)) = true := rfl
theorem funcD_fn {a b : Array TypeId} {v : Bool} : funcD (some (.func a b v)) = true := rfl
theorem aMethod_ptr {t : TypeId} {name : String} {b o : Nat} : aMethod P m t name (.ptr b o) = match mRow P t name with
    | some (f, none) => some (f, .ptr b o)
    | some (f, some (s, ix, ft)) => match aFieldAddr P s ix (.ptr b o) with
      | some q => (aLoad P m ft q).map fun r => (f, r)
      | none => none
    | none => none := rfl
attribute [go_sem] orB_some orB_none cells_mapp cells_lsl cells_ptr avCells_strc avCells_ifc val_ifc val_fn low_ifc low_fn lsV_ifc aNil_eql aNil_neq aNil_eqlF aNil_neqF aAssert_ifc ptrD_ptr funcD_fn aMethod_ptr ifaceD aFillV spliceV aBuildV Option.isSome_some Bool.and_self
attribute [go_sem ↓] stepW_eq putW_some putW_none
attribute [go_sem] List.getElem?_toArray str_beq bne_self_eq_false Bool.and_false Bool.false_and Bool.true_or Bool.false_or
end Go.Vs.Ab
