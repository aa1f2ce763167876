/-
  For every input the statement PrinterReads returns true, and leaves its arguments as they were.
-/
import Derived.Test.YtaeehadibckcjaaDoorPRm1
import Derived.Test.YtaeehadibckcjaaDoorPROpen
import Derived.SizedLaws
import Derived.Test.YtaeehadibckcjaaDoorRows
import Derived.LaidSub
import Derived.MakeChecks
import Derived.Test.YtaeehadibckcjaaDoorPRLaw
import Derived.Test.YtaeehadibckcjaaDoorCards
import Derived.Test.YtaeehadibckcjaaDoorTie
import Derived.ProofKit
import Derived.LaidMore
import Derived.LaidHandle
import Derived.OpenShut
import Derived.Stop.Joined
import Derived.SevenTiedAt
set_option linter.unusedSimpArgs false
set_option linter.unusedVariables false
namespace Go.Proofs.YtaeehadibckcjaaDoor
open Go.RowKit Go.Vs Go.Vs.Ab
set_option maxRecDepth 100000
set_option maxHeartbeats 4000000
/-! ### the plain law -/
structure Pp where
  prin : List ByteArray
  preds : List Prd
  clears : List Clr
  quota : Int
  budget : Int
  rules : List Rul
  grants : List Grt
def canT (L : List Tk) (r : Rs) : Bool := decide (r.e = 0) && (match L[r.i + 1]? with | some t => decide (t.text = kCan) | none => false)
def saysF (L : List Tk) (n : Int) (r : Rs) (p : Pp) : Rs × Pp :=
  let who := nextS L r 0
  let r1 := mustT L n (nextR L n r 0) kSays
  if canT L r1 then
    let h := saidF L n (mustT L n (nextR L n r1 0) kCan) who
    let b := bodyF L n h.1
    (b.1, { p with grants := p.grants ++ [⟨nextS L r1 0, h.2, b.2.isEmpty, b.2⟩] })
  else
    let h := saidF L n r1 who
    let b := bodyF L n h.1
    (b.1, { p with rules := p.rules ++ [⟨h.2, b.2.isEmpty, b.2⟩] })
structure Pst where
  r : Rs
  p : Pp
  wq : Bool
  wb : Bool
abbrev kPrin : ByteArray := ⟨#[112, 114, 105, 110, 99, 105, 112, 97, 108]⟩
abbrev kPred : ByteArray := ⟨#[112, 114, 101, 100]⟩
abbrev kClear : ByteArray := ⟨#[99, 108, 101, 97, 114]⟩
abbrev kQuota : ByteArray := ⟨#[113, 117, 111, 116, 97]⟩
abbrev kBudget : ByteArray := ⟨#[98, 117, 100, 103, 101, 116]⟩
def armF (L : List Tk) (n : Int) (s : Pst) : Pst :=
  if isT L s.r kPrin then { s with r := nextR L n s.r.adv 0, p := { s.p with prin := s.p.prin ++ [nextS L s.r.adv 0] } }
  else if isT L s.r kPred then
    let r2 := mustT L n (nextR L n s.r.adv 1) kSl
    { s with r := nextR L n r2 3, p := { s.p with preds := s.p.preds ++ [⟨nextS L s.r.adv 1, numB (nextS L r2 3)⟩] } }
  else if isT L s.r kClear then
    let c := clearF L n s.r.adv
    { s with r := c.1, p := { s.p with clears := s.p.clears ++ [⟨c.2.1, c.2.2.isEmpty, c.2.2⟩] } }
  else if isT L s.r kQuota then
    let r2 := onceR L n s.r.adv s.wq
    { s with r := nextR L n r2 3, p := { s.p with quota := numB (nextS L r2 3) }, wq := true }
  else if isT L s.r kBudget then
    let r2 := onceR L n s.r.adv s.wb
    { s with r := nextR L n r2 3, p := { s.p with budget := numB (nextS L r2 3) }, wb := true }
  else { s with r := (saysF L n s.r s.p).1, p := (saysF L n s.r s.p).2 }
def stepF (L : List Tk) (n : Int) (s : Pst) : Pst := { armF L n s with r := mustT L n (armF L n s).r kDot }
def polL (L : List Tk) (n : Int) : Nat → Pst → Pst
  | 0, s => s
  | f + 1, s => if s.r.e = 0 ∧ s.r.i < L.length then polL L n f (stepF L n s) else s
def pp0 : Pp := ⟨[], [], [], 0, 0, [], []⟩
def polS (L : List Tk) (n : Int) : Pst := polL L n (L.length + 1) ⟨⟨0, 0, 0⟩, pp0, false, false⟩
def polOf (p : Pp) : Pol := ⟨p.prin.isEmpty, p.prin, p.preds.isEmpty, p.preds, p.clears.isEmpty, p.clears, p.quota, p.budget, p.rules.isEmpty, p.rules, p.grants.isEmpty, p.grants⟩
def pol0 : Pol := polOf pp0
def polParse (s : ByteArray) : Pol × Int × Int :=
  if (toksAll s).2.2 ≠ 0 then (pol0, (toksAll s).2.1, (toksAll s).2.2)
  else if (polS (toksAll s).1 s.size).r.e ≠ 0 then (pol0, (polS (toksAll s).1 s.size).r.at_, (polS (toksAll s).1 s.size).r.e)
  else (polOf (polS (toksAll s).1 s.size).p, 0, 0)
/-! ### a policy that is collected -/
structure Ks where
  k1 : Nat
  k2 : Nat
  k3 : Nat
  k4 : Nat
  k5 : Nat
def polC (p : Pp) (k : Ks) : List AV := [colA stC k.k1 p.prin, colA prC k.k2 p.preds, colA clC k.k3 p.clears, iA p.quota, iA p.budget, colA ruC k.k4 p.rules, colA grC k.k5 p.grants]
attribute [go_sem] polC
abbrev polB (p : Pp) (k : Ks) : Blk := ⟨false, polC p k⟩
structure KsOk (hw : List Hw) (p : Pp) (k : Ks) : Prop where
  h1 : ColIs hw k.k1 9 1 p.prin
  h2 : ColIs hw k.k2 69 2 p.preds
  h3 : ColIs hw k.k3 54 2 p.clears
  h4 : ColIs hw k.k4 45 12 p.rules
  h5 : ColIs hw k.k5 48 13 p.grants
theorem ksOk_low {hw : List Hw} {p : Pp} {k : Ks} (h : KsOk hw p k) (i : Nat) : lows i hw.length (polC p k) = true := by
  simp only [polC, lows, colIs_low h.h1, colIs_low h.h2, colIs_low h.h3, colIs_low h.h4, colIs_low h.h5, low_c, Bool.and_self]
theorem KsOk.prin {hw : List Hw} {p : Pp} {k : Ks} (h : KsOk hw p k) (x : ByteArray) : KsOk (apH hw k.k1 9 1 p.prin) { p with prin := p.prin ++ [x] } { k with k1 := apK hw k.k1 p.prin } :=
  ⟨apH_self x h.h1, apH_other h.h1 h.h2 (by decide), apH_other h.h1 h.h3 (by decide), apH_other h.h1 h.h4 (by decide), apH_other h.h1 h.h5 (by decide)⟩
theorem KsOk.preds {hw : List Hw} {p : Pp} {k : Ks} (h : KsOk hw p k) (x : Prd) : KsOk (apH hw k.k2 69 2 p.preds) { p with preds := p.preds ++ [x] } { k with k2 := apK hw k.k2 p.preds } :=
  ⟨apH_other h.h2 h.h1 (by decide), apH_self x h.h2, apH_other h.h2 h.h3 (by decide), apH_other h.h2 h.h4 (by decide), apH_other h.h2 h.h5 (by decide)⟩
theorem KsOk.clears {hw : List Hw} {p : Pp} {k : Ks} (h : KsOk hw p k) (x : Clr) : KsOk (apH hw k.k3 54 2 p.clears) { p with clears := p.clears ++ [x] } { k with k3 := apK hw k.k3 p.clears } :=
  ⟨apH_other h.h3 h.h1 (by decide), apH_other h.h3 h.h2 (by decide), apH_self x h.h3, apH_other h.h3 h.h4 (by decide), apH_other h.h3 h.h5 (by decide)⟩
theorem KsOk.rules {hw : List Hw} {p : Pp} {k : Ks} (h : KsOk hw p k) (x : Rul) : KsOk (apH hw k.k4 45 12 p.rules) { p with rules := p.rules ++ [x] } { k with k4 := apK hw k.k4 p.rules } :=
  ⟨apH_other h.h4 h.h1 (by decide), apH_other h.h4 h.h2 (by decide), apH_other h.h4 h.h3 (by decide), apH_self x h.h4, apH_other h.h4 h.h5 (by decide)⟩
theorem KsOk.grants {hw : List Hw} {p : Pp} {k : Ks} (h : KsOk hw p k) (x : Grt) : KsOk (apH hw k.k5 48 13 p.grants) { p with grants := p.grants ++ [x] } { k with k5 := apK hw k.k5 p.grants } :=
  ⟨apH_other h.h5 h.h1 (by decide), apH_other h.h5 h.h2 (by decide), apH_other h.h5 h.h3 (by decide), apH_other h.h5 h.h4 (by decide), apH_self x h.h5⟩
theorem info_pr : info3 Tryd.prog 69 = some (2, 24) := by simp only [info3, sz69, by69, ze69]; rfl
theorem info_cl : info3 Tryd.prog 54 = some (2, 40) := by simp only [info3, sz54, by54, ze54]; rfl
theorem info_ru : info3 Tryd.prog 45 = some (12, 160) := by simp only [info3, sz45, by45, ze45]; rfl
theorem info_gr : info3 Tryd.prog 48 = some (13, 176) := by simp only [info3, sz48, by48, ze48]; rfl
theorem ml {n : Nat} (h : n ≤ 10000000) : n + 1 ≤ maxLen := Nat.le_trans (show _ ≤ 10000001 by omega) (by decide)
theorem apGr {hw : List Hw} {k : Nat} {l : List Grt} (tw : ByteArray) (a : Atm) (B : List Atm) (hI : ColIs hw k 48 13 l) (hl : l.length ≤ 10000000) (hp : List Blk) : aAppend Tryd.prog ⟨hp, hw⟩ 27 (colA grC k l) (.c (.sl true 1 [.v (.string tw), .v (.string a.says), .v (.string a.pred), .v (.int .i64 a.n), .v (.bool a.a0.v), .v (.string a.a0.name), .v (.bool a.a1.v), .v (.string a.a1.name), .v (.bool a.a2.v), .v (.string a.a2.name), .v (.bool a.a3.v), .v (.string a.a3.name), .sl B.isEmpty B.length (B.flatMap atC)])) = some (colA grC (apK hw k l) (l ++ [⟨tw, a, B.isEmpty, B⟩]), ⟨hp, apH hw k 48 13 l⟩) :=
  app_gen (P := Tryd.prog) grC (x := ⟨tw, a, B.isEmpty, B⟩) (fun _ => rfl) Tryd.underlying27 info_gr hI (ml hl) (by omega) hp
theorem apRu {hw : List Hw} {k : Nat} {l : List Rul} (a : Atm) (B : List Atm) (hI : ColIs hw k 45 12 l) (hl : l.length ≤ 10000000) (hp : List Blk) : aAppend Tryd.prog ⟨hp, hw⟩ 26 (colA ruC k l) (.c (.sl true 1 [.v (.string a.says), .v (.string a.pred), .v (.int .i64 a.n), .v (.bool a.a0.v), .v (.string a.a0.name), .v (.bool a.a1.v), .v (.string a.a1.name), .v (.bool a.a2.v), .v (.string a.a2.name), .v (.bool a.a3.v), .v (.string a.a3.name), .sl B.isEmpty B.length (B.flatMap atC)])) = some (colA ruC (apK hw k l) (l ++ [⟨a, B.isEmpty, B⟩]), ⟨hp, apH hw k 45 12 l⟩) :=
  app_gen (P := Tryd.prog) ruC (x := ⟨a, B.isEmpty, B⟩) (fun _ => rfl) Tryd.underlying26 info_ru hI (ml hl) (by omega) hp
theorem bldGr (tw : ByteArray) (a : Atm) (B : List Atm) : aBuildSlice Tryd.prog 27 1 [(0, .agg [.v (.string tw), .v (.string a.says), .v (.string a.pred), .v (.int .i64 a.n), .v (.bool a.a0.v), .v (.string a.a0.name), .v (.bool a.a1.v), .v (.string a.a1.name), .v (.bool a.a2.v), .v (.string a.a2.name), .v (.bool a.a3.v), .v (.string a.a3.name), .sl B.isEmpty B.length (B.flatMap atC)])] = some [.v (.string tw), .v (.string a.says), .v (.string a.pred), .v (.int .i64 a.n), .v (.bool a.a0.v), .v (.string a.a0.name), .v (.bool a.a1.v), .v (.string a.a1.name), .v (.bool a.a2.v), .v (.string a.a2.name), .v (.bool a.a3.v), .v (.string a.a3.name), .sl B.isEmpty B.length (B.flatMap atC)] := build1 Tryd.underlying27 sz48 ze48 (by decide) (by decide) (by decide) rfl rfl
theorem bldRu (a : Atm) (B : List Atm) : aBuildSlice Tryd.prog 26 1 [(0, .agg [.v (.string a.says), .v (.string a.pred), .v (.int .i64 a.n), .v (.bool a.a0.v), .v (.string a.a0.name), .v (.bool a.a1.v), .v (.string a.a1.name), .v (.bool a.a2.v), .v (.string a.a2.name), .v (.bool a.a3.v), .v (.string a.a3.name), .sl B.isEmpty B.length (B.flatMap atC)])] = some [.v (.string a.says), .v (.string a.pred), .v (.int .i64 a.n), .v (.bool a.a0.v), .v (.string a.a0.name), .v (.bool a.a1.v), .v (.string a.a1.name), .v (.bool a.a2.v), .v (.string a.a2.name), .v (.bool a.a3.v), .v (.string a.a3.name), .sl B.isEmpty B.length (B.flatMap atC)] := build1 Tryd.underlying26 sz45 ze45 (by decide) (by decide) (by decide) rfl rfl
def otSays : OT := .one 0 (.one 1 (.one 2 (.one 3 (.one 6 (.br 4 (.br 5 (.br 7 (.br 8 (.br 9 (.br 10 (.one 11 (.one 12 (.br 13 (.fin) (.stop)))) (.stop)) (.stop)) (.stop)) (.stop)) (.br 7 (.br 5 (.br 8 (.br 9 (.br 10 (.one 11 (.one 12 (.br 13 (.fin) (.stop)))) (.stop)) (.stop)) (.stop)) (.stop)) (.stop))) (.br 5 (.br 4 (.br 7 (.br 8 (.br 9 (.br 10 (.one 11 (.one 12 (.br 13 (.fin) (.stop)))) (.stop)) (.stop)) (.stop)) (.stop)) (.br 7 (.br 4 (.br 8 (.br 9 (.br 10 (.one 11 (.one 12 (.br 13 (.fin) (.stop)))) (.stop)) (.stop)) (.stop)) (.br 8 (.br 4 (.br 9 (.br 10 (.one 11 (.one 12 (.br 13 (.fin) (.stop)))) (.stop)) (.stop)) (.br 9 (.br 4 (.br 10 (.one 11 (.one 12 (.br 13 (.fin) (.stop)))) (.stop)) (.stop)) (.stop))) (.stop))) (.stop))) (.br 7 (.br 4 (.br 5 (.br 8 (.br 9 (.br 10 (.one 11 (.one 12 (.br 13 (.fin) (.stop)))) (.stop)) (.stop)) (.stop)) (.stop)) (.br 5 (.br 4 (.br 8 (.br 9 (.br 10 (.one 11 (.one 12 (.br 13 (.fin) (.stop)))) (.stop)) (.stop)) (.stop)) (.br 8 (.br 4 (.br 9 (.br 10 (.one 11 (.one 12 (.br 13 (.fin) (.stop)))) (.stop)) (.stop)) (.br 9 (.br 4 (.br 10 (.one 11 (.one 12 (.br 13 (.fin) (.stop)))) (.stop)) (.stop)) (.stop))) (.stop))) (.stop))) (.stop))))))))
/-! ### says -/
variable {hw : List Hw} {ex : Bool} {L : List Tk} {n : Int}
theorem rd3 {F : FuncId} {args : List AV} {r0 : AV} {x y : Blk} (h : ∀ A' : List Blk, 1 < A'.length → GivesW Tryd.prog F args ⟨A'.set 1 x, hw⟩ r0 ⟨A'.set 1 y, hw⟩) (z : Blk) (E : List Blk) : GivesW Tryd.prog F args ⟨z :: x :: E, hw⟩ r0 ⟨z :: y :: E, hw⟩ := h (z :: x :: E) (by simp)
theorem says_raw {z : Blk} {p : Pp} {k : Ks} (hk : KsOk hw p k) (hL : TkOk L) (r : Rs) (hr : r.i ≤ L.length) (hlr : p.rules.length ≤ 10000000) (hlg : p.grants.length ≤ 10000000) : ∃ (y : Blk) (k' : Ks) (hw' : List Hw), KsOk hw' (saysF L n r p).2 k' ∧ hw.length ≤ hw'.length ∧
    GivesW Tryd.prog 35 [.ptr 1 0, .ptr 2 0] ⟨[z, rdB ex L n r, polB p k], hw⟩ (.tup []) ⟨[z, rdB ex L n (saysF L n r p).1, polB (saysF L n r p).2 k', y], hw'⟩ := by
  have hlen := hL.len
  have c1 := rd3 (fun A' hb' => next_gives (A := A') (hw := hw) (ex := ex) (n := n) hb' hL r 0 (by omega)) z [polB p k]
  have c2 := rd3 (fun A' hb' => must_gives (A := A') (hw := hw) (ex := ex) (n := n) hb' hL.len (nextR L n r 0) kSays) z [polB p k]
  have hi1 := next_i (L := L) (n := n) (r := r) (s := 0)
  have hi2 := must_i (L := L) (n := n) (r := nextR L n r 0) (s := kSays)
  unfold saysF
  dsimp only
  generalize nextS L r 0 = who at *
  generalize nextR L n r 0 = r0 at *
  generalize mustT L n r0 kSays = r1 at *
  have ws := wrap_succ (show r1.i ≤ 1000000000 by omega)
  cases hc : canT L r1 with
  | true =>
    rw [if_pos rfl]
    have c3 := rd3 (fun A' hb' => next_gives (A := A') (hw := hw) (ex := ex) (n := n) hb' hL r1 0 (by omega)) z [polB p k]
    have hi3 := next_i (L := L) (n := n) (r := r1) (s := 0)
    have hi4 := must_i (L := L) (n := n) (r := nextR L n r1 0) (s := kCan)
    generalize nextS L r1 0 = tw at *
    generalize nextR L n r1 0 = r2 at *
    have c4 := rd3 (fun A' hb' => must_gives (A := A') (hw := hw) (ex := ex) (n := n) hb' hL.len r2 kCan) z [polB p k, ⟨false, [sA tw, sA ⟨#[]⟩, sA ⟨#[]⟩, iA 0, bA false, sA ⟨#[]⟩, bA false, sA ⟨#[]⟩, bA false, sA ⟨#[]⟩, bA false, sA ⟨#[]⟩, .c (.sl true 0 [])]⟩]
    generalize mustT L n r2 kCan = r3 at *
    have c5 := rd3 (fun A' hb' => said_gives (A := A') (hw := hw) (ex := ex) (n := n) hb' hL r3 who) z [polB p k, ⟨false, [sA tw, sA ⟨#[]⟩, sA ⟨#[]⟩, iA 0, bA false, sA ⟨#[]⟩, bA false, sA ⟨#[]⟩, bA false, sA ⟨#[]⟩, bA false, sA ⟨#[]⟩, .c (.sl true 0 [])]⟩]
    have hi5 := said_i (L := L) (n := n) (r := r3) (s := who)
    generalize saidF L n r3 who = q at *
    obtain ⟨r4, a⟩ := q
    dsimp only at *
    have c6 := rd3 (fun A' hb' => body_gives (A := A') (hw := hw) (ex := ex) (n := n) hb' hL r4 (by omega)) z [polB p k, ⟨false, [sA tw, .c (.v (.string a.says)), .c (.v (.string a.pred)), .c (.v (.int .i64 a.n)), .c (.v (.bool a.a0.v)), .c (.v (.string a.a0.name)), .c (.v (.bool a.a1.v)), .c (.v (.string a.a1.name)), .c (.v (.bool a.a2.v)), .c (.v (.string a.a2.name)), .c (.v (.bool a.a3.v)), .c (.v (.string a.a3.name)), .c (.sl true 0 [])]⟩]
    generalize bodyF L n r4 = q at *
    obtain ⟨r5, B⟩ := q
    dsimp only at *
    have ap := fun hp => apGr tw a B hk.h5 hlg hp
    have b1 := bldGr tw a B
    have pc := plain1_col stC k.k1 p.prin
    have ac := avCells_col grC (apK hw k.k5 p.grants) (p.grants ++ [⟨tw, a, B.isEmpty, B⟩])
    refine ⟨⟨false, [sA tw, .c (.v (.string a.says)), .c (.v (.string a.pred)), .c (.v (.int .i64 a.n)), .c (.v (.bool a.a0.v)), .c (.v (.string a.a0.name)), .c (.v (.bool a.a1.v)), .c (.v (.string a.a1.name)), .c (.v (.bool a.a2.v)), .c (.v (.string a.a2.name)), .c (.v (.bool a.a3.v)), .c (.v (.string a.a3.name)), .c (.sl B.isEmpty B.length (B.flatMap atC))]⟩, { k with k5 := apK hw k.k5 p.grants }, apH hw k.k5 48 13 p.grants, hk.grants _, apH_len _ _ _ _ _, ?_⟩
    refine givesW_of' Tryd.func35 rfl (by kernel_rfl) Tryd.ntmps35 rfl rfl fun Q hQ => ?_
    refine tr_low fun hW => ?_
    have hWk : ∀ x : Rs, lowB 3 hw.length [z, rdB ex L n x, polB p k] = true := fun x => hW
    repeat (first | refine tr_seq_k fun _ _ => ?_ | (refine tr_region ?_; simp only [go_sem, reduceCtorEq, Nat.reduceEqDiff, Nat.reduceLT, Nat.reduceLeDiff, Nat.reduceAdd, Nat.reduceMul, Nat.reduceSub, Nat.reduceBEq, ↓reduceIte]) | (refine call_givesW (c1) ?_; (try dsimp only); (try simp only [go_sem, reduceCtorEq, Nat.reduceEqDiff, Nat.reduceLT, Nat.reduceLeDiff, Nat.reduceAdd, Nat.reduceMul, Nat.reduceSub, Nat.reduceBEq, ↓reduceIte])) | (refine call_givesW (c2) ?_; (try dsimp only); (try simp only [go_sem, reduceCtorEq, Nat.reduceEqDiff, Nat.reduceLT, Nat.reduceLeDiff, Nat.reduceAdd, Nat.reduceMul, Nat.reduceSub, Nat.reduceBEq, ↓reduceIte])) | refine k_of (by assumption) ?_)
    refine tr_meet_k (σ := Unit) (fun _ => [(0, .ptr 1 0), (1, .ptr 2 0), (4, sA who), (43, bA true)]) (fun _ => ⟨[z, rdB ex L n r1, polB p k], hw⟩) (fun _ => True) (fun K hK => ?_) (fun _ _ => ?_)
    · cases d1 : decide (r1.e = 0) with
      | false =>
        unfold canT at hc
        rw [d1] at hc
        cases hc
      | true =>
        by_cases hj : r1.i + 1 < L.length
        · have ix := idxTk (ex := ex) hj
          have hx : canT L r1 = decide (L[r1.i + 1].text = kCan) := by unfold canT; rw [d1, List.getElem?_eq_getElem hj]; rfl
          rw [hc] at hx
          have d2 : decide (((r1.i + 1 : Nat) : Int) < (L.length : Nat)) = true := decide_eq_true (by omega)
          generalize L[r1.i + 1] = t at *
          repeat ((refine tr_drawC (id := 2) follows 10000 (by kernel_rfl) ?_; simp only [go_sem, reduceCtorEq, Nat.reduceEqDiff, Nat.reduceLT, Nat.reduceLeDiff, Nat.reduceAdd, Nat.reduceMul, Nat.reduceSub, Nat.reduceBEq, ↓reduceIte, d1, d2, ix, ws, ← hx]))
          exact hK () _ _ trivial ⟨⟨rfl, rfl, rfl, rfl, trivial⟩, Keep.refl _, rfl, hWk _, Nat.le_refl _, Nat.le_refl _⟩
        · unfold canT at hc
          rw [d1, List.getElem?_eq_none (by omega)] at hc
          cases hc
    refine k_of (by assumption) ?_
    skip
    refine tr_cond rfl (fun ht => ?_) (fun hf => ?_)
    · repeat (first | refine tr_seq_k fun _ _ => ?_ | (refine tr_region ?_; simp only [go_sem, reduceCtorEq, Nat.reduceEqDiff, Nat.reduceLT, Nat.reduceLeDiff, Nat.reduceAdd, Nat.reduceMul, Nat.reduceSub, Nat.reduceBEq, ↓reduceIte, one_max, pc, ap, b1, ac]) | (refine tr_draw (id := 7) follows 10 [6, 7, 10] [0, 1, 2, 3, 4, 5, 6, 7, 8, 9, 10] (by kernel_rfl) ?_; simp only [go_sem, reduceCtorEq, Nat.reduceEqDiff, Nat.reduceLT, Nat.reduceLeDiff, Nat.reduceAdd, Nat.reduceMul, Nat.reduceSub, Nat.reduceBEq, ↓reduceIte, one_max, pc, ap, b1, ac]) | (refine call_givesW (c3) ?_; (try dsimp only); (try simp only [go_sem, reduceCtorEq, Nat.reduceEqDiff, Nat.reduceLT, Nat.reduceLeDiff, Nat.reduceAdd, Nat.reduceMul, Nat.reduceSub, Nat.reduceBEq, ↓reduceIte, one_max, pc, ap, b1, ac])) | (refine call_givesW (c4) ?_; (try dsimp only); (try simp only [go_sem, reduceCtorEq, Nat.reduceEqDiff, Nat.reduceLT, Nat.reduceLeDiff, Nat.reduceAdd, Nat.reduceMul, Nat.reduceSub, Nat.reduceBEq, ↓reduceIte, one_max, pc, ap, b1, ac])) | (refine call_givesW (c5) ?_; (try dsimp only); (try simp only [go_sem, reduceCtorEq, Nat.reduceEqDiff, Nat.reduceLT, Nat.reduceLeDiff, Nat.reduceAdd, Nat.reduceMul, Nat.reduceSub, Nat.reduceBEq, ↓reduceIte, one_max, pc, ap, b1, ac])) | (refine call_givesW (c6) ?_; (try dsimp only); (try simp only [go_sem, reduceCtorEq, Nat.reduceEqDiff, Nat.reduceLT, Nat.reduceLeDiff, Nat.reduceAdd, Nat.reduceMul, Nat.reduceSub, Nat.reduceBEq, ↓reduceIte, one_max, pc, ap, b1, ac])) | refine k_of (by assumption) ?_ | (refine tr_ret ?_; try simp only [ex_seq_ret, ex_block_ret]))
      exact (hQ _ _ [] rfl rfl rfl).2
    · cases hf
  | false =>
    rw [if_neg Bool.false_ne_true]
    have c5 := rd3 (fun A' hb' => said_gives (A := A') (hw := hw) (ex := ex) (n := n) hb' hL r1 who) z [polB p k]
    have hi5 := said_i (L := L) (n := n) (r := r1) (s := who)
    generalize saidF L n r1 who = q at *
    obtain ⟨r4, a⟩ := q
    dsimp only at *
    have c6 := rd3 (fun A' hb' => body_gives (A := A') (hw := hw) (ex := ex) (n := n) hb' hL r4 (by omega)) z [polB p k, ⟨false, ([.c (.v (.string a.says)), .c (.v (.string a.pred)), .c (.v (.int .i64 a.n)), .c (.v (.bool a.a0.v)), .c (.v (.string a.a0.name)), .c (.v (.bool a.a1.v)), .c (.v (.string a.a1.name)), .c (.v (.bool a.a2.v)), .c (.v (.string a.a2.name)), .c (.v (.bool a.a3.v)), .c (.v (.string a.a3.name))] : List AV)⟩]
    generalize bodyF L n r4 = q at *
    obtain ⟨r5, B⟩ := q
    dsimp only at *
    have ap := fun hp => apRu a B hk.h4 hlr hp
    have b1 := bldRu a B
    have pc := plain1_col stC k.k1 p.prin
    have ac := avCells_col ruC (apK hw k.k4 p.rules) (p.rules ++ [⟨a, B.isEmpty, B⟩])
    refine ⟨⟨false, ([.c (.v (.string a.says)), .c (.v (.string a.pred)), .c (.v (.int .i64 a.n)), .c (.v (.bool a.a0.v)), .c (.v (.string a.a0.name)), .c (.v (.bool a.a1.v)), .c (.v (.string a.a1.name)), .c (.v (.bool a.a2.v)), .c (.v (.string a.a2.name)), .c (.v (.bool a.a3.v)), .c (.v (.string a.a3.name))] : List AV)⟩, { k with k4 := apK hw k.k4 p.rules }, apH hw k.k4 45 12 p.rules, hk.rules _, apH_len _ _ _ _ _, ?_⟩
    refine givesW_of' Tryd.func35 rfl (by kernel_rfl) Tryd.ntmps35 rfl rfl fun Q hQ => ?_
    refine tr_low fun hW => ?_
    have hWk : ∀ x : Rs, lowB 3 hw.length [z, rdB ex L n x, polB p k] = true := fun x => hW
    repeat (first | refine tr_seq_k fun _ _ => ?_ | (refine tr_region ?_; simp only [go_sem, reduceCtorEq, Nat.reduceEqDiff, Nat.reduceLT, Nat.reduceLeDiff, Nat.reduceAdd, Nat.reduceMul, Nat.reduceSub, Nat.reduceBEq, ↓reduceIte]) | (refine call_givesW (c1) ?_; (try dsimp only); (try simp only [go_sem, reduceCtorEq, Nat.reduceEqDiff, Nat.reduceLT, Nat.reduceLeDiff, Nat.reduceAdd, Nat.reduceMul, Nat.reduceSub, Nat.reduceBEq, ↓reduceIte])) | (refine call_givesW (c2) ?_; (try dsimp only); (try simp only [go_sem, reduceCtorEq, Nat.reduceEqDiff, Nat.reduceLT, Nat.reduceLeDiff, Nat.reduceAdd, Nat.reduceMul, Nat.reduceSub, Nat.reduceBEq, ↓reduceIte])) | refine k_of (by assumption) ?_)
    refine tr_meet_k (σ := Unit) (fun _ => [(0, .ptr 1 0), (1, .ptr 2 0), (4, sA who), (43, bA false)]) (fun _ => ⟨[z, rdB ex L n r1, polB p k], hw⟩) (fun _ => True) (fun K hK => ?_) (fun _ _ => ?_)
    · cases d1 : decide (r1.e = 0) with
      | false =>
        repeat ((refine tr_drawC (id := 2) follows 10000 (by kernel_rfl) ?_; simp only [go_sem, reduceCtorEq, Nat.reduceEqDiff, Nat.reduceLT, Nat.reduceLeDiff, Nat.reduceAdd, Nat.reduceMul, Nat.reduceSub, Nat.reduceBEq, ↓reduceIte, d1]))
        exact hK () _ _ trivial ⟨⟨rfl, rfl, rfl, rfl, trivial⟩, Keep.refl _, rfl, hWk _, Nat.le_refl _, Nat.le_refl _⟩
      | true =>
        by_cases hj : r1.i + 1 < L.length
        · have ix := idxTk (ex := ex) hj
          have hx : canT L r1 = decide (L[r1.i + 1].text = kCan) := by unfold canT; rw [d1, List.getElem?_eq_getElem hj]; rfl
          rw [hc] at hx
          have d2 : decide (((r1.i + 1 : Nat) : Int) < (L.length : Nat)) = true := decide_eq_true (by omega)
          generalize L[r1.i + 1] = t at *
          repeat ((refine tr_drawC (id := 2) follows 10000 (by kernel_rfl) ?_; simp only [go_sem, reduceCtorEq, Nat.reduceEqDiff, Nat.reduceLT, Nat.reduceLeDiff, Nat.reduceAdd, Nat.reduceMul, Nat.reduceSub, Nat.reduceBEq, ↓reduceIte, d1, d2, ix, ws, ← hx]))
          exact hK () _ _ trivial ⟨⟨rfl, rfl, rfl, rfl, trivial⟩, Keep.refl _, rfl, hWk _, Nat.le_refl _, Nat.le_refl _⟩
        · have d2 : decide (((r1.i + 1 : Nat) : Int) < (L.length : Nat)) = false := decide_eq_false (by omega)
          repeat ((refine tr_drawC (id := 2) follows 10000 (by kernel_rfl) ?_; simp only [go_sem, reduceCtorEq, Nat.reduceEqDiff, Nat.reduceLT, Nat.reduceLeDiff, Nat.reduceAdd, Nat.reduceMul, Nat.reduceSub, Nat.reduceBEq, ↓reduceIte, d1, d2, ws]))
          exact hK () _ _ trivial ⟨⟨rfl, rfl, rfl, rfl, trivial⟩, Keep.refl _, rfl, hWk _, Nat.le_refl _, Nat.le_refl _⟩
    refine k_of (by assumption) ?_
    skip
    refine tr_cond rfl (fun ht => ?_) (fun hf => ?_)
    · cases ht
    · repeat (first | refine tr_seq_k fun _ _ => ?_ | (refine tr_region ?_; simp only [go_sem, reduceCtorEq, Nat.reduceEqDiff, Nat.reduceLT, Nat.reduceLeDiff, Nat.reduceAdd, Nat.reduceMul, Nat.reduceSub, Nat.reduceBEq, ↓reduceIte]) | (refine call_givesW (c5) ?_; (try dsimp only); (try simp only [go_sem, reduceCtorEq, Nat.reduceEqDiff, Nat.reduceLT, Nat.reduceLeDiff, Nat.reduceAdd, Nat.reduceMul, Nat.reduceSub, Nat.reduceBEq, ↓reduceIte])) | refine k_of (by assumption) ?_ | (refine tr_skip ?_; try simp only [ex_seq, ex_block]))
      refine tr_drawX (id := 9) follows otSays (by kernel_rfl) [] ⟨[z, rdB ex L n r5, polB { p with rules := p.rules ++ [⟨a, B.isEmpty, B⟩] } { k with k4 := apK hw k.k4 p.rules }, ⟨false, ([.c (.v (.string a.says)), .c (.v (.string a.pred)), .c (.v (.int .i64 a.n)), .c (.v (.bool a.a0.v)), .c (.v (.string a.a0.name)), .c (.v (.bool a.a1.v)), .c (.v (.string a.a1.name)), .c (.v (.bool a.a2.v)), .c (.v (.string a.a2.name)), .c (.v (.bool a.a3.v)), .c (.v (.string a.a3.name))] : List AV)⟩], apH hw k.k4 45 12 p.rules⟩ ?_ ?_
      · unfold otSays
        simp only [go_sem, reduceCtorEq, Nat.reduceEqDiff, Nat.reduceLT, Nat.reduceLeDiff, Nat.reduceAdd, Nat.reduceMul, Nat.reduceSub, Nat.reduceBEq, ↓reduceIte, one_max, pc, ap, b1, ac]
        repeat' (first | (refine call_givesW (c6) ?_; (try dsimp only); (try simp only [go_sem, reduceCtorEq, Nat.reduceEqDiff, Nat.reduceLT, Nat.reduceLeDiff, Nat.reduceAdd, Nat.reduceMul, Nat.reduceSub, Nat.reduceBEq, ↓reduceIte, one_max, pc, ap, b1, ac])) | refine And.intro ?_ ?_ | rfl)
      · exact (hQ _ _ [] rfl rfl rfl).1
end Go.Proofs.YtaeehadibckcjaaDoor
namespace Go.Proofs.YtaeehadibckcjaaDoor
open Go.RowKit Go.Vs Go.Vs.Ab
set_option maxRecDepth 100000
set_option maxHeartbeats 4000000
variable {hw : List Hw} {ex : Bool} {L : List Tk} {n : Int}
theorem says_gives {z : Blk} {p : Pp} {k : Ks} (hk : KsOk hw p k) (hL : TkOk L) (r : Rs) (hr : r.i ≤ L.length) (hlr : p.rules.length ≤ 10000000) (hlg : p.grants.length ≤ 10000000) : ∃ (k' : Ks) (hw' : List Hw), KsOk hw' (saysF L n r p).2 k' ∧ hw.length ≤ hw'.length ∧
    GivesW Tryd.prog 35 [.ptr 1 0, .ptr 2 0] ⟨[z, rdB ex L n r, polB p k], hw⟩ (.tup []) ⟨[z, rdB ex L n (saysF L n r p).1, polB (saysF L n r p).2 k'], hw'⟩ := by
  obtain ⟨y, k', hw', h1, h2, h3⟩ := says_raw (z := z) (ex := ex) (n := n) hk hL r hr hlr hlg
  refine ⟨k', hw', h1, h2, h3.trim ⟨⟨[y], rfl⟩, ⟨[], (List.append_nil _).symm⟩⟩ (fun hl => ?_) (Nat.le_refl _) h2 cut_nil⟩
  simp only [lowB, Bool.and_eq_true] at hl ⊢
  exact ⟨lows_up (Nat.le_refl _) h2 hl.1, rfl, ksOk_low h1 _, trivial⟩
theorem must_ok {L : List Tk} {n : Int} {r : Rs} {s : ByteArray} (h : (mustT L n r s).e = 0) : isT L r s = true ∧ (mustT L n r s).i = r.i + 1 := by
  unfold mustT at *
  split at h
  · rename_i hc
    rw [if_pos hc]
    exact ⟨hc, rfl⟩
  · exfalso
    unfold Rs.fail at h
    split at h
    · cases h
    · rename_i hne
      exact hne h
theorem once_i {L : List Tk} {n : Int} {r : Rs} {b : Bool} : (onceR L n r b).i = r.i := by
  unfold onceR
  split
  · exact fail_i _ _ _ _ _
  · rfl
theorem says_i {L : List Tk} {n : Int} {r : Rs} {p : Pp} : r.i ≤ (saysF L n r p).1.i ∧ (r.i ≤ L.length → (saysF L n r p).1.i ≤ L.length) := by
  obtain ⟨h1, h2⟩ := next_i (L := L) (n := n) (r := r) (s := 0)
  obtain ⟨h3, h4⟩ := must_i (L := L) (n := n) (r := nextR L n r 0) (s := kSays)
  unfold saysF
  dsimp only
  split
  · obtain ⟨h5, h6⟩ := next_i (L := L) (n := n) (r := mustT L n (nextR L n r 0) kSays) (s := 0)
    obtain ⟨h7, h8⟩ := must_i (L := L) (n := n) (r := nextR L n (mustT L n (nextR L n r 0) kSays) 0) (s := kCan)
    obtain ⟨h9, h10⟩ := said_i (L := L) (n := n) (r := mustT L n (nextR L n (mustT L n (nextR L n r 0) kSays) 0) kCan) (s := nextS L r 0)
    obtain ⟨h11, h12⟩ := body_i (L := L) (n := n) (r := (saidF L n (mustT L n (nextR L n (mustT L n (nextR L n r 0) kSays) 0) kCan) (nextS L r 0)).1)
    dsimp only
    exact ⟨by omega, fun h => h12 (h10 (h8 (h6 (h4 (h2 h)))))⟩
  · obtain ⟨h9, h10⟩ := said_i (L := L) (n := n) (r := mustT L n (nextR L n r 0) kSays) (s := nextS L r 0)
    obtain ⟨h11, h12⟩ := body_i (L := L) (n := n) (r := (saidF L n (mustT L n (nextR L n r 0) kSays) (nextS L r 0)).1)
    dsimp only
    exact ⟨by omega, fun h => h12 (h10 (h4 (h2 h)))⟩
theorem says_len {L : List Tk} {n : Int} {r : Rs} {p : Pp} : (saysF L n r p).2.prin = p.prin ∧ (saysF L n r p).2.preds = p.preds ∧ (saysF L n r p).2.clears = p.clears ∧ (saysF L n r p).2.rules.length ≤ p.rules.length + 1 ∧ (saysF L n r p).2.grants.length ≤ p.grants.length + 1 := by
  unfold saysF
  dsimp only
  split
  · exact ⟨rfl, rfl, rfl, Nat.le_succ _, by simp⟩
  · exact ⟨rfl, rfl, rfl, by simp, Nat.le_succ _⟩
theorem polL_succ (L : List Tk) (n : Int) (f : Nat) (s : Pst) : polL L n (f + 1) s = if s.r.e = 0 ∧ s.r.i < L.length then polL L n f (stepF L n s) else s := rfl
theorem polL_end (L : List Tk) (n : Int) (f : Nat) (s : Pst) (h : ¬ (s.r.e = 0 ∧ s.r.i < L.length)) : polL L n f s = s := by
  cases f with
  | zero => rfl
  | succ f => rw [polL_succ, if_neg h]
theorem toks_text (s : ByteArray) : ∀ (f i : Nat) (out : List Tk), (∀ t ∈ out, t.text.size ≤ 1000000) → ∀ t ∈ (toksF s f i out).1, t.text.size ≤ 1000000
  | 0, i, out, h => h
  | f + 1, i, out, h => by
    rw [toksF_succ]
    split
    · rename_i hi
      split
      · exact h
      · rename_i he
        refine toks_text s f _ _ fun t ht => ?_
        rw [List.mem_append, List.mem_singleton] at ht
        rcases ht with ht | rfl
        · exact h t ht
        · have := tokAt_size hi (by simpa using he)
          omega
    · exact h
theorem tkOk_all (s : ByteArray) : TkOk (toksAll s).1 := by
  have h1 := toks_len s
  have h2 : ∀ t ∈ (toks s).1, t.text.size ≤ 1000000 := by
    unfold toks
    split
    · intro t ht; cases ht
    · exact toks_text s _ _ _ (fun t ht => by cases ht)
  unfold toksAll
  split
  · exact ⟨Nat.zero_le _, fun t ht => by cases ht⟩
  · exact ⟨by dsimp only; omega, h2⟩
theorem apS1 {hw : List Hw} {k : Nat} {l : List ByteArray} (x : ByteArray) (hI : ColIs hw k 9 1 l) (hl : l.length ≤ 10000000) (hp : List Blk) : aAppend Tryd.prog ⟨hp, hw⟩ 23 (colA stC k l) (.c (.sl true 1 [.v (.string x)])) = some (colA stC (apK hw k l) (l ++ [x]), ⟨hp, apH hw k 9 1 l⟩) :=
  app_gen (P := Tryd.prog) stC (x := x) (fun _ => rfl) Tryd.underlying23 info_s hI (ml hl) (by omega) hp
theorem apPd {hw : List Hw} {k : Nat} {l : List Prd} (x : ByteArray) (m : Int) (hI : ColIs hw k 69 2 l) (hl : l.length ≤ 10000000) (hp : List Blk) : aAppend Tryd.prog ⟨hp, hw⟩ 24 (colA prC k l) (.c (.sl true 1 [.v (.string x), .v (.int .i64 m)])) = some (colA prC (apK hw k l) (l ++ [⟨x, m⟩]), ⟨hp, apH hw k 69 2 l⟩) :=
  app_gen (P := Tryd.prog) prC (x := ⟨x, m⟩) (fun _ => rfl) Tryd.underlying24 info_pr hI (ml hl) (by omega) hp
theorem apCl {hw : List Hw} {k : Nat} {l : List Clr} (x : ByteArray) (B : List ByteArray) (hI : ColIs hw k 54 2 l) (hl : l.length ≤ 10000000) (hp : List Blk) : aAppend Tryd.prog ⟨hp, hw⟩ 25 (colA clC k l) (.c (.sl true 1 [.v (.string x), .sl B.isEmpty B.length (B.flatMap stC)])) = some (colA clC (apK hw k l) (l ++ [⟨x, B.isEmpty, B⟩]), ⟨hp, apH hw k 54 2 l⟩) :=
  app_gen (P := Tryd.prog) clC (x := ⟨x, B.isEmpty, B⟩) (fun _ => rfl) Tryd.underlying25 info_cl hI (ml hl) (by omega) hp
theorem bldPd (x : ByteArray) (m : Int) : aBuildSlice Tryd.prog 24 1 [(0, .agg [.v (.string x), .v (.int .i64 m)])] = some [.v (.string x), .v (.int .i64 m)] := build1 Tryd.underlying24 sz69 ze69 (by decide) (by decide) (by decide) rfl rfl
theorem bldCl (x : ByteArray) (B : List ByteArray) : aBuildSlice Tryd.prog 25 1 [(0, .agg [.v (.string x), .sl B.isEmpty B.length (B.flatMap stC)])] = some [.v (.string x), .sl B.isEmpty B.length (B.flatMap stC)] := build1 Tryd.underlying25 sz54 ze54 (by decide) (by decide) (by decide) rfl rfl
def otP1 : OT := .one 0 (.one 2 (.br 1 (.br 3 (.br 4 (.br 5 (.one 6 (.br 7 (.fin) (.stop))) (.stop)) (.stop)) (.stop)) (.br 3 (.br 1 (.br 4 (.br 5 (.one 6 (.br 7 (.fin) (.stop))) (.stop)) (.stop)) (.br 4 (.br 1 (.br 5 (.one 6 (.br 7 (.fin) (.stop))) (.stop)) (.stop)) (.stop))) (.stop))))
def otP3 : OT := .one 0 (.one 2 (.br 1 (.br 3 (.br 4 (.br 5 (.one 6 (.br 7 (.fin) (.stop))) (.stop)) (.stop)) (.stop)) (.br 3 (.br 1 (.br 4 (.br 5 (.one 6 (.br 7 (.fin) (.stop))) (.stop)) (.stop)) (.br 4 (.br 1 (.br 5 (.one 6 (.br 7 (.fin) (.stop))) (.stop)) (.stop)) (.stop))) (.stop))))
def otP9 : OT := .one 1 (.one 2 (.one 3 (.one 5 (.one 6 (.one 7 (.br 0 (.br 4 (.br 8 (.br 9 (.one 10 (.one 11 (.fin))) (.stop)) (.br 9 (.one 10 (.br 8 (.one 11 (.fin)) (.stop))) (.stop))) (.br 8 (.br 4 (.br 9 (.one 10 (.one 11 (.fin))) (.stop)) (.br 9 (.br 4 (.one 10 (.one 11 (.fin))) (.stop)) (.stop))) (.br 9 (.br 4 (.one 10 (.br 8 (.one 11 (.fin)) (.stop))) (.br 8 (.br 4 (.one 10 (.one 11 (.fin))) (.stop)) (.stop))) (.stop)))) (.br 4 (.br 0 (.br 8 (.br 9 (.one 10 (.one 11 (.fin))) (.stop)) (.br 9 (.one 10 (.br 8 (.one 11 (.fin)) (.stop))) (.stop))) (.br 8 (.br 0 (.br 9 (.one 10 (.one 11 (.fin))) (.stop)) (.stop)) (.stop))) (.br 8 (.br 0 (.br 4 (.br 9 (.one 10 (.one 11 (.fin))) (.stop)) (.br 9 (.br 4 (.one 10 (.one 11 (.fin))) (.stop)) (.stop))) (.br 4 (.br 0 (.br 9 (.one 10 (.one 11 (.fin))) (.stop)) (.stop)) (.stop))) (.stop)))))))))
theorem parsePol_does (s : ByteArray) (hz : s.size ≤ 1000000000) : Does Tryd.prog 9 [sA s] (fun m => (.tup [poA (polParse s).1, iA (polParse s).2.1, iA (polParse s).2.2], m)) := by
  have cA := allK_does s
  have hL := tkOk_all s
  obtain ⟨P, hP⟩ : ∃ P, P = polParse s := ⟨_, rfl⟩
  rw [← hP]
  unfold polParse at hP
  generalize toksAll s = q at *
  obtain ⟨L, pos, e⟩ := q
  dsimp only at *
  cases d0 : decide (e = 0) with
  | false =>
    rw [if_pos (of_decide_eq_false d0)] at hP
    rw [hP]
    refine does_of' Tryd.func9 rfl (by kernel_rfl) rfl Tryd.ntmps9 rfl rfl fun Q hQ => ?_
    repeat (first | refine tr_seq_k fun _ _ => ?_ | (refine tr_region ?_; simp only [go_sem, reduceCtorEq, Nat.reduceEqDiff, Nat.reduceLT, Nat.reduceLeDiff, Nat.reduceAdd, Nat.reduceMul, Nat.reduceSub, Nat.reduceBEq, ↓reduceIte, d0]) | (refine call_of (cA) ?_ ?_; (first | rfl | simp only [go_sem, reduceCtorEq, Nat.reduceEqDiff, Nat.reduceLT, Nat.reduceLeDiff, Nat.reduceAdd, Nat.reduceMul, Nat.reduceSub, Nat.reduceBEq, ↓reduceIte, d0, shut_col]); simp only [go_sem, reduceCtorEq, Nat.reduceEqDiff, Nat.reduceLT, Nat.reduceLeDiff, Nat.reduceAdd, Nat.reduceMul, Nat.reduceSub, Nat.reduceBEq, ↓reduceIte, d0]) | refine k_of (by assumption) ?_)
    refine tr_cond rfl (fun ht => ?_) (fun hf => ?_)
    · repeat (first | refine tr_seq_k fun _ _ => ?_ | (refine tr_region ?_; simp only [go_sem, reduceCtorEq, Nat.reduceEqDiff, Nat.reduceLT, Nat.reduceLeDiff, Nat.reduceAdd, Nat.reduceMul, Nat.reduceSub, Nat.reduceBEq, ↓reduceIte]) | refine k_of (by assumption) ?_ | (refine tr_ret ?_; try simp only [ex_seq_ret, ex_block_ret]))
      refine (hQ _ _ [.agg [.sl true 0 [], .sl true 0 [], .sl true 0 [], .v (.int .i64 0), .v (.int .i64 0), .sl true 0 [], .sl true 0 []], iA pos, iA e] ?_ (fun m => rfl)).2 <;> simp only [go_sem, reduceCtorEq, Nat.reduceEqDiff, Nat.reduceLT, Nat.reduceLeDiff, Nat.reduceAdd, Nat.reduceMul, Nat.reduceSub, Nat.reduceBEq, ↓reduceIte, Tryd.f9]
    · cases hf
  | true =>
    have he0 := of_decide_eq_true d0
    rw [if_neg (by rw [he0]; exact fun h => h rfl)] at hP
    obtain ⟨T, hT⟩ : ∃ T, T = polS L s.size := ⟨_, rfl⟩
    rw [← hT] at hP
    unfold polS at hT
    obtain ⟨n, hn⟩ : ∃ n : Int, n = s.size := ⟨_, rfl⟩
    obtain ⟨ex, hex⟩ : ∃ ex, ex = L.isEmpty := ⟨_, rfl⟩
    rw [← hn] at hT
    rw [← hex] at cA
    have hlen := hL.len
    refine does_of' Tryd.func9 rfl (by kernel_rfl) rfl Tryd.ntmps9 rfl rfl fun Q hQ => ?_
    repeat (first | refine tr_seq_k fun _ _ => ?_ | (refine tr_region ?_; simp only [go_sem, reduceCtorEq, Nat.reduceEqDiff, Nat.reduceLT, Nat.reduceLeDiff, Nat.reduceAdd, Nat.reduceMul, Nat.reduceSub, Nat.reduceBEq, ↓reduceIte, d0, ← hn]) | (refine call_of (cA) ?_ ?_; (first | rfl | simp only [go_sem, reduceCtorEq, Nat.reduceEqDiff, Nat.reduceLT, Nat.reduceLeDiff, Nat.reduceAdd, Nat.reduceMul, Nat.reduceSub, Nat.reduceBEq, ↓reduceIte, d0, ← hn, shut_col]); simp only [go_sem, reduceCtorEq, Nat.reduceEqDiff, Nat.reduceLT, Nat.reduceLeDiff, Nat.reduceAdd, Nat.reduceMul, Nat.reduceSub, Nat.reduceBEq, ↓reduceIte, d0, ← hn]) | refine k_of (by assumption) ?_)
    refine tr_cond rfl (fun ht => ?_) (fun hf => ?_)
    · cases ht
    repeat (first | refine tr_seq_k fun _ _ => ?_ | (refine tr_region ?_; simp only [go_sem, reduceCtorEq, Nat.reduceEqDiff, Nat.reduceLT, Nat.reduceLeDiff, Nat.reduceAdd, Nat.reduceMul, Nat.reduceSub, Nat.reduceBEq, ↓reduceIte, ← hn]) | refine k_of (by assumption) ?_ | refine tr_block ?_ | (refine tr_skip ?_; try simp only [ex_seq, ex_block]))
    refine tr_loop_k (σ := Nat × Pst × Ks × List Hw) (fun q => [(2, .ptr 0 0), (5, .c (.sl ex L.length (L.flatMap tkC))), (8, .ptr 1 0), (9, .ptr 2 0), (10, bA q.2.1.wq), (11, bA q.2.1.wb)]) (fun q => ⟨[⟨false, [.c (.sl true 0 []), .c (.sl true 0 []), .c (.sl true 0 []), iA 0, iA 0, .c (.sl true 0 []), .c (.sl true 0 [])]⟩, rdB ex L n q.2.1.r, polB q.2.1.p q.2.2.1], q.2.2.2⟩)
      (fun q => polL L n q.1 q.2.1 = T ∧ (q.2.1.r.e = 0 → L.length < q.1 + q.2.1.r.i) ∧ q.2.1.r.i ≤ L.length ∧ KsOk q.2.2.2 q.2.1.p q.2.2.1 ∧ q.2.1.p.prin.length + q.1 ≤ L.length + 1 ∧ q.2.1.p.preds.length + q.1 ≤ L.length + 1 ∧ q.2.1.p.clears.length + q.1 ≤ L.length + 1 ∧ q.2.1.p.rules.length + q.1 ≤ L.length + 1 ∧ q.2.1.p.grants.length + q.1 ≤ L.length + 1) (fun q => q.1) (L.length + 1, ⟨⟨0, 0, 0⟩, pp0, false, false⟩, ⟨0, 0, 0, 0, 0⟩, [])
      ⟨hT.symm, fun _ => by dsimp only; omega, Nat.zero_le _, ⟨colIs_nil _ _ _ _, colIs_nil _ _ _ _, colIs_nil _ _ _ _, colIs_nil _ _ _ _, colIs_nil _ _ _ _⟩, by simp [pp0], by simp [pp0], by simp [pp0], by simp [pp0], by simp [pp0]⟩ ⟨rfl, rfl, rfl, rfl, rfl, rfl, trivial⟩ rfl ?_
    rintro ⟨f, ⟨r, p, wq, wb⟩, k, hw⟩ ⟨hS, hfi, hi, hk, b1, b2, b3, b4, b5⟩ K hK
    dsimp only at hS hfi hi hk b1 b2 b3 b4 b5 ⊢
    have e1 := clean_col stC k.k1 p.prin
    have e2 := clean_col prC k.k2 p.preds
    have e3 := clean_col clC k.k3 p.clears
    have e4 := clean_col ruC k.k4 p.rules
    have e5 := clean_col grC k.k5 p.grants
    cases d1 : decide (r.e = 0) with
    | false =>
      rw [polL_end _ _ _ _ (fun h => of_decide_eq_false d1 h.1)] at hS
      obtain rfl := hS
      dsimp only at hP
      repeat (first | refine tr_seq_k fun _ _ => ?_ | (refine tr_region ?_; simp only [go_sem, reduceCtorEq, Nat.reduceEqDiff, Nat.reduceLT, Nat.reduceLeDiff, Nat.reduceAdd, Nat.reduceMul, Nat.reduceSub, Nat.reduceBEq, ↓reduceIte, d1]) | refine k_of (by assumption) ?_)
      refine tr_cond rfl (fun ht => ?_) (fun hf => ?_)
      · cases ht
      · rw [if_pos (of_decide_eq_false d1)] at hP
        rw [hP] at hQ
        repeat (first | refine tr_seq_k fun _ _ => ?_ | (refine tr_region ?_; simp only [go_sem, reduceCtorEq, Nat.reduceEqDiff, Nat.reduceLT, Nat.reduceLeDiff, Nat.reduceAdd, Nat.reduceMul, Nat.reduceSub, Nat.reduceBEq, ↓reduceIte, d1]) | refine k_of (by assumption) ?_ | (refine tr_exit ?_; try simp only [ex_seq_exit, ex_block_exit, Nat.reduceEqDiff, if_true, if_false, ex_seq, ex_block, reduceCtorEq, ↓reduceIte]))
        refine tr_cond rfl (fun ht => ?_) (fun hf => ?_)
        · repeat (refine tr_seq_k fun _ _ => ?_)
          refine tr_drawX (id := 26) follows otP9 (by kernel_rfl) [(2, .ptr 0 0), (3, iA r.at_), (4, iA r.e)] ⟨[⟨false, [.c (.sl true 0 []), .c (.sl true 0 []), .c (.sl true 0 []), iA 0, iA 0, .c (.sl true 0 []), .c (.sl true 0 [])]⟩, rdB ex L n r, polB p k], hw⟩ ?_ ?_
          · unfold otP9
            simp only [go_sem, reduceCtorEq, Nat.reduceEqDiff, Nat.reduceLT, Nat.reduceLeDiff, Nat.reduceAdd, Nat.reduceMul, Nat.reduceSub, Nat.reduceBEq, ↓reduceIte]
            skip
          · repeat (first | refine k_of (by assumption) ?_ | (refine tr_ret ?_; try simp only [ex_seq_ret, ex_block_ret]))
            refine (hQ _ _ [.agg [.sl true 0 [], .sl true 0 [], .sl true 0 [], .v (.int .i64 0), .v (.int .i64 0), .sl true 0 [], .sl true 0 []], iA r.at_, iA r.e] ?_ (fun m => rfl)).2 <;> simp only [go_sem, reduceCtorEq, Nat.reduceEqDiff, Nat.reduceLT, Nat.reduceLeDiff, Nat.reduceAdd, Nat.reduceMul, Nat.reduceSub, Nat.reduceBEq, ↓reduceIte, Tryd.f9]
        · cases hf
    | true =>
      by_cases hil : r.i < L.length
      rotate_left
      · rw [polL_end _ _ _ _ (fun h => hil h.2)] at hS
        obtain rfl := hS
        dsimp only at hP
        have d2 : decide ((r.i : Int) < (L.length : Nat)) = false := decide_eq_false (by omega)
        repeat (first | refine tr_seq_k fun _ _ => ?_ | (refine tr_region ?_; simp only [go_sem, reduceCtorEq, Nat.reduceEqDiff, Nat.reduceLT, Nat.reduceLeDiff, Nat.reduceAdd, Nat.reduceMul, Nat.reduceSub, Nat.reduceBEq, ↓reduceIte, d1, d2]) | refine k_of (by assumption) ?_)
        refine tr_cond rfl (fun ht => ?_) (fun hf => ?_)
        · cases ht
        · rw [if_neg (fun h => h (of_decide_eq_true d1))] at hP
          rw [hP] at hQ
          repeat (first | refine tr_seq_k fun _ _ => ?_ | (refine tr_region ?_; simp only [go_sem, reduceCtorEq, Nat.reduceEqDiff, Nat.reduceLT, Nat.reduceLeDiff, Nat.reduceAdd, Nat.reduceMul, Nat.reduceSub, Nat.reduceBEq, ↓reduceIte, d1]) | refine k_of (by assumption) ?_ | (refine tr_exit ?_; try simp only [ex_seq_exit, ex_block_exit, Nat.reduceEqDiff, if_true, if_false, ex_seq, ex_block, reduceCtorEq, ↓reduceIte]))
          refine tr_cond rfl (fun ht => ?_) (fun hf => ?_)
          · cases ht
          · repeat (first | refine tr_seq_k fun _ _ => ?_ | (refine tr_region ?_; simp only [go_sem, reduceCtorEq, Nat.reduceEqDiff, Nat.reduceLT, Nat.reduceLeDiff, Nat.reduceAdd, Nat.reduceMul, Nat.reduceSub, Nat.reduceBEq, ↓reduceIte, e1, e2, e3, e4, e5]) | refine k_of (by assumption) ?_ | (refine tr_skip ?_; try simp only [ex_seq, ex_block]) | (refine tr_ret ?_; try simp only [ex_seq_ret, ex_block_ret]))
            refine (hQ _ _ [.agg [.sl p.prin.isEmpty p.prin.length (p.prin.flatMap stC), .sl p.preds.isEmpty p.preds.length (p.preds.flatMap prC), .sl p.clears.isEmpty p.clears.length (p.clears.flatMap clC), .v (.int .i64 p.quota), .v (.int .i64 p.budget), .sl p.rules.isEmpty p.rules.length (p.rules.flatMap ruC), .sl p.grants.isEmpty p.grants.length (p.grants.flatMap grC)], iA 0, iA 0] ?_ (fun m => rfl)).2 <;> simp only [go_sem, reduceCtorEq, Nat.reduceEqDiff, Nat.reduceLT, Nat.reduceLeDiff, Nat.reduceAdd, Nat.reduceMul, Nat.reduceSub, Nat.reduceBEq, ↓reduceIte, Tryd.f9]
      have d2 : decide ((r.i : Int) < (L.length : Nat)) = true := decide_eq_true (by omega)
      have hfi := hfi (of_decide_eq_true d1)
      obtain ⟨f, rfl⟩ : ∃ f', f = f' + 1 := ⟨f - 1, by omega⟩
      rw [polL_succ, if_pos ⟨of_decide_eq_true d1, hil⟩] at hS
      have cm0 := rd3 (fun A' hb' => maybe_gives (A := A') (hw := hw) (ex := ex) (n := n) hb' hL.len r kPrin) ⟨false, [.c (.sl true 0 []), .c (.sl true 0 []), .c (.sl true 0 []), iA 0, iA 0, .c (.sl true 0 []), .c (.sl true 0 [])]⟩ [polB p k]
      have cm1 := rd3 (fun A' hb' => maybe_gives (A := A') (hw := hw) (ex := ex) (n := n) hb' hL.len r kPred) ⟨false, [.c (.sl true 0 []), .c (.sl true 0 []), .c (.sl true 0 []), iA 0, iA 0, .c (.sl true 0 []), .c (.sl true 0 [])]⟩ [polB p k]
      have cm2 := rd3 (fun A' hb' => maybe_gives (A := A') (hw := hw) (ex := ex) (n := n) hb' hL.len r kClear) ⟨false, [.c (.sl true 0 []), .c (.sl true 0 []), .c (.sl true 0 []), iA 0, iA 0, .c (.sl true 0 []), .c (.sl true 0 [])]⟩ [polB p k]
      have cm3 := rd3 (fun A' hb' => maybe_gives (A := A') (hw := hw) (ex := ex) (n := n) hb' hL.len r kQuota) ⟨false, [.c (.sl true 0 []), .c (.sl true 0 []), .c (.sl true 0 []), iA 0, iA 0, .c (.sl true 0 []), .c (.sl true 0 [])]⟩ [polB p k]
      have cm4 := rd3 (fun A' hb' => maybe_gives (A := A') (hw := hw) (ex := ex) (n := n) hb' hL.len r kBudget) ⟨false, [.c (.sl true 0 []), .c (.sl true 0 []), .c (.sl true 0 []), iA 0, iA 0, .c (.sl true 0 []), .c (.sl true 0 [])]⟩ [polB p k]
      unfold maybeR at cm0 cm1 cm2 cm3 cm4
      repeat (first | refine tr_seq_k fun _ _ => ?_ | (refine tr_region ?_; simp only [go_sem, reduceCtorEq, Nat.reduceEqDiff, Nat.reduceLT, Nat.reduceLeDiff, Nat.reduceAdd, Nat.reduceMul, Nat.reduceSub, Nat.reduceBEq, ↓reduceIte, d1, d2]) | refine k_of (by assumption) ?_)
      refine tr_cond rfl (fun ht => ?_) (fun hf => ?_)
      rotate_left
      · cases hf
      cases h1 : isT L r kPrin with
      | true =>
        have hlt := (isT_lt h1).2
        rw [h1, if_pos rfl] at cm0
        have cN := rd3 (fun A' hb' => next_gives (A := A') (hw := hw) (ex := ex) (n := n) hb' hL r.adv 0 (by omega)) ⟨false, [.c (.sl true 0 []), .c (.sl true 0 []), .c (.sl true 0 []), iA 0, iA 0, .c (.sl true 0 []), .c (.sl true 0 [])]⟩ [polB p k]
        have hni := next_i (L := L) (n := n) (r := r.adv) (s := 0)
        have hadv : r.adv.i = r.i + 1 := rfl
        have hst : stepF L n ⟨r, p, wq, wb⟩ = ⟨mustT L n (nextR L n r.adv 0) kDot, { p with prin := p.prin ++ [nextS L r.adv 0] }, wq, wb⟩ := by
          unfold stepF armF
          dsimp only
          simp only [h1, if_true, if_false, Bool.false_eq_true]
        rw [hst] at hS
        generalize nextS L r.adv 0 = x at *
        generalize nextR L n r.adv 0 = r2 at *
        have ap := fun hp => apS1 x hk.h1 (by omega) hp
        have bx := build1T x
        have cD := rd3 (fun A' hb' => must_gives (A := A') (hw := (apH hw k.k1 9 1 p.prin)) (ex := ex) (n := n) hb' hL.len r2 kDot) ⟨false, [.c (.sl true 0 []), .c (.sl true 0 []), .c (.sl true 0 []), iA 0, iA 0, .c (.sl true 0 []), .c (.sl true 0 [])]⟩ [polB { p with prin := p.prin ++ [x] } { k with k1 := apK hw k.k1 p.prin }]
        repeat (first | refine tr_seq_k fun _ _ => ?_ | (refine tr_region ?_; simp only [go_sem, reduceCtorEq, Nat.reduceEqDiff, Nat.reduceLT, Nat.reduceLeDiff, Nat.reduceAdd, Nat.reduceMul, Nat.reduceSub, Nat.reduceBEq, ↓reduceIte]) | (refine call_givesW (cm0) ?_; (try dsimp only); (try simp only [go_sem, reduceCtorEq, Nat.reduceEqDiff, Nat.reduceLT, Nat.reduceLeDiff, Nat.reduceAdd, Nat.reduceMul, Nat.reduceSub, Nat.reduceBEq, ↓reduceIte])) | refine k_of (by assumption) ?_ | refine tr_block ?_ | (refine tr_skip ?_; try simp only [ex_seq, ex_block]))
        refine tr_cond rfl (fun ht => ?_) (fun hf => ?_)
        rotate_left
        · cases hf
        skip
        refine tr_drawX (id := 10) follows otP1 (by kernel_rfl) [(2, .ptr 0 0), (5, .c (.sl ex L.length (L.flatMap tkC))), (8, .ptr 1 0), (9, .ptr 2 0), (10, bA wq), (11, bA wb)] ⟨[⟨false, [.c (.sl true 0 []), .c (.sl true 0 []), .c (.sl true 0 []), iA 0, iA 0, .c (.sl true 0 []), .c (.sl true 0 [])]⟩, rdB ex L n r2, polB { p with prin := p.prin ++ [x] } { k with k1 := apK hw k.k1 p.prin }], (apH hw k.k1 9 1 p.prin)⟩ ?_ ?_
        · unfold otP1
          simp only [go_sem, reduceCtorEq, Nat.reduceEqDiff, Nat.reduceLT, Nat.reduceLeDiff, Nat.reduceAdd, Nat.reduceMul, Nat.reduceSub, Nat.reduceBEq, ↓reduceIte, one_max, ap, bx, avCells_col]
          repeat' (first | (refine call_givesW (cN) ?_; (try dsimp only); (try simp only [go_sem, reduceCtorEq, Nat.reduceEqDiff, Nat.reduceLT, Nat.reduceLeDiff, Nat.reduceAdd, Nat.reduceMul, Nat.reduceSub, Nat.reduceBEq, ↓reduceIte, one_max, ap, bx, avCells_col])) | refine And.intro ?_ ?_ | rfl)
        · repeat (first | (refine tr_region ?_; simp only [go_sem, reduceCtorEq, Nat.reduceEqDiff, Nat.reduceLT, Nat.reduceLeDiff, Nat.reduceAdd, Nat.reduceMul, Nat.reduceSub, Nat.reduceBEq, ↓reduceIte]) | (refine call_givesW (cD) ?_; (try dsimp only); (try simp only [go_sem, reduceCtorEq, Nat.reduceEqDiff, Nat.reduceLT, Nat.reduceLeDiff, Nat.reduceAdd, Nat.reduceMul, Nat.reduceSub, Nat.reduceBEq, ↓reduceIte])) | refine k_of (by assumption) ?_)
          have hmi := must_i (L := L) (n := n) (r := r2) (s := kDot)
          exact hK (f, ⟨mustT L n r2 kDot, { p with prin := p.prin ++ [x] }, wq, wb⟩, { k with k1 := apK hw k.k1 p.prin }, (apH hw k.k1 9 1 p.prin)) _ _ ⟨hS, fun h => (by have := (must_ok h).2; dsimp only at this ⊢; rw [this]; omega), by dsimp only; omega, hk.prin x, by simp only [List.length_append, List.length_cons, List.length_nil]; omega, by dsimp only; omega, by dsimp only; omega, by dsimp only; omega, by dsimp only; omega⟩ ⟨⟨rfl, rfl, rfl, rfl, rfl, rfl, trivial⟩, Keep.refl _, rfl, by simp only [lowB, Bool.and_eq_true]; exact ⟨rfl, rfl, ksOk_low (hk.prin x) _, trivial⟩, Nat.le_refl _, Nat.zero_le _⟩ (by dsimp only; omega)
      | false =>
        rw [h1, if_neg Bool.false_ne_true] at cm0
        cases h2 : isT L r kPred with
        | true =>
          have hlt := (isT_lt h2).2
          rw [h2, if_pos rfl] at cm1
          have cN := rd3 (fun A' hb' => next_gives (A := A') (hw := hw) (ex := ex) (n := n) hb' hL r.adv 1 (by omega)) ⟨false, [.c (.sl true 0 []), .c (.sl true 0 []), .c (.sl true 0 []), iA 0, iA 0, .c (.sl true 0 []), .c (.sl true 0 [])]⟩ [polB p k]
          have hni := next_i (L := L) (n := n) (r := r.adv) (s := 1)
          have hadv : r.adv.i = r.i + 1 := rfl
          have hmi2 := must_i (L := L) (n := n) (r := nextR L n r.adv 1) (s := kSl)
          have hni2 := next_i (L := L) (n := n) (r := mustT L n (nextR L n r.adv 1) kSl) (s := 3)
          have hst : stepF L n ⟨r, p, wq, wb⟩ = ⟨mustT L n (nextR L n (mustT L n (nextR L n r.adv 1) kSl) 3) kDot, { p with preds := p.preds ++ [⟨nextS L r.adv 1, numB (nextS L (mustT L n (nextR L n r.adv 1) kSl) 3)⟩] }, wq, wb⟩ := by
            unfold stepF armF
            dsimp only
            simp only [h1, h2, if_true, if_false, Bool.false_eq_true]
          rw [hst] at hS
          generalize nextS L r.adv 1 = x at *
          generalize nextR L n r.adv 1 = r2 at *
          have cS := rd3 (fun A' hb' => must_gives (A := A') (hw := hw) (ex := ex) (n := n) hb' hL.len r2 kSl) ⟨false, [.c (.sl true 0 []), .c (.sl true 0 []), .c (.sl true 0 []), iA 0, iA 0, .c (.sl true 0 []), .c (.sl true 0 [])]⟩ [polB p k, ⟨false, [sA x, iA 0]⟩]
          generalize mustT L n r2 kSl = r3 at *
          have cU := rd3 (fun A' hb' => number_gives (A := A') (hw := hw) (ex := ex) (n := n) hb' hL r3) ⟨false, [.c (.sl true 0 []), .c (.sl true 0 []), .c (.sl true 0 []), iA 0, iA 0, .c (.sl true 0 []), .c (.sl true 0 [])]⟩ [polB p k, ⟨false, [sA x, iA 0]⟩]
          generalize numB (nextS L r3 3) = u at *
          generalize nextR L n r3 3 = r4 at *
          have ap := fun hp => apPd x u hk.h2 (by omega) hp
          have bx := bldPd x u
          have cD := rd3 (fun A' hb' => must_gives (A := A') (hw := (apH hw k.k2 69 2 p.preds)) (ex := ex) (n := n) hb' hL.len r4 kDot) ⟨false, [.c (.sl true 0 []), .c (.sl true 0 []), .c (.sl true 0 []), iA 0, iA 0, .c (.sl true 0 []), .c (.sl true 0 [])]⟩ [polB { p with preds := p.preds ++ [⟨x, u⟩] } { k with k2 := apK hw k.k2 p.preds }, ⟨false, [sA x, iA u]⟩]
          repeat (first | refine tr_seq_k fun _ _ => ?_ | (refine tr_region ?_; simp only [go_sem, reduceCtorEq, Nat.reduceEqDiff, Nat.reduceLT, Nat.reduceLeDiff, Nat.reduceAdd, Nat.reduceMul, Nat.reduceSub, Nat.reduceBEq, ↓reduceIte]) | (refine call_givesW (cm0) ?_; (try dsimp only); (try simp only [go_sem, reduceCtorEq, Nat.reduceEqDiff, Nat.reduceLT, Nat.reduceLeDiff, Nat.reduceAdd, Nat.reduceMul, Nat.reduceSub, Nat.reduceBEq, ↓reduceIte])) | refine k_of (by assumption) ?_ | refine tr_block ?_ | (refine tr_skip ?_; try simp only [ex_seq, ex_block]))
          refine tr_cond rfl (fun ht => ?_) (fun hf => ?_)
          · cases ht
          repeat (first | refine tr_seq_k fun _ _ => ?_ | (refine tr_region ?_; simp only [go_sem, reduceCtorEq, Nat.reduceEqDiff, Nat.reduceLT, Nat.reduceLeDiff, Nat.reduceAdd, Nat.reduceMul, Nat.reduceSub, Nat.reduceBEq, ↓reduceIte]) | (refine call_givesW (cm1) ?_; (try dsimp only); (try simp only [go_sem, reduceCtorEq, Nat.reduceEqDiff, Nat.reduceLT, Nat.reduceLeDiff, Nat.reduceAdd, Nat.reduceMul, Nat.reduceSub, Nat.reduceBEq, ↓reduceIte])) | refine k_of (by assumption) ?_)
          refine tr_cond rfl (fun ht => ?_) (fun hf => ?_)
          rotate_left
          · cases hf
          repeat (first | refine tr_seq_k fun _ _ => ?_ | (refine tr_region ?_; simp only [go_sem, reduceCtorEq, Nat.reduceEqDiff, Nat.reduceLT, Nat.reduceLeDiff, Nat.reduceAdd, Nat.reduceMul, Nat.reduceSub, Nat.reduceBEq, ↓reduceIte, one_max, ap, bx, avCells_col]) | (refine call_givesW (cN) ?_; (try dsimp only); (try simp only [go_sem, reduceCtorEq, Nat.reduceEqDiff, Nat.reduceLT, Nat.reduceLeDiff, Nat.reduceAdd, Nat.reduceMul, Nat.reduceSub, Nat.reduceBEq, ↓reduceIte, one_max, ap, bx, avCells_col])) | (refine call_givesW (cS) ?_; (try dsimp only); (try simp only [go_sem, reduceCtorEq, Nat.reduceEqDiff, Nat.reduceLT, Nat.reduceLeDiff, Nat.reduceAdd, Nat.reduceMul, Nat.reduceSub, Nat.reduceBEq, ↓reduceIte, one_max, ap, bx, avCells_col])) | (refine call_givesW (cU) ?_; (try dsimp only); (try simp only [go_sem, reduceCtorEq, Nat.reduceEqDiff, Nat.reduceLT, Nat.reduceLeDiff, Nat.reduceAdd, Nat.reduceMul, Nat.reduceSub, Nat.reduceBEq, ↓reduceIte, one_max, ap, bx, avCells_col])) | (refine call_givesW (cD) ?_; (try dsimp only); (try simp only [go_sem, reduceCtorEq, Nat.reduceEqDiff, Nat.reduceLT, Nat.reduceLeDiff, Nat.reduceAdd, Nat.reduceMul, Nat.reduceSub, Nat.reduceBEq, ↓reduceIte, one_max, ap, bx, avCells_col])) | refine k_of (by assumption) ?_)
          have hmi := must_i (L := L) (n := n) (r := r4) (s := kDot)
          exact hK (f, ⟨mustT L n r4 kDot, { p with preds := p.preds ++ [⟨x, u⟩] }, wq, wb⟩, { k with k2 := apK hw k.k2 p.preds }, (apH hw k.k2 69 2 p.preds)) _ _ ⟨hS, fun h => (by have := (must_ok h).2; dsimp only at this ⊢; rw [this]; omega), by dsimp only; omega, hk.preds ⟨x, u⟩, by dsimp only; omega, by simp only [List.length_append, List.length_cons, List.length_nil]; omega, by dsimp only; omega, by dsimp only; omega, by dsimp only; omega⟩ ⟨⟨rfl, rfl, rfl, rfl, rfl, rfl, trivial⟩, Keep.of (eh := [_]) (ew := []) rfl (List.append_nil _).symm, rfl, by simp only [lowB, Bool.and_eq_true]; exact ⟨rfl, rfl, ksOk_low (hk.preds ⟨x, u⟩) _, trivial⟩, Nat.le_refl _, Nat.zero_le _⟩ (by dsimp only; omega)
        | false =>
          rw [h2, if_neg Bool.false_ne_true] at cm1
          cases h3 : isT L r kClear with
          | true =>
            have hlt := (isT_lt h3).2
            rw [h3, if_pos rfl] at cm2
            have cN := rd3 (fun A' hb' => clear_gives (A := A') (hw := hw) (ex := ex) (n := n) hb' hL r.adv hlt) ⟨false, [.c (.sl true 0 []), .c (.sl true 0 []), .c (.sl true 0 []), iA 0, iA 0, .c (.sl true 0 []), .c (.sl true 0 [])]⟩ [polB p k]
            have hni := clear_i (L := L) (n := n) (r := r.adv)
            have hadv : r.adv.i = r.i + 1 := rfl
            have hst : stepF L n ⟨r, p, wq, wb⟩ = ⟨mustT L n (clearF L n r.adv).1 kDot, { p with clears := p.clears ++ [⟨(clearF L n r.adv).2.1, (clearF L n r.adv).2.2.isEmpty, (clearF L n r.adv).2.2⟩] }, wq, wb⟩ := by
              unfold stepF armF
              dsimp only
              simp only [h1, h2, h3, if_true, if_false, Bool.false_eq_true]
            rw [hst] at hS
            generalize clearF L n r.adv = q at *
            obtain ⟨r2, x, B⟩ := q
            dsimp only at *
            have ap := fun hp => apCl x B hk.h3 (by omega) hp
            have bx := bldCl x B
            have cD := rd3 (fun A' hb' => must_gives (A := A') (hw := (apH hw k.k3 54 2 p.clears)) (ex := ex) (n := n) hb' hL.len r2 kDot) ⟨false, [.c (.sl true 0 []), .c (.sl true 0 []), .c (.sl true 0 []), iA 0, iA 0, .c (.sl true 0 []), .c (.sl true 0 [])]⟩ [polB { p with clears := p.clears ++ [⟨x, B.isEmpty, B⟩] } { k with k3 := apK hw k.k3 p.clears }]
            repeat (first | refine tr_seq_k fun _ _ => ?_ | (refine tr_region ?_; simp only [go_sem, reduceCtorEq, Nat.reduceEqDiff, Nat.reduceLT, Nat.reduceLeDiff, Nat.reduceAdd, Nat.reduceMul, Nat.reduceSub, Nat.reduceBEq, ↓reduceIte]) | (refine call_givesW (cm0) ?_; (try dsimp only); (try simp only [go_sem, reduceCtorEq, Nat.reduceEqDiff, Nat.reduceLT, Nat.reduceLeDiff, Nat.reduceAdd, Nat.reduceMul, Nat.reduceSub, Nat.reduceBEq, ↓reduceIte])) | refine k_of (by assumption) ?_ | refine tr_block ?_ | (refine tr_skip ?_; try simp only [ex_seq, ex_block]))
            refine tr_cond rfl (fun ht => ?_) (fun hf => ?_)
            · cases ht
            repeat (first | refine tr_seq_k fun _ _ => ?_ | (refine tr_region ?_; simp only [go_sem, reduceCtorEq, Nat.reduceEqDiff, Nat.reduceLT, Nat.reduceLeDiff, Nat.reduceAdd, Nat.reduceMul, Nat.reduceSub, Nat.reduceBEq, ↓reduceIte]) | (refine call_givesW (cm1) ?_; (try dsimp only); (try simp only [go_sem, reduceCtorEq, Nat.reduceEqDiff, Nat.reduceLT, Nat.reduceLeDiff, Nat.reduceAdd, Nat.reduceMul, Nat.reduceSub, Nat.reduceBEq, ↓reduceIte])) | refine k_of (by assumption) ?_)
            refine tr_cond rfl (fun ht => ?_) (fun hf => ?_)
            · cases ht
            repeat (first | refine tr_seq_k fun _ _ => ?_ | (refine tr_region ?_; simp only [go_sem, reduceCtorEq, Nat.reduceEqDiff, Nat.reduceLT, Nat.reduceLeDiff, Nat.reduceAdd, Nat.reduceMul, Nat.reduceSub, Nat.reduceBEq, ↓reduceIte]) | (refine call_givesW (cm2) ?_; (try dsimp only); (try simp only [go_sem, reduceCtorEq, Nat.reduceEqDiff, Nat.reduceLT, Nat.reduceLeDiff, Nat.reduceAdd, Nat.reduceMul, Nat.reduceSub, Nat.reduceBEq, ↓reduceIte])) | refine k_of (by assumption) ?_)
            refine tr_cond rfl (fun ht => ?_) (fun hf => ?_)
            rotate_left
            · cases hf
            skip
            refine tr_drawX (id := 17) follows otP3 (by kernel_rfl) [(2, .ptr 0 0), (5, .c (.sl ex L.length (L.flatMap tkC))), (8, .ptr 1 0), (9, .ptr 2 0), (10, bA wq), (11, bA wb)] ⟨[⟨false, [.c (.sl true 0 []), .c (.sl true 0 []), .c (.sl true 0 []), iA 0, iA 0, .c (.sl true 0 []), .c (.sl true 0 [])]⟩, rdB ex L n r2, polB { p with clears := p.clears ++ [⟨x, B.isEmpty, B⟩] } { k with k3 := apK hw k.k3 p.clears }], (apH hw k.k3 54 2 p.clears)⟩ ?_ ?_
            · unfold otP3
              simp only [go_sem, reduceCtorEq, Nat.reduceEqDiff, Nat.reduceLT, Nat.reduceLeDiff, Nat.reduceAdd, Nat.reduceMul, Nat.reduceSub, Nat.reduceBEq, ↓reduceIte, one_max, ap, bx, avCells_col]
              repeat' (first | (refine call_givesW (cN) ?_; (try dsimp only); (try simp only [go_sem, reduceCtorEq, Nat.reduceEqDiff, Nat.reduceLT, Nat.reduceLeDiff, Nat.reduceAdd, Nat.reduceMul, Nat.reduceSub, Nat.reduceBEq, ↓reduceIte, one_max, ap, bx, avCells_col])) | refine And.intro ?_ ?_ | rfl)
            · repeat (first | (refine tr_region ?_; simp only [go_sem, reduceCtorEq, Nat.reduceEqDiff, Nat.reduceLT, Nat.reduceLeDiff, Nat.reduceAdd, Nat.reduceMul, Nat.reduceSub, Nat.reduceBEq, ↓reduceIte]) | (refine call_givesW (cD) ?_; (try dsimp only); (try simp only [go_sem, reduceCtorEq, Nat.reduceEqDiff, Nat.reduceLT, Nat.reduceLeDiff, Nat.reduceAdd, Nat.reduceMul, Nat.reduceSub, Nat.reduceBEq, ↓reduceIte])) | refine k_of (by assumption) ?_)
              have hmi := must_i (L := L) (n := n) (r := r2) (s := kDot)
              exact hK (f, ⟨mustT L n r2 kDot, { p with clears := p.clears ++ [⟨x, B.isEmpty, B⟩] }, wq, wb⟩, { k with k3 := apK hw k.k3 p.clears }, (apH hw k.k3 54 2 p.clears)) _ _ ⟨hS, fun h => (by have := (must_ok h).2; dsimp only at this ⊢; rw [this]; omega), by dsimp only; omega, hk.clears ⟨x, B.isEmpty, B⟩, by dsimp only; omega, by dsimp only; omega, by simp only [List.length_append, List.length_cons, List.length_nil]; omega, by dsimp only; omega, by dsimp only; omega⟩ ⟨⟨rfl, rfl, rfl, rfl, rfl, rfl, trivial⟩, Keep.refl _, rfl, by simp only [lowB, Bool.and_eq_true]; exact ⟨rfl, rfl, ksOk_low (hk.clears ⟨x, B.isEmpty, B⟩) _, trivial⟩, Nat.le_refl _, Nat.zero_le _⟩ (by dsimp only; omega)
          | false =>
            rw [h3, if_neg Bool.false_ne_true] at cm2
            cases h4 : isT L r kQuota with
            | true =>
              have hlt := (isT_lt h4).2
              rw [h4, if_pos rfl] at cm3
              have cN := rd3 (fun A' hb' => once_gives (A := A') (hw := hw) (ex := ex) (n := n) hb' hL r.adv wq (Nat.le_add_left _ _) hlt) ⟨false, [.c (.sl true 0 []), .c (.sl true 0 []), .c (.sl true 0 []), iA 0, iA 0, .c (.sl true 0 []), .c (.sl true 0 [])]⟩ [polB p k]
              have hni := once_i (L := L) (n := n) (r := r.adv) (b := wq)
              have hadv : r.adv.i = r.i + 1 := rfl
              have hni2 := next_i (L := L) (n := n) (r := onceR L n r.adv wq) (s := 3)
              have hst : stepF L n ⟨r, p, wq, wb⟩ = ⟨mustT L n (nextR L n (onceR L n r.adv wq) 3) kDot, { p with quota := numB (nextS L (onceR L n r.adv wq) 3) }, true, wb⟩ := by
                unfold stepF armF
                dsimp only
                simp only [h1, h2, h3, h4, if_true, if_false, Bool.false_eq_true]
              rw [hst] at hS
              generalize onceR L n r.adv wq = r2 at *
              have cU := rd3 (fun A' hb' => number_gives (A := A') (hw := hw) (ex := ex) (n := n) hb' hL r2) ⟨false, [.c (.sl true 0 []), .c (.sl true 0 []), .c (.sl true 0 []), iA 0, iA 0, .c (.sl true 0 []), .c (.sl true 0 [])]⟩ [polB p k]
              generalize numB (nextS L r2 3) = u at *
              generalize nextR L n r2 3 = r3 at *
              have cD := rd3 (fun A' hb' => must_gives (A := A') (hw := hw) (ex := ex) (n := n) hb' hL.len r3 kDot) ⟨false, [.c (.sl true 0 []), .c (.sl true 0 []), .c (.sl true 0 []), iA 0, iA 0, .c (.sl true 0 []), .c (.sl true 0 [])]⟩ [polB { p with quota := u } k]
              repeat (first | refine tr_seq_k fun _ _ => ?_ | (refine tr_region ?_; simp only [go_sem, reduceCtorEq, Nat.reduceEqDiff, Nat.reduceLT, Nat.reduceLeDiff, Nat.reduceAdd, Nat.reduceMul, Nat.reduceSub, Nat.reduceBEq, ↓reduceIte]) | (refine call_givesW (cm0) ?_; (try dsimp only); (try simp only [go_sem, reduceCtorEq, Nat.reduceEqDiff, Nat.reduceLT, Nat.reduceLeDiff, Nat.reduceAdd, Nat.reduceMul, Nat.reduceSub, Nat.reduceBEq, ↓reduceIte])) | refine k_of (by assumption) ?_ | refine tr_block ?_ | (refine tr_skip ?_; try simp only [ex_seq, ex_block]))
              refine tr_cond rfl (fun ht => ?_) (fun hf => ?_)
              · cases ht
              repeat (first | refine tr_seq_k fun _ _ => ?_ | (refine tr_region ?_; simp only [go_sem, reduceCtorEq, Nat.reduceEqDiff, Nat.reduceLT, Nat.reduceLeDiff, Nat.reduceAdd, Nat.reduceMul, Nat.reduceSub, Nat.reduceBEq, ↓reduceIte]) | (refine call_givesW (cm1) ?_; (try dsimp only); (try simp only [go_sem, reduceCtorEq, Nat.reduceEqDiff, Nat.reduceLT, Nat.reduceLeDiff, Nat.reduceAdd, Nat.reduceMul, Nat.reduceSub, Nat.reduceBEq, ↓reduceIte])) | refine k_of (by assumption) ?_)
              refine tr_cond rfl (fun ht => ?_) (fun hf => ?_)
              · cases ht
              repeat (first | refine tr_seq_k fun _ _ => ?_ | (refine tr_region ?_; simp only [go_sem, reduceCtorEq, Nat.reduceEqDiff, Nat.reduceLT, Nat.reduceLeDiff, Nat.reduceAdd, Nat.reduceMul, Nat.reduceSub, Nat.reduceBEq, ↓reduceIte]) | (refine call_givesW (cm2) ?_; (try dsimp only); (try simp only [go_sem, reduceCtorEq, Nat.reduceEqDiff, Nat.reduceLT, Nat.reduceLeDiff, Nat.reduceAdd, Nat.reduceMul, Nat.reduceSub, Nat.reduceBEq, ↓reduceIte])) | refine k_of (by assumption) ?_)
              refine tr_cond rfl (fun ht => ?_) (fun hf => ?_)
              · cases ht
              repeat (first | refine tr_seq_k fun _ _ => ?_ | (refine tr_region ?_; simp only [go_sem, reduceCtorEq, Nat.reduceEqDiff, Nat.reduceLT, Nat.reduceLeDiff, Nat.reduceAdd, Nat.reduceMul, Nat.reduceSub, Nat.reduceBEq, ↓reduceIte]) | (refine call_givesW (cm3) ?_; (try dsimp only); (try simp only [go_sem, reduceCtorEq, Nat.reduceEqDiff, Nat.reduceLT, Nat.reduceLeDiff, Nat.reduceAdd, Nat.reduceMul, Nat.reduceSub, Nat.reduceBEq, ↓reduceIte])) | refine k_of (by assumption) ?_)
              refine tr_cond rfl (fun ht => ?_) (fun hf => ?_)
              rotate_left
              · cases hf
              repeat (first | refine tr_seq_k fun _ _ => ?_ | (refine tr_region ?_; simp only [go_sem, reduceCtorEq, Nat.reduceEqDiff, Nat.reduceLT, Nat.reduceLeDiff, Nat.reduceAdd, Nat.reduceMul, Nat.reduceSub, Nat.reduceBEq, ↓reduceIte]) | (refine call_givesW (cN) ?_; (try dsimp only); (try simp only [go_sem, reduceCtorEq, Nat.reduceEqDiff, Nat.reduceLT, Nat.reduceLeDiff, Nat.reduceAdd, Nat.reduceMul, Nat.reduceSub, Nat.reduceBEq, ↓reduceIte])) | (refine call_givesW (cU) ?_; (try dsimp only); (try simp only [go_sem, reduceCtorEq, Nat.reduceEqDiff, Nat.reduceLT, Nat.reduceLeDiff, Nat.reduceAdd, Nat.reduceMul, Nat.reduceSub, Nat.reduceBEq, ↓reduceIte])) | (refine call_givesW (cD) ?_; (try dsimp only); (try simp only [go_sem, reduceCtorEq, Nat.reduceEqDiff, Nat.reduceLT, Nat.reduceLeDiff, Nat.reduceAdd, Nat.reduceMul, Nat.reduceSub, Nat.reduceBEq, ↓reduceIte])) | refine k_of (by assumption) ?_)
              have hmi := must_i (L := L) (n := n) (r := r3) (s := kDot)
              exact hK (f, ⟨mustT L n r3 kDot, { p with quota := u }, true, wb⟩, k, hw) _ _ ⟨hS, fun h => (by have := (must_ok h).2; dsimp only at this ⊢; rw [this]; omega), by dsimp only; omega, ⟨hk.h1, hk.h2, hk.h3, hk.h4, hk.h5⟩, by dsimp only; omega, by dsimp only; omega, by dsimp only; omega, by dsimp only; omega, by dsimp only; omega⟩ ⟨⟨rfl, rfl, rfl, rfl, rfl, rfl, trivial⟩, Keep.refl _, rfl, by simp only [lowB, Bool.and_eq_true]; exact ⟨rfl, rfl, ksOk_low (⟨hk.h1, hk.h2, hk.h3, hk.h4, hk.h5⟩) _, trivial⟩, Nat.le_refl _, Nat.zero_le _⟩ (by dsimp only; omega)
            | false =>
              rw [h4, if_neg Bool.false_ne_true] at cm3
              cases h5 : isT L r kBudget with
              | true =>
                have hlt := (isT_lt h5).2
                rw [h5, if_pos rfl] at cm4
                have cN := rd3 (fun A' hb' => once_gives (A := A') (hw := hw) (ex := ex) (n := n) hb' hL r.adv wb (Nat.le_add_left _ _) hlt) ⟨false, [.c (.sl true 0 []), .c (.sl true 0 []), .c (.sl true 0 []), iA 0, iA 0, .c (.sl true 0 []), .c (.sl true 0 [])]⟩ [polB p k]
                have hni := once_i (L := L) (n := n) (r := r.adv) (b := wb)
                have hadv : r.adv.i = r.i + 1 := rfl
                have hni2 := next_i (L := L) (n := n) (r := onceR L n r.adv wb) (s := 3)
                have hst : stepF L n ⟨r, p, wq, wb⟩ = ⟨mustT L n (nextR L n (onceR L n r.adv wb) 3) kDot, { p with budget := numB (nextS L (onceR L n r.adv wb) 3) }, wq, true⟩ := by
                  unfold stepF armF
                  dsimp only
                  simp only [h1, h2, h3, h4, h5, if_true, if_false, Bool.false_eq_true]
                rw [hst] at hS
                generalize onceR L n r.adv wb = r2 at *
                have cU := rd3 (fun A' hb' => number_gives (A := A') (hw := hw) (ex := ex) (n := n) hb' hL r2) ⟨false, [.c (.sl true 0 []), .c (.sl true 0 []), .c (.sl true 0 []), iA 0, iA 0, .c (.sl true 0 []), .c (.sl true 0 [])]⟩ [polB p k]
                generalize numB (nextS L r2 3) = u at *
                generalize nextR L n r2 3 = r3 at *
                have cD := rd3 (fun A' hb' => must_gives (A := A') (hw := hw) (ex := ex) (n := n) hb' hL.len r3 kDot) ⟨false, [.c (.sl true 0 []), .c (.sl true 0 []), .c (.sl true 0 []), iA 0, iA 0, .c (.sl true 0 []), .c (.sl true 0 [])]⟩ [polB { p with budget := u } k]
                repeat (first | refine tr_seq_k fun _ _ => ?_ | (refine tr_region ?_; simp only [go_sem, reduceCtorEq, Nat.reduceEqDiff, Nat.reduceLT, Nat.reduceLeDiff, Nat.reduceAdd, Nat.reduceMul, Nat.reduceSub, Nat.reduceBEq, ↓reduceIte]) | (refine call_givesW (cm0) ?_; (try dsimp only); (try simp only [go_sem, reduceCtorEq, Nat.reduceEqDiff, Nat.reduceLT, Nat.reduceLeDiff, Nat.reduceAdd, Nat.reduceMul, Nat.reduceSub, Nat.reduceBEq, ↓reduceIte])) | refine k_of (by assumption) ?_ | refine tr_block ?_ | (refine tr_skip ?_; try simp only [ex_seq, ex_block]))
                refine tr_cond rfl (fun ht => ?_) (fun hf => ?_)
                · cases ht
                repeat (first | refine tr_seq_k fun _ _ => ?_ | (refine tr_region ?_; simp only [go_sem, reduceCtorEq, Nat.reduceEqDiff, Nat.reduceLT, Nat.reduceLeDiff, Nat.reduceAdd, Nat.reduceMul, Nat.reduceSub, Nat.reduceBEq, ↓reduceIte]) | (refine call_givesW (cm1) ?_; (try dsimp only); (try simp only [go_sem, reduceCtorEq, Nat.reduceEqDiff, Nat.reduceLT, Nat.reduceLeDiff, Nat.reduceAdd, Nat.reduceMul, Nat.reduceSub, Nat.reduceBEq, ↓reduceIte])) | refine k_of (by assumption) ?_)
                refine tr_cond rfl (fun ht => ?_) (fun hf => ?_)
                · cases ht
                repeat (first | refine tr_seq_k fun _ _ => ?_ | (refine tr_region ?_; simp only [go_sem, reduceCtorEq, Nat.reduceEqDiff, Nat.reduceLT, Nat.reduceLeDiff, Nat.reduceAdd, Nat.reduceMul, Nat.reduceSub, Nat.reduceBEq, ↓reduceIte]) | (refine call_givesW (cm2) ?_; (try dsimp only); (try simp only [go_sem, reduceCtorEq, Nat.reduceEqDiff, Nat.reduceLT, Nat.reduceLeDiff, Nat.reduceAdd, Nat.reduceMul, Nat.reduceSub, Nat.reduceBEq, ↓reduceIte])) | refine k_of (by assumption) ?_)
                refine tr_cond rfl (fun ht => ?_) (fun hf => ?_)
                · cases ht
                repeat (first | refine tr_seq_k fun _ _ => ?_ | (refine tr_region ?_; simp only [go_sem, reduceCtorEq, Nat.reduceEqDiff, Nat.reduceLT, Nat.reduceLeDiff, Nat.reduceAdd, Nat.reduceMul, Nat.reduceSub, Nat.reduceBEq, ↓reduceIte]) | (refine call_givesW (cm3) ?_; (try dsimp only); (try simp only [go_sem, reduceCtorEq, Nat.reduceEqDiff, Nat.reduceLT, Nat.reduceLeDiff, Nat.reduceAdd, Nat.reduceMul, Nat.reduceSub, Nat.reduceBEq, ↓reduceIte])) | refine k_of (by assumption) ?_)
                refine tr_cond rfl (fun ht => ?_) (fun hf => ?_)
                · cases ht
                repeat (first | refine tr_seq_k fun _ _ => ?_ | (refine tr_region ?_; simp only [go_sem, reduceCtorEq, Nat.reduceEqDiff, Nat.reduceLT, Nat.reduceLeDiff, Nat.reduceAdd, Nat.reduceMul, Nat.reduceSub, Nat.reduceBEq, ↓reduceIte]) | (refine call_givesW (cm4) ?_; (try dsimp only); (try simp only [go_sem, reduceCtorEq, Nat.reduceEqDiff, Nat.reduceLT, Nat.reduceLeDiff, Nat.reduceAdd, Nat.reduceMul, Nat.reduceSub, Nat.reduceBEq, ↓reduceIte])) | refine k_of (by assumption) ?_)
                refine tr_cond rfl (fun ht => ?_) (fun hf => ?_)
                rotate_left
                · cases hf
                repeat (first | refine tr_seq_k fun _ _ => ?_ | (refine tr_region ?_; simp only [go_sem, reduceCtorEq, Nat.reduceEqDiff, Nat.reduceLT, Nat.reduceLeDiff, Nat.reduceAdd, Nat.reduceMul, Nat.reduceSub, Nat.reduceBEq, ↓reduceIte]) | (refine call_givesW (cN) ?_; (try dsimp only); (try simp only [go_sem, reduceCtorEq, Nat.reduceEqDiff, Nat.reduceLT, Nat.reduceLeDiff, Nat.reduceAdd, Nat.reduceMul, Nat.reduceSub, Nat.reduceBEq, ↓reduceIte])) | (refine call_givesW (cU) ?_; (try dsimp only); (try simp only [go_sem, reduceCtorEq, Nat.reduceEqDiff, Nat.reduceLT, Nat.reduceLeDiff, Nat.reduceAdd, Nat.reduceMul, Nat.reduceSub, Nat.reduceBEq, ↓reduceIte])) | (refine call_givesW (cD) ?_; (try dsimp only); (try simp only [go_sem, reduceCtorEq, Nat.reduceEqDiff, Nat.reduceLT, Nat.reduceLeDiff, Nat.reduceAdd, Nat.reduceMul, Nat.reduceSub, Nat.reduceBEq, ↓reduceIte])) | refine k_of (by assumption) ?_)
                have hmi := must_i (L := L) (n := n) (r := r3) (s := kDot)
                exact hK (f, ⟨mustT L n r3 kDot, { p with budget := u }, wq, true⟩, k, hw) _ _ ⟨hS, fun h => (by have := (must_ok h).2; dsimp only at this ⊢; rw [this]; omega), by dsimp only; omega, ⟨hk.h1, hk.h2, hk.h3, hk.h4, hk.h5⟩, by dsimp only; omega, by dsimp only; omega, by dsimp only; omega, by dsimp only; omega, by dsimp only; omega⟩ ⟨⟨rfl, rfl, rfl, rfl, rfl, rfl, trivial⟩, Keep.refl _, rfl, by simp only [lowB, Bool.and_eq_true]; exact ⟨rfl, rfl, ksOk_low (⟨hk.h1, hk.h2, hk.h3, hk.h4, hk.h5⟩) _, trivial⟩, Nat.le_refl _, Nat.zero_le _⟩ (by dsimp only; omega)
              | false =>
                rw [h5, if_neg Bool.false_ne_true] at cm4
                obtain ⟨k2, hw2, hk2, hle, cN⟩ := says_gives (z := ⟨false, [.c (.sl true 0 []), .c (.sl true 0 []), .c (.sl true 0 []), iA 0, iA 0, .c (.sl true 0 []), .c (.sl true 0 [])]⟩) (ex := ex) (n := n) hk hL r hi (by omega) (by omega)
                have hni := says_i (L := L) (n := n) (r := r) (p := p)
                obtain ⟨l1, l2, l3, l4, l5⟩ := says_len (L := L) (n := n) (r := r) (p := p)
                have hst : stepF L n ⟨r, p, wq, wb⟩ = ⟨mustT L n (saysF L n r p).1 kDot, (saysF L n r p).2, wq, wb⟩ := by
                  unfold stepF armF
                  dsimp only
                  simp only [h1, h2, h3, h4, h5, if_true, if_false, Bool.false_eq_true]
                rw [hst] at hS
                generalize saysF L n r p = q at *
                obtain ⟨r2, p2⟩ := q
                dsimp only at *
                have cD := rd3 (fun A' hb' => must_gives (A := A') (hw := hw2) (ex := ex) (n := n) hb' hL.len r2 kDot) ⟨false, [.c (.sl true 0 []), .c (.sl true 0 []), .c (.sl true 0 []), iA 0, iA 0, .c (.sl true 0 []), .c (.sl true 0 [])]⟩ [polB p2 k2]
                repeat (first | refine tr_seq_k fun _ _ => ?_ | (refine tr_region ?_; simp only [go_sem, reduceCtorEq, Nat.reduceEqDiff, Nat.reduceLT, Nat.reduceLeDiff, Nat.reduceAdd, Nat.reduceMul, Nat.reduceSub, Nat.reduceBEq, ↓reduceIte]) | (refine call_givesW (cm0) ?_; (try dsimp only); (try simp only [go_sem, reduceCtorEq, Nat.reduceEqDiff, Nat.reduceLT, Nat.reduceLeDiff, Nat.reduceAdd, Nat.reduceMul, Nat.reduceSub, Nat.reduceBEq, ↓reduceIte])) | refine k_of (by assumption) ?_ | refine tr_block ?_ | (refine tr_skip ?_; try simp only [ex_seq, ex_block]))
                refine tr_cond rfl (fun ht => ?_) (fun hf => ?_)
                · cases ht
                repeat (first | refine tr_seq_k fun _ _ => ?_ | (refine tr_region ?_; simp only [go_sem, reduceCtorEq, Nat.reduceEqDiff, Nat.reduceLT, Nat.reduceLeDiff, Nat.reduceAdd, Nat.reduceMul, Nat.reduceSub, Nat.reduceBEq, ↓reduceIte]) | (refine call_givesW (cm1) ?_; (try dsimp only); (try simp only [go_sem, reduceCtorEq, Nat.reduceEqDiff, Nat.reduceLT, Nat.reduceLeDiff, Nat.reduceAdd, Nat.reduceMul, Nat.reduceSub, Nat.reduceBEq, ↓reduceIte])) | refine k_of (by assumption) ?_)
                refine tr_cond rfl (fun ht => ?_) (fun hf => ?_)
                · cases ht
                repeat (first | refine tr_seq_k fun _ _ => ?_ | (refine tr_region ?_; simp only [go_sem, reduceCtorEq, Nat.reduceEqDiff, Nat.reduceLT, Nat.reduceLeDiff, Nat.reduceAdd, Nat.reduceMul, Nat.reduceSub, Nat.reduceBEq, ↓reduceIte]) | (refine call_givesW (cm2) ?_; (try dsimp only); (try simp only [go_sem, reduceCtorEq, Nat.reduceEqDiff, Nat.reduceLT, Nat.reduceLeDiff, Nat.reduceAdd, Nat.reduceMul, Nat.reduceSub, Nat.reduceBEq, ↓reduceIte])) | refine k_of (by assumption) ?_)
                refine tr_cond rfl (fun ht => ?_) (fun hf => ?_)
                · cases ht
                repeat (first | refine tr_seq_k fun _ _ => ?_ | (refine tr_region ?_; simp only [go_sem, reduceCtorEq, Nat.reduceEqDiff, Nat.reduceLT, Nat.reduceLeDiff, Nat.reduceAdd, Nat.reduceMul, Nat.reduceSub, Nat.reduceBEq, ↓reduceIte]) | (refine call_givesW (cm3) ?_; (try dsimp only); (try simp only [go_sem, reduceCtorEq, Nat.reduceEqDiff, Nat.reduceLT, Nat.reduceLeDiff, Nat.reduceAdd, Nat.reduceMul, Nat.reduceSub, Nat.reduceBEq, ↓reduceIte])) | refine k_of (by assumption) ?_)
                refine tr_cond rfl (fun ht => ?_) (fun hf => ?_)
                · cases ht
                repeat (first | refine tr_seq_k fun _ _ => ?_ | (refine tr_region ?_; simp only [go_sem, reduceCtorEq, Nat.reduceEqDiff, Nat.reduceLT, Nat.reduceLeDiff, Nat.reduceAdd, Nat.reduceMul, Nat.reduceSub, Nat.reduceBEq, ↓reduceIte]) | (refine call_givesW (cm4) ?_; (try dsimp only); (try simp only [go_sem, reduceCtorEq, Nat.reduceEqDiff, Nat.reduceLT, Nat.reduceLeDiff, Nat.reduceAdd, Nat.reduceMul, Nat.reduceSub, Nat.reduceBEq, ↓reduceIte])) | refine k_of (by assumption) ?_)
                refine tr_cond rfl (fun ht => ?_) (fun hf => ?_)
                · cases ht
                repeat (first | (refine tr_region ?_; simp only [go_sem, reduceCtorEq, Nat.reduceEqDiff, Nat.reduceLT, Nat.reduceLeDiff, Nat.reduceAdd, Nat.reduceMul, Nat.reduceSub, Nat.reduceBEq, ↓reduceIte]) | (refine call_givesW (cN) ?_; (try dsimp only); (try simp only [go_sem, reduceCtorEq, Nat.reduceEqDiff, Nat.reduceLT, Nat.reduceLeDiff, Nat.reduceAdd, Nat.reduceMul, Nat.reduceSub, Nat.reduceBEq, ↓reduceIte])) | (refine call_givesW (cD) ?_; (try dsimp only); (try simp only [go_sem, reduceCtorEq, Nat.reduceEqDiff, Nat.reduceLT, Nat.reduceLeDiff, Nat.reduceAdd, Nat.reduceMul, Nat.reduceSub, Nat.reduceBEq, ↓reduceIte])) | refine k_of (by assumption) ?_)
                have hmi := must_i (L := L) (n := n) (r := r2) (s := kDot)
                exact hK (f, ⟨mustT L n r2 kDot, p2, wq, wb⟩, k2, hw2) _ _ ⟨hS, fun h => (by have := (must_ok h).2; dsimp only at this ⊢; rw [this]; omega), by dsimp only; omega, hk2, by rw [l1]; omega, by rw [l2]; omega, by rw [l3]; omega, by dsimp only; omega, by dsimp only; omega⟩ ⟨⟨rfl, rfl, rfl, rfl, rfl, rfl, trivial⟩, Keep.refl _, rfl, by simp only [lowB, Bool.and_eq_true]; exact ⟨rfl, rfl, ksOk_low (hk2) _, trivial⟩, Nat.le_refl _, Nat.zero_le _⟩ (by dsimp only; omega)
end Go.Proofs.YtaeehadibckcjaaDoor
namespace Go.Proofs.YtaeehadibckcjaaDoor
open Go.RowKit Go.Vs Go.Vs.Ab
set_option maxRecDepth 100000
set_option maxHeartbeats 4000000
end Go.Proofs.YtaeehadibckcjaaDoor
namespace Go.Vs
open Go.Vs.Ab
def Stop (b : List UInt8) : Prop := ∀ c r, b = c :: r → varB c = false
inductive Lex : List UInt8 → List (List UInt8) → Prop
  | nil {b : List UInt8} (h : b.drop (skipC false b) = []) : Lex b []
  | cons {b : List UInt8} {c : UInt8} {t rest : List UInt8} {ts : List (List UInt8)} (h : b.drop (skipC false b) = c :: (t ++ rest))
      (ht : (kindOf c = 3 ∧ t = []) ∨ (kindOf c ≠ 3 ∧ kindOf c ≠ 0 ∧ runL (kindOf c) (c :: (t ++ rest)) = t.length + 1 ∧ t.length + 1 ≤ 255)) (hr : Lex rest ts) : Lex b ((c :: t) :: ts)
theorem toksF_step (s : ByteArray) (f i : Nat) (out : List Tk) : toksF s (f + 1) i out = if i < s.size then
      if (tokAt s i).2 ≠ 0 then (out, (i : Int), (tokAt s i).2)
      else toksF s f (skipAt s (i + (tokAt s i).1.text.size)) (out ++ [(tokAt s i).1])
    else (out, 0, 0) := rfl
theorem lex_toks {b : List UInt8} {ts : List (List UInt8)} (h : Lex b ts) : ∀ (s : ByteArray) (j : Nat), j ≤ s.size → (lts s).drop j = b → ∀ (f : Nat) (out : List Tk), s.size - skipAt s j < f → ∃ l, toksF s f (skipAt s j) out = (out ++ l, 0, 0) ∧ l.map (fun t => lts t.text) = ts := by
  induction h with
  | @nil b h =>
    intro s j hj hd f out hf
    obtain ⟨f, rfl⟩ : ∃ f', f = f' + 1 := ⟨f - 1, by omega⟩
    have hd2 : (lts s).drop (skipAt s j) = [] := by
      unfold skipAt
      rw [hd, ← List.drop_drop, hd]
      exact h
    have hge : s.size ≤ skipAt s j := by
      have := List.drop_eq_nil_iff.1 hd2
      rwa [lts_len] at this
    refine ⟨[], ?_, rfl⟩
    rw [toksF_step, if_neg (by omega), List.append_nil]
  | @cons b c t rest ts h ht _ ih =>
    intro s j hj hd f out hf
    obtain ⟨f, rfl⟩ : ∃ f', f = f' + 1 := ⟨f - 1, by omega⟩
    have hd2 : (lts s).drop (skipAt s j) = c :: (t ++ rest) := by
      unfold skipAt
      rw [hd, ← List.drop_drop, hd]
      exact h
    have hlt : skipAt s j < (lts s).length := by
      rcases Nat.lt_or_ge (skipAt s j) (lts s).length with h1 | h1
      · exact h1
      · rw [List.drop_eq_nil_of_le h1] at hd2
        cases hd2
    have hsz := lts_len s
    have hc : (lts s)[skipAt s j] = c := by
      have := drop_cons hlt
      rw [hd2] at this
      injection this with h1 _
      exact h1.symm
    have hlen : (lts s).length - skipAt s j = t.length + 1 + rest.length := by
      have := congrArg List.length hd2
      rw [List.length_drop, List.length_cons, List.length_append] at this
      omega
    have key : ∃ k : Int, tokAt s (skipAt s j) = (⟨k, s.extract (skipAt s j) (skipAt s j + (t.length + 1)), ((skipAt s j : Nat) : Int)⟩, 0) := by
      have hT := tokAt_of hlt
      rw [hc] at hT
      rcases ht with ⟨h3, rfl⟩ | ⟨h3, h0, hr, hl⟩
      · rw [if_pos h3] at hT
        exact ⟨3, hT⟩
      · have hrun : runAt (kindOf c) s (skipAt s j) = skipAt s j + (t.length + 1) := by
          unfold runAt
          rw [hd2, hr]
        rw [if_neg h3, if_neg h0, hrun, if_neg (by omega)] at hT
        exact ⟨_, hT⟩
    obtain ⟨k, hT⟩ := key
    have hsize : (s.extract (skipAt s j) (skipAt s j + (t.length + 1))).size = t.length + 1 := by
      rw [ext_size (by omega) (by omega)]
      omega
    have htext : lts (s.extract (skipAt s j) (skipAt s j + (t.length + 1))) = c :: t := by
      rw [lts_ext, hd2, Nat.add_sub_cancel_left]
      show c :: (t ++ rest).take t.length = c :: t
      rw [List.take_left]
    have hd3 : (lts s).drop (skipAt s j + (t.length + 1)) = rest := by
      rw [← List.drop_drop, hd2]
      show (t ++ rest).drop t.length = rest
      exact List.drop_left
    have hge := skipAt_ge s (skipAt s j + (t.length + 1))
    obtain ⟨l, h1, h2⟩ := ih s (skipAt s j + (t.length + 1)) (by omega) hd3 f (out ++ [⟨k, s.extract (skipAt s j) (skipAt s j + (t.length + 1)), ((skipAt s j : Nat) : Int)⟩]) (by omega)
    refine ⟨⟨k, s.extract (skipAt s j) (skipAt s j + (t.length + 1)), ((skipAt s j : Nat) : Int)⟩ :: l, ?_, ?_⟩
    · rw [toksF_step, if_pos (by omega), hT, if_neg (fun h => h rfl)]
      dsimp only
      rw [hsize, h1, List.append_assoc]
      rfl
    · rw [List.map_cons, h2]
      dsimp only
      rw [htext]
theorem lex_all {s : ByteArray} {ts : List (List UInt8)} (h : Lex (lts s) ts) (hz : s.size ≤ 65536) : (toksAll s).2.2 = 0 ∧ (toksAll s).1.map (fun t => lts t.text) = ts := by
  obtain ⟨l, h1, h2⟩ := lex_toks h s 0 (Nat.zero_le _) rfl (s.size + 1) [] (by omega)
  have ht : toks s = (l, 0, 0) := by
    unfold toks
    rw [if_neg (by omega), h1]
    rfl
  unfold toksAll
  rw [ht, if_neg (fun h => h rfl)]
  exact ⟨rfl, h2⟩
/-! ### bytes -/
theorem lower_low {c : UInt8} (h : (lowerB c || digB c) = true) : kindOf c = 1 ∧ blankB c = false ∧ ((c.toNat : Int) = 37) = False := by
  have hc : (97 ≤ c.toNat ∧ c.toNat ≤ 122) ∨ (48 ≤ c.toNat ∧ c.toNat ≤ 57) := by
    simpa [lowerB, digB] using h
  have h1 : signB c = false := by
    rw [Bool.eq_false_iff]
    intro hs
    simp only [signB, List.any_eq_true, decide_eq_true_eq] at hs
    obtain ⟨x, hx, he⟩ := hs
    have : x.toNat < 64 ∧ (x.toNat < 48 ∨ 57 < x.toNat) := by
      simp only [List.mem_cons, List.not_mem_nil, or_false] at hx
      rcases hx with rfl | rfl | rfl | rfl | rfl | rfl | rfl <;> decide
    omega
  have h2 : upperB c = false := by
    rw [Bool.eq_false_iff]
    intro hs
    simp only [upperB, Bool.and_eq_true, decide_eq_true_eq] at hs
    omega
  refine ⟨?_, ?_, eq_false (by omega)⟩
  · unfold kindOf
    rw [if_neg (by rw [h1]; exact Bool.false_ne_true), if_neg (by rw [h2]; exact Bool.false_ne_true), if_pos h]
  · rw [Bool.eq_false_iff]
    intro hs
    simp only [blankB, List.any_eq_true, decide_eq_true_eq] at hs
    obtain ⟨x, hx, he⟩ := hs
    have : x.toNat < 48 := by
      simp only [List.mem_cons, List.not_mem_nil, or_false] at hx
      rcases hx with rfl | rfl | rfl | rfl <;> decide
    omega
theorem upper_up {c : UInt8} (h : upperB c = true) : kindOf c = 2 ∧ blankB c = false ∧ ((c.toNat : Int) = 37) = False := by
  have hc : 65 ≤ c.toNat ∧ c.toNat ≤ 90 := by
    simpa [upperB] using h
  have h1 : signB c = false := by
    rw [Bool.eq_false_iff]
    intro hs
    simp only [signB, List.any_eq_true, decide_eq_true_eq] at hs
    obtain ⟨x, hx, he⟩ := hs
    have : x.toNat < 65 := by
      simp only [List.mem_cons, List.not_mem_nil, or_false] at hx
      rcases hx with rfl | rfl | rfl | rfl | rfl | rfl | rfl <;> decide
    omega
  refine ⟨?_, ?_, eq_false (by omega)⟩
  · unfold kindOf
    rw [if_neg (by rw [h1]; exact Bool.false_ne_true), if_pos h]
  · rw [Bool.eq_false_iff]
    intro hs
    simp only [blankB, List.any_eq_true, decide_eq_true_eq] at hs
    obtain ⟨x, hx, he⟩ := hs
    have : x.toNat < 48 := by
      simp only [List.mem_cons, List.not_mem_nil, or_false] at hx
      rcases hx with rfl | rfl | rfl | rfl <;> decide
    omega
theorem more1 (c : UInt8) : moreB 1 c = constB c := by
  unfold moreB constB
  rw [show decide ((1 : Int) = 2) = false from rfl, Bool.false_and, Bool.or_false]
theorem more2 (c : UInt8) : moreB 2 c = varB c := by
  unfold moreB varB
  rw [show decide ((2 : Int) = 2) = true from rfl, Bool.true_and]
  cases lowerB c <;> cases upperB c <;> cases digB c <;> cases underB c <;> rfl
theorem const_var {c : UInt8} (h : varB c = false) : constB c = false := by
  unfold varB at h
  unfold constB
  revert h
  cases lowerB c <;> cases upperB c <;> cases digB c <;> cases underB c <;> decide
theorem run_word {k : Int} : ∀ {w b : List UInt8}, (∀ c ∈ w, moreB k c = true) → (∀ c r, b = c :: r → moreB k c = false) → runL k (w ++ b) = w.length
  | [], [], _, _ => rfl
  | [], c :: r, _, hb => by
    unfold runL
    rw [List.nil_append, List.takeWhile_cons, if_neg (by rw [hb c r rfl]; exact Bool.false_ne_true)]
  | c :: w, b, hw, hb => by
    have ih := run_word (w := w) (fun x hx => hw x (by simp [hx])) hb
    unfold runL at *
    rw [List.cons_append, List.takeWhile_cons, if_pos (hw c (by simp)), List.length_cons, ih, List.length_cons]
/-! ### how texts are put together -/
theorem lex_blank {c : UInt8} {b : List UInt8} {ts : List (List UInt8)} (hc : blankB c = true) (h : Lex b ts) : Lex (c :: b) ts := by
  have e : (c :: b).drop (skipC false (c :: b)) = b.drop (skipC false b) := by
    rw [skipC, if_pos hc, Nat.add_comm]
    rfl
  cases h with
  | nil h => exact .nil (e.trans h)
  | cons h ht hr => exact .cons (e.trans h) ht hr
theorem skip0 {c : UInt8} {b : List UInt8} (hb : blankB c = false) (hp : ((c.toNat : Int) = 37) = False) : (c :: b).drop (skipC false (c :: b)) = c :: b := by
  rw [skipC, if_neg (by rw [hb]; exact Bool.false_ne_true), if_neg (by rw [hp]; exact id)]
  rfl
theorem lex_sign {c : UInt8} {b : List UInt8} {ts : List (List UInt8)} (hs : signB c = true) (hb : blankB c = false) (hp : ((c.toNat : Int) = 37) = False) (h : Lex b ts) : Lex (c :: b) ([c] :: ts) :=
  .cons (t := []) (skip0 hb hp) (Or.inl ⟨by unfold kindOf; rw [if_pos hs], rfl⟩) h
theorem lex_word {c : UInt8} {w b : List UInt8} {ts : List (List UInt8)} (hc : (lowerB c || digB c) = true) (hw : ∀ x ∈ w, constB x = true) (hl : w.length + 1 ≤ 255) (hs : Stop b) (h : Lex b ts) : Lex (c :: (w ++ b)) ((c :: w) :: ts) := by
  obtain ⟨h1, h2, h3⟩ := lower_low hc
  refine .cons (skip0 h2 h3) (Or.inr ⟨by rw [h1]; decide, by rw [h1]; decide, ?_, hl⟩) h
  rw [h1]
  have hcc : moreB 1 c = true := by
    rw [more1]; unfold constB; rw [hc]; rfl
  exact run_word (w := c :: w) (fun x hx => by
    rcases List.mem_cons.1 hx with rfl | hx
    · exact hcc
    · rw [more1]; exact hw x hx) (fun x r hx => by rw [more1]; exact const_var (hs x r hx))
theorem lex_var {c : UInt8} {w b : List UInt8} {ts : List (List UInt8)} (hc : upperB c = true) (hw : ∀ x ∈ w, varB x = true) (hl : w.length + 1 ≤ 255) (hs : Stop b) (h : Lex b ts) : Lex (c :: (w ++ b)) ((c :: w) :: ts) := by
  obtain ⟨h1, h2, h3⟩ := upper_up hc
  refine .cons (skip0 h2 h3) (Or.inr ⟨by rw [h1]; decide, by rw [h1]; decide, ?_, hl⟩) h
  rw [h1]
  have hcc : moreB 2 c = true := by
    rw [more2]; unfold varB; rw [hc]; cases lowerB c <;> rfl
  exact run_word (w := c :: w) (fun x hx => by
    rcases List.mem_cons.1 hx with rfl | hx
    · exact hcc
    · rw [more2]; exact hw x hx) (fun x r hx => by rw [more2]; exact hs x r hx)
def LS (x : ByteArray) (tx : List ByteArray) : Prop := ∀ b ts, Lex b ts → Lex (lts x ++ b) (tx.map lts ++ ts)
def LX (x : ByteArray) (tx : List ByteArray) : Prop := ∀ b ts, Stop b → Lex b ts → Lex (lts x ++ b) (tx.map lts ++ ts)
def SH (y : ByteArray) : Prop := ∃ c r, lts y = c :: r ∧ varB c = false
theorem SH.stop {y : ByteArray} (h : SH y) (b : List UInt8) : Stop (lts y ++ b) := fun c r e => by
  obtain ⟨d, q, h1, h2⟩ := h
  rw [h1] at e
  injection e with e _
  subst e
  exact h2
theorem SH.app {y : ByteArray} (h : SH y) (z : ByteArray) : SH (y ++ z) := by
  obtain ⟨d, q, h1, h2⟩ := h
  exact ⟨d, q ++ lts z, by rw [lts_app, h1]; rfl, h2⟩
theorem LS.nil : LS ⟨#[]⟩ [] := fun b ts h => h
theorem LS.app {x y : ByteArray} {tx ty : List ByteArray} (h : LS x tx) (k : LS y ty) : LS (x ++ y) (tx ++ ty) := fun b ts hb => by
  rw [lts_app, List.map_append, List.append_assoc, List.append_assoc]
  exact h _ _ (k b ts hb)
theorem LS.appX {x y : ByteArray} {tx ty : List ByteArray} (h : LS x tx) (k : LX y ty) : LX (x ++ y) (tx ++ ty) := fun b ts hs hb => by
  rw [lts_app, List.map_append, List.append_assoc, List.append_assoc]
  exact h _ _ (k b ts hs hb)
theorem LS.x {x : ByteArray} {tx : List ByteArray} (h : LS x tx) : LX x tx := fun b ts _ hb => h b ts hb
theorem LX.app {x y : ByteArray} {tx ty : List ByteArray} (h : LX x tx) (hy : SH y) (k : LS y ty) : LS (x ++ y) (tx ++ ty) := fun b ts hb => by
  rw [lts_app, List.map_append, List.append_assoc, List.append_assoc]
  exact h _ _ (hy.stop b) (k b ts hb)
theorem LX.appX {x y : ByteArray} {tx ty : List ByteArray} (h : LX x tx) (hy : y.size = 0 ∨ SH y) (k : LX y ty) : LX (x ++ y) (tx ++ ty) := fun b ts hs hb => by
  rw [lts_app, List.map_append, List.append_assoc, List.append_assoc]
  refine h _ _ ?_ (k b ts hs hb)
  rcases hy with hy | hy
  · have : lts y = [] := List.eq_nil_of_length_eq_zero (by rw [lts_len]; exact hy)
    rw [this]
    exact hs
  · exact hy.stop b
theorem LS.blank {c : UInt8} (hc : blankB c = true) : LS ⟨#[c]⟩ [] := fun b ts h => lex_blank hc h
theorem LS.sign {c : UInt8} (hs : signB c = true) (hb : blankB c = false) (hp : ((c.toNat : Int) = 37) = False) : LS ⟨#[c]⟩ [⟨#[c]⟩] := fun b ts h => lex_sign hs hb hp h
theorem lts_cons {x : ByteArray} (h : 0 < x.size) : ∃ c r, lts x = c :: r ∧ r.length + 1 = x.size ∧ ∀ p : UInt8 → Bool, headB p x = p c := by
  cases hl : lts x with
  | nil =>
    have := lts_len x
    rw [hl] at this
    simp at this
    omega
  | cons c r =>
    refine ⟨c, r, rfl, ?_, fun p => ?_⟩
    · have := lts_len x
      rw [hl] at this
      exact this
    · unfold headB
      rw [hl]
      rfl
theorem LX.const {x : ByteArray} (h : pconst0 x = true) (hh : headB (fun c => lowerB c || digB c) x = true) : LX x [x] := fun b ts hs hb => by
  obtain ⟨c, r, hl, hn, hp⟩ := lts_cons (headB_pos hh)
  rw [hp] at hh
  unfold pconst0 at h
  simp only [Bool.and_eq_true, decide_eq_true_eq, List.all_eq_true, hl] at h
  rw [show [x].map lts = [c :: r] by rw [List.map_singleton, hl], hl]
  exact lex_word hh (fun y hy => h.2 y (by simp [hy])) (by omega) hs hb
theorem pconstant_head {x : ByteArray} (h : pconst0 x = true) : headB (fun c => lowerB c || digB c) x = true := by
  unfold pconst0 at h
  simp only [Bool.and_eq_true, decide_eq_true_eq, List.all_eq_true] at h
  obtain ⟨c, r, hl, hn, hp⟩ := lts_cons (headB_pos h.1.2)
  have h1 := h.1.2
  rw [hp] at h1 ⊢
  have h2 := h.2 c (by rw [hl]; simp)
  unfold constB at h2
  revert h1 h2
  cases lowerB c <;> cases digB c <;> cases underB c <;> decide
theorem LX.pconst {x : ByteArray} (h : pconstant x = true) : LX x [x] := by
  unfold pconstant at h
  rw [Bool.and_eq_true] at h
  exact LX.const h.1 (pconstant_head h.1)
theorem LX.prin {x : ByteArray} (h : pprincipal x = true) : LX x [x] := by
  unfold pprincipal at h
  rw [Bool.and_eq_true] at h
  exact LX.pconst h.1
theorem LX.pvar {x : ByteArray} (h : pvariable x = true) : LX x [x] := fun b ts hs hb => by
  unfold pvariable at h
  simp only [Bool.and_eq_true, decide_eq_true_eq, List.all_eq_true] at h
  obtain ⟨c, r, hl, hn, hp⟩ := lts_cons (headB_pos h.1.2)
  have h1 := h.1.2
  rw [hp] at h1
  rw [show [x].map lts = [c :: r] by rw [List.map_singleton, hl], hl]
  exact lex_var h1 (fun y hy => h.2 y (by rw [hl]; simp [hy])) (by omega) hs hb
theorem LX.term {t : Tm} (h : ptermok t = true) : LX t.name [t.name] := by
  unfold ptermok at h
  split at h
  · exact LX.pvar h
  · exact LX.pconst h
theorem LS.toks {x : ByteArray} {tx : List ByteArray} (h : LS x tx) (hz : x.size ≤ 65536) : (toksAll x).2.2 = 0 ∧ (toksAll x).1.map Tk.text = tx := by
  have h1 := h [] [] (.nil rfl)
  rw [List.append_nil, List.append_nil] at h1
  obtain ⟨h2, h3⟩ := lex_all h1 hz
  refine ⟨h2, ?_⟩
  have inj : ∀ (l : List Tk) (t : List ByteArray), l.map (fun t => lts t.text) = t.map lts → l.map Tk.text = t := fun l => by
    induction l with
    | nil => intro t h; cases t with | nil => rfl | cons => cases h
    | cons a l ih =>
      intro t h
      cases t with
      | nil => cases h
      | cons b t =>
        simp only [List.map_cons] at h ⊢
        injection h with h4 h5
        rw [ih t h5, lts_inj h4]
  exact inj _ _ h3
end Go.Vs
namespace Go.Vs
open Go.Vs.Ab
variable {L : List Tk} {n : Int} {r : Rs} {t : ByteArray} {ts rest : List ByteArray}
def Rem (L : List Tk) (r : Rs) (ts : List ByteArray) : Prop := r.e = 0 ∧ (L.drop r.i).map Tk.text = ts
theorem Rem.get (h : Rem L r (t :: ts)) : ∃ k, L[r.i]? = some k ∧ k.text = t ∧ r.i < L.length := by
  obtain ⟨_, h⟩ := h
  rcases Nat.lt_or_ge r.i L.length with hl | hl
  · rw [List.drop_eq_getElem_cons hl, List.map_cons] at h
    injection h with h1 _
    exact ⟨_, List.getElem?_eq_getElem hl, h1, hl⟩
  · rw [List.drop_eq_nil_of_le hl] at h
    cases h
theorem Rem.adv (h : Rem L r (t :: ts)) : Rem L r.adv ts := by
  obtain ⟨k, h1, h2, hl⟩ := h.get
  obtain ⟨he, h⟩ := h
  refine ⟨he, ?_⟩
  rw [List.drop_eq_getElem_cons hl, List.map_cons] at h
  injection h with _ h
theorem Rem.is (h : Rem L r (t :: ts)) (s : ByteArray) : isT L r s = decide (t = s) := by
  obtain ⟨k, h1, h2, hl⟩ := h.get
  unfold isT
  rw [h1, decide_eq_true h.1]
  dsimp only
  rw [h2, Bool.true_and]
theorem Rem.is0 (h : Rem L r []) (s : ByteArray) : isT L r s = false := by
  have hl : L.length ≤ r.i := by
    have := List.map_eq_nil_iff.1 h.2
    exact List.drop_eq_nil_iff.1 this
  unfold isT
  rw [List.getElem?_eq_none hl, Bool.and_false]
theorem Rem.not (h : Rem L r ts) {s : ByteArray} (hs : ∀ x q, ts = x :: q → x ≠ s) : isT L r s = false := by
  cases ts with
  | nil => exact h.is0 s
  | cons x q =>
    rw [h.is s]
    exact decide_eq_false (hs x q rfl)
theorem Rem.must (h : Rem L r (t :: ts)) : Rem L (mustT L n r t) ts := by
  unfold mustT
  rw [h.is t, decide_eq_true rfl, if_pos rfl]
  exact h.adv
theorem Rem.next {sort : Int} (h : Rem L r (t :: ts)) (hm : mayT sort t = true) : nextS L r sort = t ∧ Rem L (nextR L n r sort) ts := by
  obtain ⟨k, h1, h2, hl⟩ := h.get
  have ho : nextOk L r sort = true := by
    unfold nextOk
    rw [h1, decide_eq_true h.1]
    dsimp only
    rw [h2, hm]
    rfl
  refine ⟨?_, ?_⟩
  · unfold nextS
    rw [ho, if_pos rfl, h1]
    exact h2
  · unfold nextR
    rw [ho, if_pos rfl]
    exact h.adv
theorem Rem.len (h : Rem L r ts) : ts.length ≤ L.length - r.i := by
  rw [← h.2, List.length_map, List.length_drop]
  exact Nat.le_refl _
/-! ### terms -/
def sepT : List Tm → List ByteArray
  | [] => []
  | [t] => [t.name]
  | t :: u :: r => t.name :: kCom :: sepT (u :: r)
theorem const_novar {s : ByteArray} (h : pconstant s = true) : pvariable s = false := by
  rw [Bool.eq_false_iff]
  intro hv
  unfold pconstant at h
  unfold pvariable at hv
  simp only [Bool.and_eq_true] at h hv
  have h1 := pconstant_head h.1
  obtain ⟨c, q, hl, hn, hp⟩ := lts_cons (headB_pos hv.1.2)
  have h2 := hv.1.2
  rw [hp] at h1 h2
  have e1 := (lower_low h1).1
  have e2 := (upper_up h2).1
  rw [e1] at e2
  exact absurd e2 (by decide)
theorem term_eq {u : Tm} (h : ptermok u = true) : (⟨pvariable u.name, u.name⟩ : Tm) = u ∧ mayT 2 u.name = true := by
  obtain ⟨v, s⟩ := u
  unfold ptermok at h
  cases v with
  | true =>
    have h : pvariable s = true := h
    refine ⟨by rw [h], ?_⟩
    show (pconstant s || pvariable s) = true
    rw [h, Bool.or_true]
  | false =>
    have h : pconstant s = true := h
    refine ⟨by rw [const_novar h], ?_⟩
    show (pconstant s || pvariable s) = true
    rw [h, Bool.true_or]
theorem saidL_law : ∀ (us : List Tm) (f : Nat) (r : Rs) (acc : List Tm) (rest : List ByteArray), us ≠ [] → (∀ u ∈ us, ptermok u = true) → acc.length + us.length ≤ 4 → us.length ≤ f → (∀ x q, rest = x :: q → x ≠ kCom) → Rem L r (sepT us ++ rest) →
    ∃ r', saidL L n f r acc = (r', acc ++ us) ∧ Rem L r' rest
  | [], f, r, acc, rest, h, _, _, _, _, _ => absurd rfl h
  | [u], 0, r, acc, rest, _, _, _, hf, _, _ => absurd hf (by simp)
  | u :: v :: us, 0, r, acc, rest, _, _, _, hf, _, _ => absurd hf (by simp)
  | [u], f + 1, r, acc, rest, _, ho, hl, hf, hr, h => by
    obtain ⟨e1, e2⟩ := term_eq (ho u (by simp))
    have h : Rem L r (u.name :: rest) := h
    obtain ⟨q1, q2⟩ := h.next (n := n) e2
    refine ⟨nextR L n r 2, ?_, q2⟩
    unfold saidL
    rw [if_pos h.1, if_pos q2.1, if_neg (by simp at hl; omega), q2.not hr, if_neg Bool.false_ne_true, q1, e1]
  | u :: v :: us, f + 1, r, acc, rest, _, ho, hl, hf, hr, h => by
    obtain ⟨e1, e2⟩ := term_eq (ho u (by simp))
    have h : Rem L r (u.name :: kCom :: (sepT (v :: us) ++ rest)) := h
    obtain ⟨q1, q2⟩ := h.next (n := n) e2
    obtain ⟨r', h1, h2⟩ := saidL_law (v :: us) f (nextR L n r 2).adv (acc ++ [u]) rest (by simp) (fun x hx => ho x (by simp at hx ⊢; exact Or.inr hx)) (by simp at hl ⊢; omega) (by simp at hf ⊢; omega) hr q2.adv
    refine ⟨r', ?_, h2⟩
    unfold saidL
    rw [if_pos h.1, if_pos q2.1, if_neg (by simp at hl; omega), q2.is, decide_eq_true rfl, if_pos rfl, q1, e1, h1]
    simp
/-! ### atoms -/
theorem ok_parts {a : Atm} (h : pcheck3 a = 0) : pprincipal a.says = true ∧ pprincipal a.pred = true ∧ 0 ≤ a.n ∧ a.n ≤ 4 ∧ a.termsB = true ∧ a.restB = true := by
  unfold pcheck3 at h
  split at h
  · cases h
  rename_i h1
  split at h
  · cases h
  rename_i h2
  split at h
  · cases h
  rename_i h3
  split at h
  · cases h
  rename_i h4
  rw [Bool.not_eq_false, Bool.and_eq_true] at h1
  exact ⟨h1.1, h1.2, by omega, by omega, by simpa using h3, by simpa using h4⟩
theorem ok_count {a : Atm} (h : pcheck3 a = 0) : (a.count : Int) = a.n := by
  obtain ⟨_, _, h1, h2, _⟩ := ok_parts h
  unfold Atm.count
  omega
theorem ok_term {a : Atm} (h : pcheck3 a = 0) {k : Nat} (hk : k < a.count) : ptermok (a.arg k) = true := by
  have hc := ok_count h
  obtain ⟨_, _, h1, h2, h3, _⟩ := ok_parts h
  unfold Atm.termsB at h3
  rw [List.all_eq_true] at h3
  have := h3 k (by rw [List.mem_range]; omega)
  have hd : decide ((k : Int) < a.n) = true := decide_eq_true (by omega)
  simpa [hd] using this
theorem ok_rest {a : Atm} (h : pcheck3 a = 0) {k : Nat} (hk : a.count ≤ k) (h4 : k < 4) : a.arg k = noT := by
  have hc := ok_count h
  obtain ⟨_, _, h1, h2, _, h3⟩ := ok_parts h
  unfold Atm.restB at h3
  rw [List.all_eq_true] at h3
  have := h3 k (by rw [List.mem_range]; omega)
  have hd : decide ((k : Int) < a.n) = false := decide_eq_false (by omega)
  simpa [hd, noT] using this
def termsOf (a : Atm) : List Tm := a.args.take a.count
theorem terms_len (a : Atm) : (termsOf a).length = a.count := by
  unfold termsOf
  rw [List.length_take]
  have := a.count_le
  show min a.count 4 = _
  omega
theorem args_arg (a : Atm) {k : Nat} (hk : k < 4) : a.args[k]? = some (a.arg k) := by
  obtain rfl | rfl | rfl | rfl : k = 0 ∨ k = 1 ∨ k = 2 ∨ k = 3 := by omega
  all_goals rfl
theorem terms_get (a : Atm) {k : Nat} (hk : k < a.count) : (termsOf a)[k]? = some (a.arg k) := by
  have := a.count_le
  unfold termsOf
  rw [List.getElem?_take, if_pos hk, args_arg a (by omega)]
theorem terms_ok {a : Atm} (h : pcheck3 a = 0) : ∀ u ∈ termsOf a, ptermok u = true := fun u hu => by
  obtain ⟨k, hk⟩ := List.mem_iff_getElem?.1 hu
  have hlt : k < a.count := by
    have := (List.getElem?_eq_some_iff.1 hk).1
    rwa [terms_len] at this
  rw [terms_get a hlt] at hk
  injection hk with hk
  subst hk
  exact ok_term h hlt
theorem mkAt_eq {a : Atm} (h : pcheck3 a = 0) (s : ByteArray) : mkAt s a.pred (termsOf a) = { a with says := s } := by
  have hc := ok_count h
  have hg : ∀ k, k < 4 → (termsOf a).getD k noT = a.arg k := fun k hk => by
    rw [List.getD_eq_getElem?_getD]
    by_cases hlt : k < a.count
    · rw [terms_get a hlt]
      rfl
    · rw [List.getElem?_eq_none (by rw [terms_len]; omega), ok_rest h (by omega) hk]
      rfl
  unfold mkAt
  rw [terms_len, hc, hg 0 (by omega), hg 1 (by omega), hg 2 (by omega), hg 3 (by omega)]
  rfl
def saidTk (a : Atm) : List ByteArray := a.pred :: (if a.count = 0 then [] else kOpen :: (sepT (termsOf a) ++ [kShut]))
def atomTk (a : Atm) : List ByteArray := a.says :: kSays :: saidTk a
theorem said_law {a : Atm} (ha : pcheck3 a = 0) (s : ByteArray) (hr : ∀ x q, rest = x :: q → x ≠ kOpen) (h : Rem L r (saidTk a ++ rest)) : ∃ r', saidF L n r s = (r', { a with says := s }) ∧ Rem L r' rest := by
  have hp := (ok_parts ha).2.1
  have hm : mayT 1 a.pred = true := hp
  have h : Rem L r (a.pred :: ((if a.count = 0 then [] else kOpen :: (sepT (termsOf a) ++ [kShut])) ++ rest)) := h
  obtain ⟨q1, q2⟩ := h.next (n := n) hm
  unfold saidF
  by_cases h0 : a.count = 0
  · rw [if_pos h0] at q2
    have q2 : Rem L (nextR L n r 1) rest := q2
    rw [q2.not hr, if_neg Bool.false_ne_true, q1]
    have e := mkAt_eq ha s
    have ht : termsOf a = [] := List.eq_nil_of_length_eq_zero (by rw [terms_len]; exact h0)
    rw [ht] at e
    exact ⟨_, by rw [e], q2⟩
  · rw [if_neg h0] at q2
    have q2 : Rem L (nextR L n r 1) (kOpen :: ((sepT (termsOf a) ++ [kShut]) ++ rest)) := q2
    rw [q2.is, decide_eq_true rfl, if_pos rfl, q1]
    have q3 := q2.adv
    rw [List.append_assoc] at q3
    have hl := terms_len a
    have h4 := a.count_le
    obtain ⟨r', h1, h2⟩ := saidL_law (n := n) (termsOf a) 5 (nextR L n r 1).adv [] ([kShut] ++ rest) (fun e => by rw [e] at hl; exact h0 hl.symm) (terms_ok ha) (by rw [hl]; simp; omega) (by rw [hl]; omega) (fun x q e => by
      injection e with e _
      rw [← e]
      decide) q3
    rw [h1]
    dsimp only
    rw [List.nil_append, mkAt_eq ha s]
    exact ⟨_, rfl, h2.must⟩
theorem atom_law {a : Atm} (ha : pcheck3 a = 0) (hr : ∀ x q, rest = x :: q → x ≠ kOpen) (h : Rem L r (atomTk a ++ rest)) : ∃ r', atomF L n r = (r', a) ∧ Rem L r' rest := by
  have hs := (ok_parts ha).1
  have hm : mayT 0 a.says = true := hs
  have h : Rem L r (a.says :: kSays :: (saidTk a ++ rest)) := h
  obtain ⟨q1, q2⟩ := h.next (n := n) hm
  obtain ⟨r', h1, h2⟩ := said_law (n := n) ha a.says hr (q2.must (n := n))
  refine ⟨r', ?_, h2⟩
  unfold atomF
  rw [q1, h1]
/-! ### bodies -/
def sepA : List Atm → List ByteArray
  | [] => []
  | [a] => atomTk a
  | a :: b :: l => atomTk a ++ kCom :: sepA (b :: l)
def bodyTk (l : List Atm) : List ByteArray := if l = [] then [] else kIf :: sepA l
theorem bodyL_law : ∀ (l : List Atm) (f : Nat) (r : Rs) (acc : List Atm) (rest : List ByteArray), l ≠ [] → (∀ a ∈ l, pcheck3 a = 0) → l.length ≤ f → (∀ x q, rest = x :: q → x ≠ kCom ∧ x ≠ kOpen) → Rem L r (sepA l ++ rest) →
    ∃ r', bodyL L n f r acc = (r', acc ++ l) ∧ Rem L r' rest
  | [], f, r, acc, rest, h, _, _, _, _ => absurd rfl h
  | [a], 0, r, acc, rest, _, _, hf, _, _ => absurd hf (by simp)
  | a :: b :: l, 0, r, acc, rest, _, _, hf, _, _ => absurd hf (by simp)
  | [a], f + 1, r, acc, rest, _, ho, hf, hr, h => by
    obtain ⟨r1, h1, h2⟩ := atom_law (n := n) (ho a (by simp)) (fun x q e => (hr x q e).2) h
    refine ⟨r1, ?_, h2⟩
    unfold bodyL
    rw [if_pos h.1, h1]
    dsimp only
    rw [h2.not (fun x q e => (hr x q e).1), if_neg Bool.false_ne_true]
  | a :: b :: l, f + 1, r, acc, rest, _, ho, hf, hr, h => by
    have h : Rem L r (atomTk a ++ (kCom :: (sepA (b :: l) ++ rest))) := by
      have e : sepA (a :: b :: l) ++ rest = atomTk a ++ (kCom :: (sepA (b :: l) ++ rest)) := by
        simp [sepA]
      rwa [e] at h
    obtain ⟨r1, h1, h2⟩ := atom_law (n := n) (ho a (by simp)) (fun x q e => by
      injection e with e _
      rw [← e]
      decide) h
    obtain ⟨r', h3, h4⟩ := bodyL_law (b :: l) f r1.adv (acc ++ [a]) rest (by simp) (fun x hx => ho x (by simp at hx ⊢; exact Or.inr hx)) (by simp at hf ⊢; omega) hr h2.adv
    refine ⟨r', ?_, h4⟩
    unfold bodyL
    rw [if_pos h.1, h1]
    dsimp only
    rw [h2.is, decide_eq_true rfl, if_pos rfl, h3]
    simp
theorem sepA_len : ∀ l : List Atm, l.length ≤ (sepA l).length
  | [] => Nat.le_refl _
  | [a] => by simp [sepA, atomTk]
  | a :: b :: l => by
    have := sepA_len (b :: l)
    simp only [sepA, List.length_append, List.length_cons, atomTk] at this ⊢
    omega
theorem body_law {l : List Atm} (ho : ∀ a ∈ l, pcheck3 a = 0) (hr : ∀ x q, rest = x :: q → x ≠ kCom ∧ x ≠ kOpen ∧ x ≠ kIf) (h : Rem L r (bodyTk l ++ rest)) : ∃ r', bodyF L n r = (r', l) ∧ Rem L r' rest := by
  unfold bodyF
  by_cases hl : l = []
  · subst hl
    have h : Rem L r rest := h
    rw [h.not (fun x q e => (hr x q e).2.2), if_neg Bool.false_ne_true]
    exact ⟨r, rfl, h⟩
  · unfold bodyTk at h
    rw [if_neg hl] at h
    have h : Rem L r (kIf :: (sepA l ++ rest)) := h
    rw [h.is, decide_eq_true rfl, if_pos rfl]
    have hn := h.adv.len
    rw [List.length_append] at hn
    have := sepA_len l
    obtain ⟨r', h1, h2⟩ := bodyL_law (n := n) l (L.length + 1) r.adv [] rest hl ho (by omega) (fun x q e => ⟨(hr x q e).1, (hr x q e).2.1⟩) h.adv
    exact ⟨r', by rw [h1, List.nil_append], h2⟩
/-! ### clears -/
def sepS : List ByteArray → List ByteArray
  | [] => []
  | [a] => [a]
  | a :: b :: l => a :: kCom :: sepS (b :: l)
theorem clearL_law : ∀ (l : List ByteArray) (f : Nat) (r : Rs) (acc : List ByteArray) (rest : List ByteArray), l ≠ [] → (∀ a ∈ l, pprincipal a = true) → l.length ≤ f → (∀ x q, rest = x :: q → x ≠ kCom) → Rem L r (sepS l ++ rest) →
    ∃ r', clearL L n f r acc = (r', acc ++ l) ∧ Rem L r' rest
  | [], f, r, acc, rest, h, _, _, _, _ => absurd rfl h
  | [a], 0, r, acc, rest, _, _, hf, _, _ => absurd hf (by simp)
  | a :: b :: l, 0, r, acc, rest, _, _, hf, _, _ => absurd hf (by simp)
  | [a], f + 1, r, acc, rest, _, ho, hf, hr, h => by
    have h : Rem L r (a :: rest) := h
    have hm : mayT 0 a = true := ho a (by simp)
    obtain ⟨q1, q2⟩ := h.next (n := n) hm
    refine ⟨nextR L n r 0, ?_, q2⟩
    unfold clearL
    rw [if_pos h.1, q2.not hr, if_neg Bool.false_ne_true, q1]
  | a :: b :: l, f + 1, r, acc, rest, _, ho, hf, hr, h => by
    have h : Rem L r (a :: kCom :: (sepS (b :: l) ++ rest)) := h
    have hm : mayT 0 a = true := ho a (by simp)
    obtain ⟨q1, q2⟩ := h.next (n := n) hm
    obtain ⟨r', h3, h4⟩ := clearL_law (b :: l) f (nextR L n r 0).adv (acc ++ [a]) rest (by simp) (fun x hx => ho x (by simp at hx ⊢; exact Or.inr hx)) (by simp at hf ⊢; omega) hr q2.adv
    refine ⟨r', ?_, h4⟩
    unfold clearL
    rw [if_pos h.1, q2.is, decide_eq_true rfl, if_pos rfl, q1, h3]
    simp
theorem sepS_len : ∀ l : List ByteArray, l.length ≤ (sepS l).length
  | [] => Nat.le_refl _
  | [a] => Nat.le_refl _
  | a :: b :: l => by
    have := sepS_len (b :: l)
    simp only [sepS, List.length_cons] at this ⊢
    omega
theorem clear_law {w : ByteArray} {l : List ByteArray} (hw : pprincipal w = true) (hl : l ≠ []) (ho : ∀ a ∈ l, pprincipal a = true) (hr : ∀ x q, rest = x :: q → x ≠ kCom) (h : Rem L r (w :: kCol :: (sepS l ++ rest))) : ∃ r', clearF L n r = (r', w, l) ∧ Rem L r' rest := by
  have hm : mayT 0 w = true := hw
  obtain ⟨q1, q2⟩ := h.next (n := n) hm
  have q3 := q2.must (n := n)
  have hn := q3.len
  rw [List.length_append] at hn
  have := sepS_len l
  obtain ⟨r', h1, h2⟩ := clearL_law (n := n) l (L.length + 1) (mustT L n (nextR L n r 0) kCol) [] rest hl ho (by omega) hr q3
  refine ⟨r', ?_, h2⟩
  unfold clearF
  rw [h1, q1, List.nil_append]
end Go.Vs
namespace Go.Proofs.YtaeehadibckcjaaDoor
open Go.RowKit Go.Vs Go.Vs.Ab
set_option maxRecDepth 100000
/-! ### words and signs -/
theorem sh_of {y : ByteArray} {c : UInt8} {r : List UInt8} (h : lts y = c :: r) (hc : varB c = false) : SH y := ⟨c, r, h, hc⟩
theorem LS.sp : LS ⟨#[32]⟩ [] := LS.blank (by decide)
theorem SH.sp : SH ⟨#[32]⟩ := sh_of (r := []) rfl (by decide)
theorem LS.kw {w : ByteArray} (h : pconst0 w = true) : LS (w ++ ⟨#[32]⟩) [w] := (LX.const h (pconstant_head h)).app SH.sp LS.sp
theorem LS.kw2 {w : ByteArray} (h : pconst0 w = true) : LS (⟨#[32]⟩ ++ (w ++ ⟨#[32]⟩)) [w] := LS.sp.app (LS.kw h)
theorem ls_says : LS tSays [kSays] := LS.kw2 (w := kSays) (by decide)
theorem ls_if : LS tIf [kIf] := LS.kw2 (w := kIf) (by decide)
theorem ls_can : LS tCan [kCan] := LS.kw2 (w := kCan) (by decide)
theorem ls_prin : LS tPrin [kPrin] := LS.kw (w := kPrin) (by decide)
theorem ls_pred : LS tPred [kPred] := LS.kw (w := kPred) (by decide)
theorem ls_clear : LS tClr [kClear] := LS.kw (w := kClear) (by decide)
theorem ls_quota : LS tQuo [kQuota] := LS.kw (w := kQuota) (by decide)
theorem ls_budget : LS tBud [kBudget] := LS.kw (w := kBudget) (by decide)
theorem ls_com : LS tComma [kCom] := (LS.sign (c := 44) (by decide) (by decide) (eq_false (by decide))).app LS.sp
theorem ls_open : LS tOpen [kOpen] := LS.sign (by decide) (by decide) (eq_false (by decide))
theorem ls_shut : LS tShut [kShut] := LS.sign (by decide) (by decide) (eq_false (by decide))
theorem ls_sl : LS tSl [kSl] := LS.sign (by decide) (by decide) (eq_false (by decide))
theorem ls_col : LS tCol [kCol] := LS.sign (by decide) (by decide) (eq_false (by decide))
theorem ls_dot : LS (dotB ++ nlB) [kDot] := (LS.sign (c := 46) (by decide) (by decide) (eq_false (by decide))).app (LS.blank (by decide))
theorem sh_com : SH tComma := sh_of (c := 44) (r := [32]) rfl (by decide)
theorem sh_open : SH tOpen := sh_of (c := 40) (r := []) rfl (by decide)
theorem sh_shut : SH tShut := sh_of (c := 41) (r := []) rfl (by decide)
theorem sh_says : SH tSays := sh_of (c := 32) rfl (by decide)
theorem sh_if : SH tIf := sh_of (c := 32) rfl (by decide)
theorem sh_can : SH tCan := sh_of (c := 32) rfl (by decide)
theorem sh_sl : SH tSl := sh_of (c := 47) (r := []) rfl (by decide)
theorem sh_col : SH tCol := sh_of (c := 58) (r := []) rfl (by decide)
theorem sh_dot : SH (dotB ++ nlB) := sh_of (c := 46) (r := [10]) rfl (by decide)
/-! ### atoms -/
theorem sepT_snoc : ∀ {l : List Tm} (x : Tm), l ≠ [] → sepT (l ++ [x]) = sepT l ++ [kCom, x.name]
  | [], x, h => absurd rfl h
  | [t], x, _ => rfl
  | t :: u :: r, x, _ => by
    have ih := sepT_snoc (l := u :: r) x (by simp)
    show t.name :: kCom :: sepT ((u :: r) ++ [x]) = _
    rw [ih]
    rfl
theorem lx_saidK {a : Atm} (h : pcheck3 a = 0) : ∀ k, k ≤ a.count → LX (psaidK a k) (a.pred :: (if k = 0 then [] else kOpen :: sepT ((termsOf a).take k)))
  | 0, _ => LX.prin (ok_parts h).2.1
  | k + 1, hk => by
    have ih := lx_saidK h k (by omega)
    have hn := LX.term (ok_term h (k := k) (by omega))
    have hl := terms_len a
    have ht : (termsOf a).take (k + 1) = (termsOf a).take k ++ [a.arg k] := by
      rw [List.take_add_one, terms_get a (by omega)]
      rfl
    unfold psaidK
    rw [if_neg (Nat.succ_ne_zero k), ht]
    by_cases h0 : k = 0
    · subst h0
      rw [if_pos rfl, ByteArray.append_assoc]
      rw [if_pos rfl] at ih
      have := ih.appX (Or.inr (sh_open.app _)) (ls_open.appX hn)
      exact this
    · rw [if_neg h0, ByteArray.append_assoc]
      rw [if_neg h0] at ih
      have := ih.appX (Or.inr (sh_com.app _)) (ls_com.appX hn)
      rw [sepT_snoc _ (fun e => by
        have := congrArg List.length e
        rw [List.length_take, List.length_nil] at this
        omega)]
      have e : a.pred :: kOpen :: (sepT ((termsOf a).take k) ++ [kCom, (a.arg k).name]) = (a.pred :: kOpen :: sepT ((termsOf a).take k)) ++ ([kCom] ++ [(a.arg k).name]) := rfl
      rw [e]
      exact this
theorem lx_said {a : Atm} (h : pcheck3 a = 0) : LX (psaid a) (saidTk a) := by
  have hk := lx_saidK h a.count (Nat.le_refl _)
  have hl := terms_len a
  unfold psaid saidTk
  by_cases h0 : a.count = 0
  · rw [if_neg (by omega), if_pos h0]
    exact LX.prin (ok_parts h).2.1
  · rw [if_pos (by omega), if_neg h0]
    rw [if_neg h0, List.take_of_length_le (by omega)] at hk
    exact (hk.app sh_shut ls_shut).x
theorem lx_text {a : Atm} (h : pcheck3 a = 0) : LX (ptext a) (atomTk a) := by
  unfold ptext
  have := ((LX.prin (ok_parts h).1).app sh_says ls_says).appX (lx_said h)
  exact this
/-! ### bodies -/
theorem sepA_snoc : ∀ {l : List Atm} (x : Atm), l ≠ [] → sepA (l ++ [x]) = sepA l ++ kCom :: atomTk x
  | [], x, h => absurd rfl h
  | [t], x, _ => rfl
  | t :: u :: r, x, _ => by
    have ih := sepA_snoc (l := u :: r) x (by simp)
    show atomTk t ++ kCom :: sepA ((u :: r) ++ [x]) = _
    rw [ih]
    show _ = (atomTk t ++ kCom :: sepA (u :: r)) ++ _
    simp
theorem lx_bodyK {l : List Atm} (h : ∀ a ∈ l, pcheck3 a = 0) : ∀ k, k ≤ l.length → LX (pbodyK l k) (bodyTk (l.take k)) ∧ ((pbodyK l k).size = 0 ∨ SH (pbodyK l k))
  | 0, _ => ⟨LS.nil.x, Or.inl rfl⟩
  | k + 1, hk => by
    obtain ⟨ih, ih2⟩ := lx_bodyK h k (by omega)
    have ha := lx_text (h l[k] (List.getElem_mem (by omega)))
    rw [pbodyK_next (by omega), List.take_succ_eq_append_getElem (by omega)]
    generalize l[k] = a at *
    by_cases h0 : k = 0
    · subst h0
      rw [if_pos rfl]
      have e : pbodyK l 0 = ⟨#[]⟩ := rfl
      rw [e, none_app rfl, List.take_zero, List.nil_append]
      exact ⟨ls_if.appX ha, Or.inr (sh_if.app _)⟩
    · rw [if_neg h0]
      have hne : l.take k ≠ [] := fun e => by
        have := congrArg List.length e
        rw [List.length_take, List.length_nil] at this
        omega
      have := ih.appX (Or.inr (sh_com.app (ptext a))) (ls_com.appX ha)
      have e : bodyTk (l.take k ++ [a]) = bodyTk (l.take k) ++ ([kCom] ++ atomTk a) := by
        unfold bodyTk
        rw [if_neg (by simp), if_neg hne, sepA_snoc _ hne]
        rfl
      rw [e]
      refine ⟨this, Or.inr ?_⟩
      rcases ih2 with h2 | h2
      · exfalso
        have hpos : 0 < (pbodyK l k).size := by
          obtain ⟨j, rfl⟩ : ∃ j, k = j + 1 := ⟨k - 1, by omega⟩
          rw [pbodyK_next (by omega), app_size, app_size]
          have z1 : tIf.size = 4 := rfl
          have z2 : tComma.size = 2 := rfl
          split <;> omega
        omega
      · exact h2.app _
theorem lx_body {l : List Atm} (h : ∀ a ∈ l, pcheck3 a = 0) : LX (pbody l) (bodyTk l) ∧ ((pbody l).size = 0 ∨ SH (pbody l)) := by
  have := lx_bodyK h l.length (Nat.le_refl _)
  rwa [List.take_of_length_le (Nat.le_refl _)] at this
theorem all_okA {l : List Atm} (h : l.all okA = true) : ∀ a ∈ l, pcheck3 a = 0 := fun a ha => by
  rw [List.all_eq_true] at h
  exact of_decide_eq_true (h a ha)
/-! ### numbers -/
theorem dec_len : ∀ (k n : Nat), n < 10 ^ (k + 1) → (Lib.decDigits n).length ≤ k + 1
  | 0, n, h => by
    rw [Lib.decDigits, dif_pos (by simpa using h)]
    exact Nat.le_refl _
  | k + 1, n, h => by
    rw [Lib.decDigits]
    split
    · simp
    · rw [List.length_append]
      have h1 : n / 10 < 10 ^ (k + 1) := by
        rw [Nat.div_lt_iff_lt_mul (by decide)]
        rw [Nat.pow_succ] at h
        exact h
      have := dec_len k (n / 10) h1
      simp only [List.length_cons, List.length_nil]
      omega
theorem dec_num : ∀ n : Nat, numK (Lib.decDigits n) = n := fun n => by
  induction n using Nat.strongRecOn with
  | ind n ih =>
    have hd : ∀ d, d < 10 → (UInt8.ofNat (48 + d)).toNat = 48 + d := by decide
    rw [Lib.decDigits]
    split
    · rename_i h
      show (10 * 0 + (((UInt8.ofNat (48 + n)).toNat : Int) - 48)) = _
      rw [hd n h]
      omega
    · rw [numK_snoc, ih (n / 10) (by omega), hd (n % 10) (by omega)]
      omega
theorem dec_head : ∀ n : Nat, 0 < n → ∃ c r, Lib.decDigits n = c :: r ∧ c.toNat ≠ 48 := fun n => by
  induction n using Nat.strongRecOn with
  | ind n ih =>
    intro hn
    have hd : ∀ d, d < 10 → 0 < d → (UInt8.ofNat (48 + d)).toNat ≠ 48 := by decide
    rw [Lib.decDigits]
    split
    · rename_i h
      exact ⟨_, [], rfl, hd n h hn⟩
    · obtain ⟨c, r, h1, h2⟩ := ih (n / 10) (by omega) (by omega)
      rw [h1]
      exact ⟨c, r ++ [UInt8.ofNat (48 + n % 10)], rfl, h2⟩
theorem dec_ne (n : Nat) : ∃ c r, Lib.decDigits n = c :: r := by
  rcases Nat.eq_zero_or_pos n with rfl | h
  · exact ⟨_, [], by rw [Lib.decDigits, dif_pos (by decide)]⟩
  · obtain ⟨c, r, h1, _⟩ := dec_head n h
    exact ⟨c, r, h1⟩
theorem itoa_dec {n : Int} (h : 0 ≤ n) : lts (itoaB n) = Lib.decDigits n.toNat := by
  show Lib.itoa n = _
  unfold Lib.itoa
  rw [if_neg (by omega)]
theorem num_law {n : Int} (h0 : 0 ≤ n) (h1 : n ≤ 9999999) : LX (itoaB n) [itoaB n] ∧ pnum (itoaB n) = true ∧ numB (itoaB n) = n := by
  have hl := itoa_dec h0
  have hlen := dec_len 6 n.toNat (by omega)
  have hd := dec_digs n.toNat
  have hsz := lts_len (itoaB n)
  rw [hl] at hsz
  obtain ⟨c, r, hc⟩ := dec_ne n.toNat
  have hpos : 0 < (itoaB n).size := by rw [← hsz, hc]; simp
  have hcd : digB c = true := hd c (by rw [hc]; simp)
  have hhead : ∀ p : UInt8 → Bool, headB p (itoaB n) = p c := fun p => by
    unfold headB
    rw [hl, hc]
    rfl
  have hcn : (48 ≤ c.toNat ∧ c.toNat ≤ 57) := by simpa [digB] using hcd
  have hc0 : pconst0 (itoaB n) = true := by
    unfold pconst0
    rw [hhead, hl]
    simp only [Bool.and_eq_true, decide_eq_true_eq, List.all_eq_true]
    refine ⟨⟨by omega, ?_⟩, fun x hx => ?_⟩
    · have : underB c = false := decide_eq_false (by omega)
      rw [this]
      rfl
    · have := hd x hx
      unfold constB
      rw [this]
      cases lowerB x <;> rfl
  refine ⟨LX.const hc0 (pconstant_head hc0), ?_, ?_⟩
  · unfold pnum
    rw [hl, hhead]
    simp only [Bool.and_eq_true, Bool.or_eq_true, decide_eq_true_eq, List.all_eq_true]
    refine ⟨hd, size_pos hpos, by omega, ?_⟩
    rcases Nat.lt_or_ge n.toNat 10 with h | h
    · left
      have := dec_len 0 n.toNat (by omega)
      omega
    · right
      obtain ⟨c', r', h2, h3⟩ := dec_head n.toNat (by omega)
      rw [hc] at h2
      injection h2 with h2 _
      subst h2
      have : decide ((c.toNat : Int) = 48) = false := decide_eq_false (by omega)
      rw [this]
      rfl
  · unfold numB
    rw [hl, dec_num]
    omega
/-! ### clears -/
theorem join_cons (x y : ByteArray) (l : List ByteArray) (sep : ByteArray) : joinB (x :: y :: l) sep = x ++ (sep ++ joinB (y :: l) sep) := by
  apply ba_ext
  simp [joinB, Lib.join]
theorem lx_join : ∀ {l : List ByteArray}, l ≠ [] → (∀ x ∈ l, pprincipal x = true) → LX (joinB l tComma) (sepS l)
  | [], h, _ => absurd rfl h
  | [x], _, h => by
    have e : joinB [x] tComma = x := by
      apply ba_ext
      simp [joinB, Lib.join]
    rw [e]
    exact LX.prin (h x (by simp))
  | x :: y :: l, _, h => by
    have ih := lx_join (l := y :: l) (by simp) (fun z hz => h z (by simp at hz ⊢; exact Or.inr hz))
    rw [join_cons]
    exact (LX.prin (h x (by simp))).appX (Or.inr (sh_com.app _)) (ls_com.appX ih)
end Go.Proofs.YtaeehadibckcjaaDoor
namespace Go.Proofs.YtaeehadibckcjaaDoor
open Go.RowKit Go.Vs Go.Vs.Ab
set_option maxRecDepth 100000
/-! ### tokens of a policy's text -/
def prinTk (s : ByteArray) : List ByteArray := [kPrin, s, kDot]
def predTk (x : Prd) : List ByteArray := [kPred, x.name, kSl, itoaB x.ar, kDot]
def clearTk (c : Clr) : List ByteArray := kClear :: c.who :: kCol :: (sepS c.reads ++ [kDot])
def ruleTk (r : Rul) : List ByteArray := atomTk r.head ++ (bodyTk r.body ++ [kDot])
def grantTk (g : Grt) : List ByteArray := g.head.says :: kSays :: g.tw :: kCan :: (saidTk g.head ++ (bodyTk g.body ++ [kDot]))
def quotaTk (q : Int) : List ByteArray := [kQuota, itoaB q, kDot]
def budgetTk (q : Int) : List ByteArray := [kBudget, itoaB q, kDot]
def polTk (p : Pol) : List ByteArray := p.prin.flatMap prinTk ++ (p.preds.flatMap predTk ++ (p.clears.flatMap clearTk ++ ((quotaTk p.quota ++ budgetTk p.budget) ++ (p.rules.flatMap ruleTk ++ p.grants.flatMap grantTk))))
theorem ls_line {x : ByteArray} {tx : List ByteArray} (h : LX x tx) : LS ((x ++ dotB) ++ nlB) (tx ++ [kDot]) := by
  rw [ByteArray.append_assoc]
  exact h.app sh_dot ls_dot
theorem ls_lines {T : Type} {l : List T} {f : T → ByteArray} {g : T → List ByteArray} (h : ∀ x ∈ l, LS (f x ++ nlB) (g x)) : LS (linesB (l.map f)) (l.flatMap g) := by
  induction l with
  | nil => exact LS.nil
  | cons x r ih =>
    rw [List.map_cons, linesB, List.flatMap_cons]
    exact (h x (by simp)).app (ih fun y hy => h y (by simp [hy]))
theorem ls_prinL {s : ByteArray} (h : pprincipal s = true) : LS (lnOf (prPrin s) ++ nlB) (prinTk s) := by
  unfold lnOf prPrin
  rw [cat2]
  exact ls_line (ls_prin.appX (LX.prin h))
theorem ls_predL {x : Prd} (h : okPd x = true) : LS (lnOf (prPred x) ++ nlB) (predTk x) := by
  unfold okPd at h
  simp only [Bool.and_eq_true, decide_eq_true_eq] at h
  have hn := (num_law (n := x.ar) h.2.1 h.2.2).1
  unfold lnOf prPred
  have e : catB [tPred, x.name, tSl, itoaB x.ar] = tPred ++ (x.name ++ (tSl ++ itoaB x.ar)) := by
    show tPred ++ (x.name ++ (tSl ++ (itoaB x.ar ++ ⟨#[]⟩))) = _
    rw [app_e]
  rw [e]
  exact ls_line (ls_pred.appX ((LX.prin h.1).appX (Or.inr (sh_sl.app _)) (ls_sl.appX hn)))
theorem ls_clearL {c : Clr} (h : okCl c = true) : LS (lnOf (prClr c) ++ nlB) (clearTk c) := by
  unfold okCl at h
  simp only [Bool.and_eq_true, decide_eq_true_eq, List.all_eq_true] at h
  unfold lnOf prClr
  rw [cat1]
  have hne : c.reads ≠ [] := fun e => by
    have := h.2.1
    rw [e] at this
    simp at this
  unfold pClear
  rw [if_neg (by omega)]
  have e : ((tClr ++ c.who) ++ tCol) ++ (tSp ++ joinB c.reads tComma) = tClr ++ (c.who ++ (tCol ++ (tSp ++ joinB c.reads tComma))) := by simp only [ByteArray.append_assoc]
  rw [e]
  have := ls_line (ls_clear.appX ((LX.prin h.1).appX (Or.inr (sh_col.app _)) (ls_col.appX (LS.sp.appX (lx_join hne h.2.2)))))
  exact this
theorem ls_ruleL {r : Rul} (h : okRu r = true) : LS (lnOf (prRul r) ++ nlB) (ruleTk r) := by
  unfold okRu at h
  rw [Bool.and_eq_true] at h
  obtain ⟨b1, b2⟩ := lx_body (all_okA h.2)
  have ht := lx_text (of_decide_eq_true h.1)
  unfold lnOf prRul ruleTk
  rw [cat1, ← List.append_assoc]
  exact ls_line (ht.appX b2 b1)
theorem ls_grantL {g : Grt} (h : okGr g = true) : LS (lnOf (prGrt g) ++ nlB) (grantTk g) := by
  unfold okGr at h
  rw [Bool.and_eq_true, Bool.and_eq_true] at h
  obtain ⟨b1, b2⟩ := lx_body (all_okA h.2.2)
  have ha := of_decide_eq_true h.2.1
  have hs := lx_said ha
  unfold lnOf prGrt grantTk
  rw [cat1]
  unfold pGrant
  have e : catB [g.head.says, tSays, g.tw, tCan, psaid g.head] = g.head.says ++ (tSays ++ (g.tw ++ (tCan ++ psaid g.head))) := by
    show g.head.says ++ (tSays ++ (g.tw ++ (tCan ++ (psaid g.head ++ ⟨#[]⟩)))) = _
    rw [app_e]
  rw [e]
  have h1 := (LX.prin (ok_parts ha).1).appX (Or.inr (sh_says.app _)) (ls_says.appX ((LX.prin h.1).appX (Or.inr (sh_can.app _)) (ls_can.appX hs)))
  have := ls_line (h1.appX b2 b1)
  have e2 : (([g.head.says] ++ ([kSays] ++ ([g.tw] ++ ([kCan] ++ saidTk g.head)))) ++ bodyTk g.body) ++ [kDot] = g.head.says :: kSays :: g.tw :: kCan :: (saidTk g.head ++ (bodyTk g.body ++ [kDot])) := by
    simp
  rw [e2] at this
  exact this
theorem plain0_parts {p : Pol} (h : plain0 p = true) : 0 ≤ p.quota ∧ p.quota ≤ 9999999 ∧ 0 ≤ p.budget ∧ p.budget ≤ 9999999 := by
  unfold plain0 at h
  simp only [Bool.and_eq_true, decide_eq_true_eq] at h
  omega
theorem ls_policy {p : Pol} (h : plainP p = true) : LS (pPolicy p) (polTk p) := by
  obtain ⟨h0, h1, h2, h3, h4, h5⟩ := plain_parts h
  obtain ⟨q1, q2, q3, q4⟩ := plain0_parts h0
  rw [policy_lines]
  unfold linesP polTk
  simp only [lines_app]
  refine (ls_lines fun x hx => ls_prinL (h1 x hx)).app ((ls_lines fun x hx => ls_predL (h2 x hx)).app ((ls_lines fun x hx => ls_clearL (h3 x hx)).app (LS.app ?_ ((ls_lines fun x hx => ls_ruleL (h4 x hx)).app (ls_lines fun x hx => ls_grantL (h5 x hx))))))
  have e : linesB [tQuo ++ itoaB p.quota ++ dotB, tBud ++ itoaB p.budget ++ dotB] = ((tQuo ++ itoaB p.quota ++ dotB) ++ nlB) ++ ((tBud ++ itoaB p.budget ++ dotB) ++ nlB) := by
    show _ ++ (_ ++ (⟨#[]⟩ : ByteArray)) = _
    rw [app_e]
  rw [e]
  exact (ls_line (ls_quota.appX (num_law q1 q2).1)).app (ls_line (ls_budget.appX (num_law q3 q4).1))
/-! ### what the parser makes of them -/
variable {L : List Tk} {n : Int} {rest : List ByteArray}
theorem kdot_ok : ∀ (x : ByteArray) (q : List ByteArray), kDot :: rest = x :: q → x ≠ kCom ∧ x ≠ kOpen ∧ x ≠ kIf := fun x q e => by
  injection e with e _
  rw [← e]
  decide
theorem body_head {l : List Atm} : ∀ (x : ByteArray) (q : List ByteArray), bodyTk l ++ (kDot :: rest) = x :: q → x ≠ kOpen ∧ x ≠ kCan := fun x q e => by
  unfold bodyTk at e
  split at e
  · injection e with e _
    rw [← e]
    decide
  · injection e with e _
    rw [← e]
    decide
theorem step_prin {s : ByteArray} (hs : pprincipal s = true) {r : Rs} (p : Pp) (wq wb : Bool) (h : Rem L r (prinTk s ++ rest)) : ∃ r', stepF L n ⟨r, p, wq, wb⟩ = ⟨r', { p with prin := p.prin ++ [s] }, wq, wb⟩ ∧ Rem L r' rest := by
  have h : Rem L r (kPrin :: s :: kDot :: rest) := h
  have hm : mayT 0 s = true := hs
  obtain ⟨q1, q2⟩ := h.adv.next (n := n) hm
  refine ⟨_, ?_, q2.must (n := n)⟩
  unfold stepF armF
  dsimp only
  rw [h.is, decide_eq_true rfl, if_pos rfl, q1]
theorem step_pred {x : Prd} (hx : okPd x = true) {r : Rs} (p : Pp) (wq wb : Bool) (h : Rem L r (predTk x ++ rest)) : ∃ r', stepF L n ⟨r, p, wq, wb⟩ = ⟨r', { p with preds := p.preds ++ [x] }, wq, wb⟩ ∧ Rem L r' rest := by
  unfold okPd at hx
  simp only [Bool.and_eq_true, decide_eq_true_eq] at hx
  obtain ⟨_, n2, n3⟩ := num_law (n := x.ar) hx.2.1 hx.2.2
  have h : Rem L r (kPred :: x.name :: kSl :: itoaB x.ar :: kDot :: rest) := h
  have hm : mayT 1 x.name = true := hx.1
  obtain ⟨q1, q2⟩ := h.adv.next (n := n) hm
  have hm3 : mayT 3 (itoaB x.ar) = true := n2
  obtain ⟨q3, q4⟩ := (q2.must (n := n)).next (n := n) hm3
  refine ⟨_, ?_, q4.must (n := n)⟩
  unfold stepF armF
  dsimp only
  rw [h.is, h.is, show decide (kPred = kPrin) = false by decide, decide_eq_true rfl, if_neg Bool.false_ne_true, if_pos rfl, q1, q3, n3]
theorem step_clear {c : Clr} (hx : okCl c = true) {r : Rs} (p : Pp) (wq wb : Bool) (h : Rem L r (clearTk c ++ rest)) : ∃ r', stepF L n ⟨r, p, wq, wb⟩ = ⟨r', { p with clears := p.clears ++ [⟨c.who, c.reads.isEmpty, c.reads⟩] }, wq, wb⟩ ∧ Rem L r' rest := by
  unfold okCl at hx
  simp only [Bool.and_eq_true, decide_eq_true_eq, List.all_eq_true] at hx
  have hne : c.reads ≠ [] := fun e => by
    have := hx.2.1
    rw [e] at this
    simp at this
  have e : clearTk c ++ rest = kClear :: c.who :: kCol :: (sepS c.reads ++ (kDot :: rest)) := by
    unfold clearTk
    simp
  rw [e] at h
  obtain ⟨r', h1, h2⟩ := clear_law (n := n) hx.1 hne hx.2.2 (fun x q e => (kdot_ok x q e).1) h.adv
  refine ⟨_, ?_, h2.must (n := n)⟩
  unfold stepF armF
  dsimp only
  rw [h.is, h.is, h.is, show decide (kClear = kPrin) = false by decide, show decide (kClear = kPred) = false by decide, decide_eq_true rfl, if_neg Bool.false_ne_true, if_neg Bool.false_ne_true, if_pos rfl, h1]
theorem step_quota {q : Int} (h0 : 0 ≤ q) (h1 : q ≤ 9999999) {r : Rs} (p : Pp) (wb : Bool) (h : Rem L r (quotaTk q ++ rest)) : ∃ r', stepF L n ⟨r, p, false, wb⟩ = ⟨r', { p with quota := q }, true, wb⟩ ∧ Rem L r' rest := by
  obtain ⟨_, n2, n3⟩ := num_law h0 h1
  have h : Rem L r (kQuota :: itoaB q :: kDot :: rest) := h
  have hm3 : mayT 3 (itoaB q) = true := n2
  obtain ⟨q3, q4⟩ := h.adv.next (n := n) hm3
  refine ⟨_, ?_, q4.must (n := n)⟩
  unfold stepF armF onceR
  dsimp only
  rw [h.is, h.is, h.is, h.is, show decide (kQuota = kPrin) = false by decide, show decide (kQuota = kPred) = false by decide, show decide (kQuota = kClear) = false by decide, decide_eq_true rfl, if_neg Bool.false_ne_true, if_neg Bool.false_ne_true, if_neg Bool.false_ne_true, if_pos rfl, if_neg Bool.false_ne_true, q3, n3]
theorem step_budget {q : Int} (h0 : 0 ≤ q) (h1 : q ≤ 9999999) {r : Rs} (p : Pp) (wq : Bool) (h : Rem L r (budgetTk q ++ rest)) : ∃ r', stepF L n ⟨r, p, wq, false⟩ = ⟨r', { p with budget := q }, wq, true⟩ ∧ Rem L r' rest := by
  obtain ⟨_, n2, n3⟩ := num_law h0 h1
  have h : Rem L r (kBudget :: itoaB q :: kDot :: rest) := h
  have hm3 : mayT 3 (itoaB q) = true := n2
  obtain ⟨q3, q4⟩ := h.adv.next (n := n) hm3
  refine ⟨_, ?_, q4.must (n := n)⟩
  unfold stepF armF onceR
  dsimp only
  rw [h.is, h.is, h.is, h.is, h.is, show decide (kBudget = kPrin) = false by decide, show decide (kBudget = kPred) = false by decide, show decide (kBudget = kClear) = false by decide, show decide (kBudget = kQuota) = false by decide, decide_eq_true rfl, if_neg Bool.false_ne_true, if_neg Bool.false_ne_true, if_neg Bool.false_ne_true, if_neg Bool.false_ne_true, if_pos rfl, if_neg Bool.false_ne_true, q3, n3]
theorem prin_nokw {s w : ByteArray} (h : pprincipal s = true) (hw : preserved w = true) : decide (s = w) = false := decide_eq_false fun e => by
  subst e
  unfold pprincipal pconstant at h
  simp only [Bool.and_eq_true, hw] at h
  exact absurd h.1.2 (by decide)
theorem arm_says {r : Rs} {p : Pp} {wq wb : Bool} {s : ByteArray} {ts : List ByteArray} (hs : pprincipal s = true) (h : Rem L r (s :: ts)) : armF L n ⟨r, p, wq, wb⟩ = ⟨(saysF L n r p).1, (saysF L n r p).2, wq, wb⟩ := by
  unfold armF
  dsimp only
  rw [h.is, h.is, h.is, h.is, h.is, prin_nokw hs (by decide), prin_nokw hs (by decide), prin_nokw hs (by decide), prin_nokw hs (by decide), prin_nokw hs (by decide), if_neg Bool.false_ne_true, if_neg Bool.false_ne_true, if_neg Bool.false_ne_true, if_neg Bool.false_ne_true, if_neg Bool.false_ne_true]
theorem can_of {r : Rs} {t u : ByteArray} {ts : List ByteArray} (h : Rem L r (t :: u :: ts)) : canT L r = decide (u = kCan) := by
  obtain ⟨k, h1, h2, hl⟩ := h.adv.get
  unfold canT
  have h1 : L[r.i + 1]? = some k := h1
  rw [h1, decide_eq_true h.1]
  dsimp only
  rw [h2, Bool.true_and]
theorem step_rule {x : Rul} (hx : okRu x = true) {r : Rs} (p : Pp) (wq wb : Bool) (h : Rem L r (ruleTk x ++ rest)) : ∃ r', stepF L n ⟨r, p, wq, wb⟩ = ⟨r', { p with rules := p.rules ++ [⟨x.head, x.body.isEmpty, x.body⟩] }, wq, wb⟩ ∧ Rem L r' rest := by
  unfold okRu at hx
  rw [Bool.and_eq_true] at hx
  have ha := of_decide_eq_true hx.1
  have hs := (ok_parts ha).1
  have e : ruleTk x ++ rest = x.head.says :: kSays :: (saidTk x.head ++ (bodyTk x.body ++ (kDot :: rest))) := by
    unfold ruleTk atomTk
    simp
  rw [e] at h
  have hm : mayT 0 x.head.says = true := hs
  obtain ⟨q1, q2⟩ := h.next (n := n) hm
  have q3 := q2.must (n := n)
  obtain ⟨r1, h1, h2⟩ := said_law (n := n) ha x.head.says (fun y q e => (body_head y q e).1) q3
  obtain ⟨r2, h3, h4⟩ := body_law (n := n) (all_okA hx.2) kdot_ok h2
  have hcan : canT L (mustT L n (nextR L n r 0) kSays) = false := by
    have key : ∀ (t : ByteArray) (q : List ByteArray), saidTk x.head ++ (bodyTk x.body ++ (kDot :: rest)) = t :: q → ∃ u q', q = u :: q' ∧ u ≠ kCan := fun t q e => by
      unfold saidTk at e
      injection e with e1 e2
      have e2 : (if x.head.count = 0 then [] else kOpen :: (sepT (termsOf x.head) ++ [kShut])) ++ (bodyTk x.body ++ (kDot :: rest)) = q := e2
      rw [← e2]
      by_cases h0 : x.head.count = 0
      · rw [if_pos h0, List.nil_append]
        cases hb : bodyTk x.body ++ (kDot :: rest) with
        | nil =>
          have := congrArg List.length hb
          simp at this
        | cons u q' => exact ⟨u, q', rfl, (body_head u q' hb).2⟩
      · rw [if_neg h0]
        exact ⟨_, _, rfl, by decide⟩
    obtain ⟨u, q', hu, hne⟩ := key x.head.pred ((if x.head.count = 0 then [] else kOpen :: (sepT (termsOf x.head) ++ [kShut])) ++ (bodyTk x.body ++ (kDot :: rest))) rfl
    have q3' : Rem L (mustT L n (nextR L n r 0) kSays) (x.head.pred :: ((if x.head.count = 0 then [] else kOpen :: (sepT (termsOf x.head) ++ [kShut])) ++ (bodyTk x.body ++ (kDot :: rest)))) := q3
    rw [hu] at q3'
    rw [can_of q3']
    exact decide_eq_false hne
  have hsays : saysF L n r p = (r2, { p with rules := p.rules ++ [⟨x.head, x.body.isEmpty, x.body⟩] }) := by
    unfold saysF
    dsimp only
    rw [hcan, if_neg Bool.false_ne_true, q1, h1]
    dsimp only
    rw [h3]
  refine ⟨_, ?_, h4.must (n := n)⟩
  unfold stepF
  rw [arm_says hs h, hsays]
theorem step_grant {x : Grt} (hx : okGr x = true) {r : Rs} (p : Pp) (wq wb : Bool) (h : Rem L r (grantTk x ++ rest)) : ∃ r', stepF L n ⟨r, p, wq, wb⟩ = ⟨r', { p with grants := p.grants ++ [⟨x.tw, x.head, x.body.isEmpty, x.body⟩] }, wq, wb⟩ ∧ Rem L r' rest := by
  unfold okGr at hx
  rw [Bool.and_eq_true, Bool.and_eq_true] at hx
  have ha := of_decide_eq_true hx.2.1
  have hs := (ok_parts ha).1
  have e : grantTk x ++ rest = x.head.says :: kSays :: x.tw :: kCan :: (saidTk x.head ++ (bodyTk x.body ++ (kDot :: rest))) := by
    unfold grantTk
    simp
  rw [e] at h
  have hm : mayT 0 x.head.says = true := hs
  obtain ⟨q1, q2⟩ := h.next (n := n) hm
  have q3 := q2.must (n := n)
  have hcan : canT L (mustT L n (nextR L n r 0) kSays) = true := by
    rw [can_of q3]
    exact decide_eq_true rfl
  have hm2 : mayT 0 x.tw = true := hx.1
  obtain ⟨q4, q5⟩ := q3.next (n := n) hm2
  have q6 := q5.must (n := n)
  obtain ⟨r1, h1, h2⟩ := said_law (n := n) ha x.head.says (fun y q e => (body_head y q e).1) q6
  obtain ⟨r2, h3, h4⟩ := body_law (n := n) (all_okA hx.2.2) kdot_ok h2
  have hsays : saysF L n r p = (r2, { p with grants := p.grants ++ [⟨x.tw, x.head, x.body.isEmpty, x.body⟩] }) := by
    unfold saysF
    dsimp only
    rw [hcan, if_pos rfl, q1, q4, h1]
    dsimp only
    rw [h3]
  refine ⟨_, ?_, h4.must (n := n)⟩
  unfold stepF
  rw [arm_says hs h, hsays]
/-! ### all of it -/
theorem pol_go {f : Nat} {st : Pst} {t : ByteArray} {ts : List ByteArray} (h : Rem L st.r (t :: ts)) : polL L n (f + 1) st = polL L n f (stepF L n st) := by
  obtain ⟨k, _, _, hl⟩ := h.get
  rw [polL_succ, if_pos ⟨h.1, hl⟩]
theorem pol_list {T : Type} (tk : T → List ByteArray) (upd : Pp → T → Pp) {wq wb : Bool} : ∀ (l : List T) (f : Nat) (r : Rs) (p : Pp) (rest : List ByteArray), (∀ x, tk x ≠ []) → (∀ x ∈ l, ∀ (r : Rs) (p : Pp) (rest : List ByteArray), Rem L r (tk x ++ rest) → ∃ r', stepF L n ⟨r, p, wq, wb⟩ = ⟨r', upd p x, wq, wb⟩ ∧ Rem L r' rest) → l.length ≤ f → Rem L r (l.flatMap tk ++ rest) →
    ∃ r', polL L n f ⟨r, p, wq, wb⟩ = polL L n (f - l.length) ⟨r', l.foldl upd p, wq, wb⟩ ∧ Rem L r' rest
  | [], f, r, p, rest, _, _, _, h => ⟨r, rfl, h⟩
  | x :: l, 0, r, p, rest, _, _, hf, _ => absurd hf (by simp)
  | x :: l, f + 1, r, p, rest, hn, hs, hf, h => by
    rw [List.flatMap_cons, List.append_assoc] at h
    obtain ⟨r1, h1, h2⟩ := hs x (by simp) r p _ h
    obtain ⟨r', h3, h4⟩ := pol_list tk upd l f r1 (upd p x) rest hn (fun y hy => hs y (by simp [hy])) (by simp at hf; omega) h2
    refine ⟨r', ?_, h4⟩
    have hgo : polL L n (f + 1) ⟨r, p, wq, wb⟩ = polL L n f (stepF L n ⟨r, p, wq, wb⟩) := by
      cases ht : tk x with
      | nil => exact absurd ht (hn x)
      | cons t ts =>
        rw [ht] at h
        exact pol_go (st := ⟨r, p, wq, wb⟩) h
    rw [hgo, h1, h3, List.foldl_cons, List.length_cons, Nat.add_sub_add_right]
theorem flat_len {T : Type} (tk : T → List ByteArray) (hn : ∀ x, tk x ≠ []) : ∀ l : List T, l.length ≤ (l.flatMap tk).length
  | [] => Nat.le_refl _
  | x :: l => by
    have := flat_len tk hn l
    have h0 : 0 < (tk x).length := List.length_pos_iff.2 (hn x)
    rw [List.flatMap_cons, List.length_append, List.length_cons]
    omega
theorem fold_prin : ∀ (l : List ByteArray) (p : Pp), l.foldl (fun p x => { p with prin := p.prin ++ [x] }) p = { p with prin := p.prin ++ l }
  | [], p => by simp
  | x :: l, p => by rw [List.foldl_cons, fold_prin l]; simp
theorem fold_preds : ∀ (l : List Prd) (p : Pp), l.foldl (fun p x => { p with preds := p.preds ++ [x] }) p = { p with preds := p.preds ++ l }
  | [], p => by simp
  | x :: l, p => by rw [List.foldl_cons, fold_preds l]; simp
def nrmC (c : Clr) : Clr := ⟨c.who, c.reads.isEmpty, c.reads⟩
def nrmR (r : Rul) : Rul := ⟨r.head, r.body.isEmpty, r.body⟩
def nrmG (g : Grt) : Grt := ⟨g.tw, g.head, g.body.isEmpty, g.body⟩
theorem fold_clears : ∀ (l : List Clr) (p : Pp), l.foldl (fun p c => { p with clears := p.clears ++ [nrmC c] }) p = { p with clears := p.clears ++ l.map nrmC }
  | [], p => by simp
  | x :: l, p => by rw [List.foldl_cons, fold_clears l]; simp
theorem fold_rules : ∀ (l : List Rul) (p : Pp), l.foldl (fun p c => { p with rules := p.rules ++ [nrmR c] }) p = { p with rules := p.rules ++ l.map nrmR }
  | [], p => by simp
  | x :: l, p => by rw [List.foldl_cons, fold_rules l]; simp
theorem fold_grants : ∀ (l : List Grt) (p : Pp), l.foldl (fun p c => { p with grants := p.grants ++ [nrmG c] }) p = { p with grants := p.grants ++ l.map nrmG }
  | [], p => by simp
  | x :: l, p => by rw [List.foldl_cons, fold_grants l]; simp
def ppOf (p : Pol) : Pp := ⟨p.prin, p.preds, p.clears.map nrmC, p.quota, p.budget, p.rules.map nrmR, p.grants.map nrmG⟩
theorem pol_law {p : Pol} (h : plainP p = true) (hL : L.map Tk.text = polTk p) : (polS L n).p = ppOf p ∧ (polS L n).r.e = 0 := by
  obtain ⟨h0, h1, h2, h3, h4, h5⟩ := plain_parts h
  obtain ⟨q1, q2, q3, q4⟩ := plain0_parts h0
  have hn1 : ∀ x, prinTk x ≠ [] := fun x => by simp [prinTk]
  have hn2 : ∀ x, predTk x ≠ [] := fun x => by simp [predTk]
  have hn3 : ∀ x, clearTk x ≠ [] := fun x => by simp [clearTk]
  have hn4 : ∀ x, ruleTk x ≠ [] := fun x => by simp [ruleTk, atomTk]
  have hn5 : ∀ x, grantTk x ≠ [] := fun x => by simp [grantTk]
  have hlen := congrArg List.length hL
  have f1 := flat_len prinTk hn1 p.prin
  have f2 := flat_len predTk hn2 p.preds
  have f3 := flat_len clearTk hn3 p.clears
  have f4 := flat_len ruleTk hn4 p.rules
  have f5 := flat_len grantTk hn5 p.grants
  have f6 : (quotaTk p.quota ++ budgetTk p.budget).length = 6 := rfl
  unfold polTk at hlen hL
  simp only [List.length_append, List.length_map] at hlen f6
  have hr : Rem L ⟨0, 0, 0⟩ (p.prin.flatMap prinTk ++ (p.preds.flatMap predTk ++ (p.clears.flatMap clearTk ++ ((quotaTk p.quota ++ budgetTk p.budget) ++ (p.rules.flatMap ruleTk ++ p.grants.flatMap grantTk))))) := ⟨rfl, hL⟩
  obtain ⟨C, hC⟩ : ∃ C, C = p.clears.map nrmC := ⟨_, rfl⟩
  obtain ⟨r1, a1, b1⟩ := pol_list (n := n) (wq := false) (wb := false) prinTk (fun p x => { p with prin := p.prin ++ [x] }) p.prin (L.length + 1) ⟨0, 0, 0⟩ pp0 _ hn1 (fun x hx r p rest hr => step_prin (h1 x hx) p _ _ hr) (by omega) hr
  rw [fold_prin] at a1
  have a1 : polL L n (L.length + 1) ⟨⟨0, 0, 0⟩, pp0, false, false⟩ = polL L n (L.length + 1 - p.prin.length) ⟨r1, ⟨p.prin, [], [], 0, 0, [], []⟩, false, false⟩ := a1
  obtain ⟨r2, a2, b2⟩ := pol_list (n := n) (wq := false) (wb := false) predTk (fun p x => { p with preds := p.preds ++ [x] }) p.preds (L.length + 1 - p.prin.length) r1 ⟨p.prin, [], [], 0, 0, [], []⟩ _ hn2 (fun x hx r p rest hr => step_pred (h2 x hx) p _ _ hr) (by omega) b1
  rw [fold_preds] at a2
  have a2 : polL L n (L.length + 1 - p.prin.length) ⟨r1, ⟨p.prin, [], [], 0, 0, [], []⟩, false, false⟩ = polL L n (L.length + 1 - p.prin.length - p.preds.length) ⟨r2, ⟨p.prin, p.preds, [], 0, 0, [], []⟩, false, false⟩ := a2
  obtain ⟨r3, a3, b3⟩ := pol_list (n := n) (wq := false) (wb := false) clearTk (fun p x => { p with clears := p.clears ++ [nrmC x] }) p.clears (L.length + 1 - p.prin.length - p.preds.length) r2 ⟨p.prin, p.preds, [], 0, 0, [], []⟩ _ hn3 (fun x hx r p rest hr => step_clear (h3 x hx) p _ _ hr) (by omega) b2
  rw [fold_clears, ← hC] at a3
  have a3 : polL L n (L.length + 1 - p.prin.length - p.preds.length) ⟨r2, ⟨p.prin, p.preds, [], 0, 0, [], []⟩, false, false⟩ = polL L n (L.length + 1 - p.prin.length - p.preds.length - p.clears.length) ⟨r3, ⟨p.prin, p.preds, C, 0, 0, [], []⟩, false, false⟩ := a3
  rw [List.append_assoc] at b3
  obtain ⟨r4, a4, b4⟩ := step_quota (n := n) q1 q2 ⟨p.prin, p.preds, C, 0, 0, [], []⟩ false b3
  obtain ⟨r5, a5, b5⟩ := step_budget (n := n) q3 q4 ⟨p.prin, p.preds, C, p.quota, 0, [], []⟩ true b4
  obtain ⟨f, hf⟩ : ∃ f, L.length + 1 - p.prin.length - p.preds.length - p.clears.length = f + 1 + 1 := ⟨L.length + 1 - p.prin.length - p.preds.length - p.clears.length - 2, by omega⟩
  have g1 := pol_go (n := n) (f := f + 1) (st := ⟨r3, ⟨p.prin, p.preds, C, 0, 0, [], []⟩, false, false⟩) b3
  rw [a4] at g1
  have g2 := pol_go (n := n) (f := f) (st := ⟨r4, ⟨p.prin, p.preds, C, p.quota, 0, [], []⟩, true, false⟩) b4
  rw [a5] at g2
  obtain ⟨r6, a6, b6⟩ := pol_list (n := n) (wq := true) (wb := true) ruleTk (fun p x => { p with rules := p.rules ++ [nrmR x] }) p.rules f r5 ⟨p.prin, p.preds, C, p.quota, p.budget, [], []⟩ _ hn4 (fun x hx r p rest hr => step_rule (h4 x hx) p _ _ hr) (by omega) b5
  rw [fold_rules] at a6
  have a6 : polL L n f ⟨r5, ⟨p.prin, p.preds, C, p.quota, p.budget, [], []⟩, true, true⟩ = polL L n (f - p.rules.length) ⟨r6, ⟨p.prin, p.preds, C, p.quota, p.budget, p.rules.map nrmR, []⟩, true, true⟩ := a6
  have b6' : Rem L r6 (p.grants.flatMap grantTk ++ []) := by rw [List.append_nil]; exact b6
  obtain ⟨r7, a7, b7⟩ := pol_list (n := n) (wq := true) (wb := true) grantTk (fun p x => { p with grants := p.grants ++ [nrmG x] }) p.grants (f - p.rules.length) r6 ⟨p.prin, p.preds, C, p.quota, p.budget, p.rules.map nrmR, []⟩ _ hn5 (fun x hx r p rest hr => step_grant (h5 x hx) p _ _ hr) (by omega) b6'
  rw [fold_grants] at a7
  have a7 : polL L n (f - p.rules.length) ⟨r6, ⟨p.prin, p.preds, C, p.quota, p.budget, p.rules.map nrmR, []⟩, true, true⟩ = polL L n (f - p.rules.length - p.grants.length) ⟨r7, ⟨p.prin, p.preds, C, p.quota, p.budget, p.rules.map nrmR, p.grants.map nrmG⟩, true, true⟩ := a7
  have hend := polL_end L n (f - p.rules.length - p.grants.length) ⟨r7, ⟨p.prin, p.preds, C, p.quota, p.budget, p.rules.map nrmR, p.grants.map nrmG⟩, true, true⟩ (fun hc => by
    have h2 := b7.2
    rw [List.map_eq_nil_iff, List.drop_eq_nil_iff] at h2
    have := hc.2
    dsimp only at this
    omega)
  have hS : polS L n = ⟨r7, ⟨p.prin, p.preds, C, p.quota, p.budget, p.rules.map nrmR, p.grants.map nrmG⟩, true, true⟩ := by
    unfold polS
    rw [a1, a2, a3, hf]
    exact g1.trans (g2.trans (a6.trans (a7.trans hend)))
  rw [hS, hC]
  exact ⟨rfl, b7.1⟩
theorem back_law {p : Pol} (h : plainP p = true) (hz : (pPolicy p).size ≤ 65536) : polParse (pPolicy p) = (polOf (ppOf p), 0, 0) := by
  obtain ⟨h1, h2⟩ := (ls_policy h).toks hz
  obtain ⟨h3, h4⟩ := pol_law (n := (pPolicy p).size) h h2
  unfold polParse
  rw [if_neg (fun hc => hc h1), if_neg (fun hc => hc h4), h3]
end Go.Proofs.YtaeehadibckcjaaDoor
namespace Go.Proofs.YtaeehadibckcjaaDoor
open Go.RowKit Go.Vs Go.Vs.Ab
set_option maxRecDepth 100000
set_option maxHeartbeats 4000000
def prT (x : Prd) : ByteArray × Int := (x.name, x.ar)
theorem held_pd : Tryd.prog.stoodInHeld 69 = false := by kernel_rfl
theorem pv_eq_pd {d : Nat} (a b : Prd) : pureVal Tryd.prog (Op.equalIn (d + 2) 69 (.agg #[.string a.name, .int .i64 a.ar]) (.agg #[.string b.name, .int .i64 b.ar])) = some (decide (prT a = prT b)) := by
  unfold Op.equalIn
  rw [pv_bind, pv_under Tryd.underlying69]
  have p0 : ∀ s : Prd, pureVal Tryd.prog (part 9 #[.string s.name, .int .i64 s.ar] 0) = some (.string s.name) := fun s => pv_part1 Tryd.underlying9 rfl rfl
  have p1 : ∀ s : Prd, pureVal Tryd.prog (part 3 #[.string s.name, .int .i64 s.ar] 1) = some (.int .i64 s.ar) := fun s => pv_part1 Tryd.underlying3 rfl rfl
  have e0 := pv_eq_str (d := d) a.name b.name
  have e1 := pv_eq_int (d := d) a.ar b.ar
  have q0 := p0 a
  have q1 := p0 b
  have q2 := p1 a
  have q3 := p1 b
  have hd : decide (prT a = prT b) = (decide (a.name = b.name) && decide (a.ar = b.ar)) := by
    simp only [prT, Prod.mk.injEq, ← Bool.decide_and]
  rw [hd]
  generalize decide (a.name = b.name) = c0 at *
  generalize decide (a.ar = b.ar) = c1 at *
  simp only [Option.bind_some, pv_bind, pv_prog, held_pd, Bool.false_eq_true, if_false, List.forIn_toArray, List.forIn_cons, List.forIn_nil, pv_pure, pv_if, ne_eq, String.reduceEq, not_false_eq_true, if_true, q0, q1, q2, q3, e0, e1]
  cases c0 <;> cases c1 <;> simp [pv_pure, pv_bind, pv_if, q2, q3, e1]
theorem bin_nePd (x y : Operand) (s t : Prd) : pureVal Tryd.prog (do eqGuard .neq 69 x y (.agg #[.string s.name, .int .i64 s.ar]) (.agg #[.string t.name, .int .i64 t.ar]); binOp .neq 69 (.agg #[.string s.name, .int .i64 s.ar]) (.agg #[.string t.name, .int .i64 t.ar])) = some (.bool (!decide (prT s = prT t))) := by
  have hg : Tryd.prog.eqGuardType Tryd.prog.depth 69 = false := by kernel_rfl
  have h := pv_eq_pd (d := 9998) s t
  have g : pureVal Tryd.prog (eqGuard .neq 69 x y (.agg #[.string s.name, .int .i64 s.ar]) (.agg #[.string t.name, .int .i64 t.ar])) = some () := by
    simp [eqGuard, pv_bind, pv_prog, pv_pure, hg]
  rw [pv_bind, g, Option.bind_some]
  have e : binOp .neq 69 (.agg #[.string s.name, .int .i64 s.ar]) (.agg #[.string t.name, .int .i64 t.ar]) = (do pure (Value.bool (!(← Op.equal 69 (.agg #[.string s.name, .int .i64 s.ar]) (.agg #[.string t.name, .int .i64 t.ar]))))) := rfl
  rw [e, pv_bind]
  have h' : pureVal Tryd.prog (Op.equal 69 (.agg #[.string s.name, .int .i64 s.ar]) (.agg #[.string t.name, .int .i64 t.ar])) = some (decide (prT s = prT t)) := h
  rw [h']
  rfl
theorem map_take_next {A B : Type} (f : A → B) {a b : List A} {k : Nat} (ha : k < a.length) (hb : k < b.length) (h : (a.map f).take k = (b.map f).take k) (e : f a[k] = f b[k]) : (a.map f).take (k + 1) = (b.map f).take (k + 1) := by
  rw [List.take_succ_eq_append_getElem (by rw [List.length_map]; exact ha), List.take_succ_eq_append_getElem (by rw [List.length_map]; exact hb), h]
  simp [e]
theorem map_get_eq {A B : Type} {f : A → B} {a b : List A} (h : a.map f = b.map f) {k : Nat} (ha : k < a.length) (hb : k < b.length) : f a[k] = f b[k] := by
  have : (a.map f)[k]? = (b.map f)[k]? := by rw [h]
  rw [List.getElem?_map, List.getElem?_map, List.getElem?_eq_getElem ha, List.getElem?_eq_getElem hb] at this
  simpa using this
theorem map_len_eq {A B : Type} {f : A → B} {a b : List A} (h : a.map f = b.map f) : a.length = b.length := by
  have := congrArg List.length h
  simpa using this
theorem map_all_eq {A B : Type} {f : A → B} {a b : List A} (hl : a.length = b.length) (h : (a.map f).take a.length = (b.map f).take a.length) : a.map f = b.map f := by
  rw [List.take_of_length_le (by rw [List.length_map]; exact Nat.le_refl _), hl, List.take_of_length_le (by rw [List.length_map]; exact Nat.le_refl _)] at h
  exact h
theorem idxPr {ex : Bool} {l : List Prd} {k : Nat} (h : k < l.length) : aIndexAddr Tryd.prog 24 (slR prC ex l) (.c (.v (.int .i64 (k : Int)))) = some (.cptr (prC l[k] ++ (l.drop (k + 1)).flatMap prC)) :=
  idx_R prC 2 (fun _ => rfl) Tryd.underlying24 sz69 (by decide) h
theorem samePd_does (a b : List Prd) (ex ex2 : Bool) (hl : a.length ≤ 1000000) : Does Tryd.prog 40 [slR prC ex a, slR prC ex2 b] (fun m => (bA (decide (a.map prT = b.map prT)), m)) := by
  cases h1 : decide ((a.length : Int) = (b.length : Int)) with
  | false =>
    have hr : decide (a.map prT = b.map prT) = false := decide_eq_false fun e => of_decide_eq_false h1 (by rw [map_len_eq e])
    refine does_of' Tryd.func40 rfl (by kernel_rfl) rfl Tryd.ntmps40 rfl rfl fun Q hQ => ?_
    repeat (first | refine tr_seq_k fun _ _ => ?_ | (refine tr_region ?_; simp only [go_sem, reduceCtorEq, Nat.reduceEqDiff, Nat.reduceLT, Nat.reduceLeDiff, Nat.reduceAdd, Nat.reduceMul, Nat.reduceSub, Nat.reduceBEq, ↓reduceIte, h1]) | refine k_of (by assumption) ?_)
    refine tr_cond rfl (fun ht => ?_) (fun hf => ?_)
    · repeat (first | refine tr_seq_k fun _ _ => ?_ | (refine tr_region ?_; simp only [go_sem, reduceCtorEq, Nat.reduceEqDiff, Nat.reduceLT, Nat.reduceLeDiff, Nat.reduceAdd, Nat.reduceMul, Nat.reduceSub, Nat.reduceBEq, ↓reduceIte]) | refine k_of (by assumption) ?_ | (refine tr_ret ?_; try simp only [ex_seq_ret, ex_block_ret]))
      refine (hQ _ _ [bA false] ?_ (fun m => ?_)).2 <;> simp only [go_sem, reduceCtorEq, Nat.reduceEqDiff, Nat.reduceLT, Nat.reduceLeDiff, Nat.reduceAdd, Nat.reduceMul, Nat.reduceSub, Nat.reduceBEq, ↓reduceIte, Tryd.f40, hr]
    · cases hf
  | true =>
    have hlen : a.length = b.length := by
      have := of_decide_eq_true h1
      omega
    refine does_of' Tryd.func40 rfl (by kernel_rfl) rfl Tryd.ntmps40 rfl rfl fun Q hQ => ?_
    repeat (first | refine tr_seq_k fun _ _ => ?_ | (refine tr_region ?_; simp only [go_sem, reduceCtorEq, Nat.reduceEqDiff, Nat.reduceLT, Nat.reduceLeDiff, Nat.reduceAdd, Nat.reduceMul, Nat.reduceSub, Nat.reduceBEq, ↓reduceIte, h1]) | refine k_of (by assumption) ?_)
    refine tr_cond rfl (fun ht => ?_) (fun hf => ?_)
    · cases ht
    · repeat (first | refine tr_seq_k fun _ _ => ?_ | (refine tr_region ?_; simp only [go_sem, reduceCtorEq, Nat.reduceEqDiff, Nat.reduceLT, Nat.reduceLeDiff, Nat.reduceAdd, Nat.reduceMul, Nat.reduceSub, Nat.reduceBEq, ↓reduceIte]) | refine k_of (by assumption) ?_ | refine tr_block ?_ | (refine tr_skip ?_; try simp only [ex_seq, ex_block]))
      refine tr_loop_k (σ := Nat) (fun k => [(0, slR prC ex a), (1, slR prC ex2 b), (5, iA k)]) (fun _ => ⟨[], []⟩)
        (fun k => k ≤ a.length ∧ (a.map prT).take k = (b.map prT).take k) (fun k => a.length - k) 0 ⟨Nat.zero_le _, rfl⟩ ⟨rfl, rfl, rfl, trivial⟩ rfl ?_
      rintro k ⟨hk, hp⟩ K hK
      by_cases hlt : k < a.length
      · have d1 : decide ((k : Int) < (a.length : Nat)) = true := decide_eq_true (by omega)
        have hlb : k < b.length := by omega
        have ws := wrap_succ (show k ≤ 1000000000 by omega)
        have nB := fun x y => bin_nePd x y a[k] b[k]
        simp only [pv_bind] at nB
        have i1 := idxPr (ex := ex) hlt
        have i2 := idxPr (ex := ex2) hlb
        cases h2 : decide (prT a[k] = prT b[k]) with
        | false =>
          rw [h2] at nB
          have hr : decide (a.map prT = b.map prT) = false := decide_eq_false fun e => of_decide_eq_false h2 (map_get_eq e hlt hlb)
          repeat (first | refine tr_seq_k fun _ _ => ?_ | (refine tr_region ?_; simp only [go_sem, reduceCtorEq, Nat.reduceEqDiff, Nat.reduceLT, Nat.reduceLeDiff, Nat.reduceAdd, Nat.reduceMul, Nat.reduceSub, Nat.reduceBEq, ↓reduceIte, d1]) | refine k_of (by assumption) ?_)
          refine tr_cond rfl (fun ht => ?_) (fun hf => ?_)
          · repeat (first | refine tr_seq_k fun _ _ => ?_ | (refine tr_drawC (id := 6) follows 10000 (by kernel_rfl) ?_; simp only [go_sem, reduceCtorEq, Nat.reduceEqDiff, Nat.reduceLT, Nat.reduceLeDiff, Nat.reduceAdd, Nat.reduceMul, Nat.reduceSub, Nat.reduceBEq, ↓reduceIte, i1, i2, nB]) | refine k_of (by assumption) ?_ | refine tr_block ?_ | (refine tr_skip ?_; try simp only [ex_seq, ex_block]))
            refine tr_cond rfl (fun ht => ?_) (fun hf => ?_)
            · repeat (first | refine tr_seq_k fun _ _ => ?_ | (refine tr_region ?_; simp only [go_sem, reduceCtorEq, Nat.reduceEqDiff, Nat.reduceLT, Nat.reduceLeDiff, Nat.reduceAdd, Nat.reduceMul, Nat.reduceSub, Nat.reduceBEq, ↓reduceIte]) | refine k_of (by assumption) ?_ | (refine tr_ret ?_; try simp only [ex_seq_ret, ex_block_ret]))
              refine (hQ _ _ [bA false] ?_ (fun m => ?_)).2 <;> simp only [go_sem, reduceCtorEq, Nat.reduceEqDiff, Nat.reduceLT, Nat.reduceLeDiff, Nat.reduceAdd, Nat.reduceMul, Nat.reduceSub, Nat.reduceBEq, ↓reduceIte, Tryd.f40, hr]
            · cases hf
          · cases hf
        | true =>
          rw [h2] at nB
          repeat (first | refine tr_seq_k fun _ _ => ?_ | (refine tr_region ?_; simp only [go_sem, reduceCtorEq, Nat.reduceEqDiff, Nat.reduceLT, Nat.reduceLeDiff, Nat.reduceAdd, Nat.reduceMul, Nat.reduceSub, Nat.reduceBEq, ↓reduceIte, d1]) | refine k_of (by assumption) ?_)
          refine tr_cond rfl (fun ht => ?_) (fun hf => ?_)
          · repeat (first | refine tr_seq_k fun _ _ => ?_ | (refine tr_drawC (id := 6) follows 10000 (by kernel_rfl) ?_; simp only [go_sem, reduceCtorEq, Nat.reduceEqDiff, Nat.reduceLT, Nat.reduceLeDiff, Nat.reduceAdd, Nat.reduceMul, Nat.reduceSub, Nat.reduceBEq, ↓reduceIte, i1, i2, nB]) | refine k_of (by assumption) ?_ | refine tr_block ?_ | (refine tr_skip ?_; try simp only [ex_seq, ex_block]))
            refine tr_cond rfl (fun ht => ?_) (fun hf => ?_)
            · cases ht
            · repeat (first | (refine tr_region ?_; simp only [go_sem, reduceCtorEq, Nat.reduceEqDiff, Nat.reduceLT, Nat.reduceLeDiff, Nat.reduceAdd, Nat.reduceMul, Nat.reduceSub, Nat.reduceBEq, ↓reduceIte, ws]) | refine k_of (by assumption) ?_ | (refine tr_skip ?_; try simp only [ex_seq, ex_block]))
              exact hK (k + 1) _ _ ⟨hlt, map_take_next prT hlt hlb hp (of_decide_eq_true h2)⟩ ⟨⟨rfl, rfl, rfl, trivial⟩, Keep.refl _, rfl, rfl, Nat.le_refl _, Nat.le_refl _⟩ (by omega)
          · cases hf
      · have d1 : decide ((k : Int) < (a.length : Nat)) = false := decide_eq_false (by omega)
        have hkl : k = a.length := by omega
        have hr : decide (a.map prT = b.map prT) = true := decide_eq_true (map_all_eq hlen (by rw [hkl] at hp; exact hp))
        repeat (first | refine tr_seq_k fun _ _ => ?_ | (refine tr_region ?_; simp only [go_sem, reduceCtorEq, Nat.reduceEqDiff, Nat.reduceLT, Nat.reduceLeDiff, Nat.reduceAdd, Nat.reduceMul, Nat.reduceSub, Nat.reduceBEq, ↓reduceIte, d1]) | refine k_of (by assumption) ?_)
        refine tr_cond rfl (fun ht => ?_) (fun hf => ?_)
        · cases ht
        · repeat (first | refine tr_seq_k fun _ _ => ?_ | (refine tr_region ?_; simp only [go_sem, reduceCtorEq, Nat.reduceEqDiff, Nat.reduceLT, Nat.reduceLeDiff, Nat.reduceAdd, Nat.reduceMul, Nat.reduceSub, Nat.reduceBEq, ↓reduceIte]) | refine k_of (by assumption) ?_ | (refine tr_exit ?_; try simp only [ex_seq_exit, ex_block_exit, Nat.reduceEqDiff, if_true, if_false, ex_seq, ex_block, reduceCtorEq, ↓reduceIte]) | (refine tr_ret ?_; try simp only [ex_seq_ret, ex_block_ret]))
          refine (hQ _ _ [bA true] ?_ (fun m => ?_)).2 <;> simp only [go_sem, reduceCtorEq, Nat.reduceEqDiff, Nat.reduceLT, Nat.reduceLeDiff, Nat.reduceAdd, Nat.reduceMul, Nat.reduceSub, Nat.reduceBEq, ↓reduceIte, Tryd.f40, hr]
theorem sameRule_does (a b : Atm) (x y : List Atm) (ex ex2 : Bool) (hl : x.length ≤ 1000000) : Does Tryd.prog 41 [atA a, atA b, slT ex x, slT ex2 y] (fun m => (bA (decide ((a, x) = (b, y))), m)) := by
  have e := fun u v => bin_eqA' u v a b
  simp only [pv_bind] at e
  have cA := sameA_does x y ex ex2 hl
  have hd : decide ((a, x) = (b, y)) = (decide (a = b) && decide (x = y)) := by
    simp only [Prod.mk.injEq, ← Bool.decide_and]
  rw [hd]
  cases h1 : decide (a = b) with
  | false =>
    rw [h1] at e
    refine does_of' Tryd.func41 rfl (by kernel_rfl) rfl Tryd.ntmps41 rfl rfl fun Q hQ => ?_
    repeat (first | refine tr_seq_k fun _ _ => ?_ | (refine tr_region ?_; simp only [go_sem, reduceCtorEq, Nat.reduceEqDiff, Nat.reduceLT, Nat.reduceLeDiff, Nat.reduceAdd, Nat.reduceMul, Nat.reduceSub, Nat.reduceBEq, ↓reduceIte, e]) | refine k_of (by assumption) ?_ | (refine tr_ret ?_; try simp only [ex_seq_ret, ex_block_ret]))
    refine (hQ _ _ [bA false] ?_ (fun m => rfl)).2 <;> simp only [go_sem, reduceCtorEq, Nat.reduceEqDiff, Nat.reduceLT, Nat.reduceLeDiff, Nat.reduceAdd, Nat.reduceMul, Nat.reduceSub, Nat.reduceBEq, ↓reduceIte, Tryd.f41]
  | true =>
    rw [h1] at e
    cases h2 : decide (x = y)
    all_goals
      rw [h2] at cA
      refine does_of' Tryd.func41 rfl (by kernel_rfl) rfl Tryd.ntmps41 rfl rfl fun Q hQ => ?_
      repeat (first | refine tr_seq_k fun _ _ => ?_ | (refine tr_region ?_; simp only [go_sem, reduceCtorEq, Nat.reduceEqDiff, Nat.reduceLT, Nat.reduceLeDiff, Nat.reduceAdd, Nat.reduceMul, Nat.reduceSub, Nat.reduceBEq, ↓reduceIte, e]) | (refine call_of (cA) ?_ ?_; (first | rfl | simp only [go_sem, reduceCtorEq, Nat.reduceEqDiff, Nat.reduceLT, Nat.reduceLeDiff, Nat.reduceAdd, Nat.reduceMul, Nat.reduceSub, Nat.reduceBEq, ↓reduceIte, e, shut_col]); simp only [go_sem, reduceCtorEq, Nat.reduceEqDiff, Nat.reduceLT, Nat.reduceLeDiff, Nat.reduceAdd, Nat.reduceMul, Nat.reduceSub, Nat.reduceBEq, ↓reduceIte, e]) | refine k_of (by assumption) ?_ | (refine tr_ret ?_; try simp only [ex_seq_ret, ex_block_ret]))
      refine (hQ _ _ [bA _] ?_ (fun m => rfl)).2 <;> simp only [go_sem, reduceCtorEq, Nat.reduceEqDiff, Nat.reduceLT, Nat.reduceLeDiff, Nat.reduceAdd, Nat.reduceMul, Nat.reduceSub, Nat.reduceBEq, ↓reduceIte, Tryd.f41]
def clT (c : Clr) : ByteArray × List ByteArray := (c.who, c.reads)
def ruT (r : Rul) : Atm × List Atm := (r.head, r.body)
def grT (g : Grt) : ByteArray × (Atm × List Atm) := (g.tw, (g.head, g.body))
structure Dat where
  prin : List ByteArray
  preds : List (ByteArray × Int)
  quota : Int
  budget : Int
  clears : List (ByteArray × List ByteArray)
  rules : List (Atm × List Atm)
  grants : List (ByteArray × (Atm × List Atm))
  deriving DecidableEq
def dat (p : Pol) : Dat := ⟨p.prin, p.preds.map prT, p.quota, p.budget, p.clears.map clT, p.rules.map ruT, p.grants.map grT⟩
theorem dat_eq {a b : Pol} : dat a = dat b ↔ a.prin = b.prin ∧ a.preds.map prT = b.preds.map prT ∧ a.quota = b.quota ∧ a.budget = b.budget ∧ a.clears.map clT = b.clears.map clT ∧ a.rules.map ruT = b.rules.map ruT ∧ a.grants.map grT = b.grants.map grT := by
  unfold dat
  simp only [Dat.mk.injEq]
structure PolLen (p : Pol) : Prop where
  prin : p.prin.length ≤ 1000000
  preds : p.preds.length ≤ 1000000
  clears : p.clears.length ≤ 1000000 ∧ ∀ c ∈ p.clears, c.reads.length ≤ 1000000
  rules : p.rules.length ≤ 1000000 ∧ ∀ r ∈ p.rules, r.body.length ≤ 1000000
  grants : p.grants.length ≤ 1000000 ∧ ∀ g ∈ p.grants, g.body.length ≤ 1000000
theorem samePol_does (a b : Pol) (hl : PolLen a) : Does Tryd.prog 11 [poA a, poA b] (fun m => (bA (decide (dat a = dat b)), m)) := by
  have cS := sameS_does a.prin b.prin a.e1 b.e1 hl.prin
  have cP := samePd_does a.preds b.preds a.e2 b.e2 hl.preds
  cases h1 : decide (a.prin = b.prin) with
  | false =>
    rw [h1] at cS
    have hr : decide (dat a = dat b) = false := decide_eq_false (fun e => of_decide_eq_false h1 (dat_eq.1 e).1)
    refine does_of' Tryd.func11 rfl (by kernel_rfl) rfl Tryd.ntmps11 rfl rfl fun Q hQ => ?_
    repeat (first | refine tr_seq_k fun _ _ => ?_ | (refine tr_region ?_; simp only [go_sem, reduceCtorEq, Nat.reduceEqDiff, Nat.reduceLT, Nat.reduceLeDiff, Nat.reduceAdd, Nat.reduceMul, Nat.reduceSub, Nat.reduceBEq, ↓reduceIte]) | (refine call_of (cS) ?_ ?_; (first | rfl | simp only [go_sem, reduceCtorEq, Nat.reduceEqDiff, Nat.reduceLT, Nat.reduceLeDiff, Nat.reduceAdd, Nat.reduceMul, Nat.reduceSub, Nat.reduceBEq, ↓reduceIte, shut_col]); simp only [go_sem, reduceCtorEq, Nat.reduceEqDiff, Nat.reduceLT, Nat.reduceLeDiff, Nat.reduceAdd, Nat.reduceMul, Nat.reduceSub, Nat.reduceBEq, ↓reduceIte]) | refine k_of (by assumption) ?_)
    refine tr_cond rfl (fun ht => ?_) (fun hf => ?_)
    · repeat (first | refine tr_seq_k fun _ _ => ?_ | (refine tr_region ?_; simp only [go_sem, reduceCtorEq, Nat.reduceEqDiff, Nat.reduceLT, Nat.reduceLeDiff, Nat.reduceAdd, Nat.reduceMul, Nat.reduceSub, Nat.reduceBEq, ↓reduceIte]) | refine k_of (by assumption) ?_ | (refine tr_ret ?_; try simp only [ex_seq_ret, ex_block_ret]))
      refine (hQ _ _ [bA false] ?_ (fun m => ?_)).2 <;> simp only [go_sem, reduceCtorEq, Nat.reduceEqDiff, Nat.reduceLT, Nat.reduceLeDiff, Nat.reduceAdd, Nat.reduceMul, Nat.reduceSub, Nat.reduceBEq, ↓reduceIte, Tryd.f11, hr]
    · cases hf
  | true =>
    rw [h1] at cS
    cases h2 : decide (a.preds.map prT = b.preds.map prT) with
    | false =>
      rw [h2] at cP
      have hr : decide (dat a = dat b) = false := decide_eq_false (fun e => of_decide_eq_false h2 (dat_eq.1 e).2.1)
      refine does_of' Tryd.func11 rfl (by kernel_rfl) rfl Tryd.ntmps11 rfl rfl fun Q hQ => ?_
      repeat (first | refine tr_seq_k fun _ _ => ?_ | (refine tr_region ?_; simp only [go_sem, reduceCtorEq, Nat.reduceEqDiff, Nat.reduceLT, Nat.reduceLeDiff, Nat.reduceAdd, Nat.reduceMul, Nat.reduceSub, Nat.reduceBEq, ↓reduceIte]) | (refine call_of (cS) ?_ ?_; (first | rfl | simp only [go_sem, reduceCtorEq, Nat.reduceEqDiff, Nat.reduceLT, Nat.reduceLeDiff, Nat.reduceAdd, Nat.reduceMul, Nat.reduceSub, Nat.reduceBEq, ↓reduceIte, shut_col]); simp only [go_sem, reduceCtorEq, Nat.reduceEqDiff, Nat.reduceLT, Nat.reduceLeDiff, Nat.reduceAdd, Nat.reduceMul, Nat.reduceSub, Nat.reduceBEq, ↓reduceIte]) | (refine call_of (cP) ?_ ?_; (first | rfl | simp only [go_sem, reduceCtorEq, Nat.reduceEqDiff, Nat.reduceLT, Nat.reduceLeDiff, Nat.reduceAdd, Nat.reduceMul, Nat.reduceSub, Nat.reduceBEq, ↓reduceIte, shut_col]); simp only [go_sem, reduceCtorEq, Nat.reduceEqDiff, Nat.reduceLT, Nat.reduceLeDiff, Nat.reduceAdd, Nat.reduceMul, Nat.reduceSub, Nat.reduceBEq, ↓reduceIte]) | refine k_of (by assumption) ?_)
      refine tr_cond rfl (fun ht => ?_) (fun hf => ?_)
      · repeat (first | refine tr_seq_k fun _ _ => ?_ | (refine tr_region ?_; simp only [go_sem, reduceCtorEq, Nat.reduceEqDiff, Nat.reduceLT, Nat.reduceLeDiff, Nat.reduceAdd, Nat.reduceMul, Nat.reduceSub, Nat.reduceBEq, ↓reduceIte]) | refine k_of (by assumption) ?_ | (refine tr_ret ?_; try simp only [ex_seq_ret, ex_block_ret]))
        refine (hQ _ _ [bA false] ?_ (fun m => ?_)).2 <;> simp only [go_sem, reduceCtorEq, Nat.reduceEqDiff, Nat.reduceLT, Nat.reduceLeDiff, Nat.reduceAdd, Nat.reduceMul, Nat.reduceSub, Nat.reduceBEq, ↓reduceIte, Tryd.f11, hr]
      · cases hf
    | true =>
      rw [h2] at cP
      cases h3 : decide (a.quota = b.quota) with
      | false =>
        have hr : decide (dat a = dat b) = false := decide_eq_false (fun e => of_decide_eq_false h3 (dat_eq.1 e).2.2.1)
        refine does_of' Tryd.func11 rfl (by kernel_rfl) rfl Tryd.ntmps11 rfl rfl fun Q hQ => ?_
        repeat (first | refine tr_seq_k fun _ _ => ?_ | (refine tr_region ?_; simp only [go_sem, reduceCtorEq, Nat.reduceEqDiff, Nat.reduceLT, Nat.reduceLeDiff, Nat.reduceAdd, Nat.reduceMul, Nat.reduceSub, Nat.reduceBEq, ↓reduceIte, h3]) | (refine call_of (cS) ?_ ?_; (first | rfl | simp only [go_sem, reduceCtorEq, Nat.reduceEqDiff, Nat.reduceLT, Nat.reduceLeDiff, Nat.reduceAdd, Nat.reduceMul, Nat.reduceSub, Nat.reduceBEq, ↓reduceIte, h3, shut_col]); simp only [go_sem, reduceCtorEq, Nat.reduceEqDiff, Nat.reduceLT, Nat.reduceLeDiff, Nat.reduceAdd, Nat.reduceMul, Nat.reduceSub, Nat.reduceBEq, ↓reduceIte, h3]) | (refine call_of (cP) ?_ ?_; (first | rfl | simp only [go_sem, reduceCtorEq, Nat.reduceEqDiff, Nat.reduceLT, Nat.reduceLeDiff, Nat.reduceAdd, Nat.reduceMul, Nat.reduceSub, Nat.reduceBEq, ↓reduceIte, h3, shut_col]); simp only [go_sem, reduceCtorEq, Nat.reduceEqDiff, Nat.reduceLT, Nat.reduceLeDiff, Nat.reduceAdd, Nat.reduceMul, Nat.reduceSub, Nat.reduceBEq, ↓reduceIte, h3]) | refine k_of (by assumption) ?_)
        refine tr_cond rfl (fun ht => ?_) (fun hf => ?_)
        · repeat (first | refine tr_seq_k fun _ _ => ?_ | (refine tr_region ?_; simp only [go_sem, reduceCtorEq, Nat.reduceEqDiff, Nat.reduceLT, Nat.reduceLeDiff, Nat.reduceAdd, Nat.reduceMul, Nat.reduceSub, Nat.reduceBEq, ↓reduceIte]) | refine k_of (by assumption) ?_ | (refine tr_ret ?_; try simp only [ex_seq_ret, ex_block_ret]))
          refine (hQ _ _ [bA false] ?_ (fun m => ?_)).2 <;> simp only [go_sem, reduceCtorEq, Nat.reduceEqDiff, Nat.reduceLT, Nat.reduceLeDiff, Nat.reduceAdd, Nat.reduceMul, Nat.reduceSub, Nat.reduceBEq, ↓reduceIte, Tryd.f11, hr]
        · cases hf
      | true =>
        cases h4 : decide (a.budget = b.budget) with
        | false =>
          have hr : decide (dat a = dat b) = false := decide_eq_false (fun e => of_decide_eq_false h4 (dat_eq.1 e).2.2.2.1)
          refine does_of' Tryd.func11 rfl (by kernel_rfl) rfl Tryd.ntmps11 rfl rfl fun Q hQ => ?_
          repeat (first | refine tr_seq_k fun _ _ => ?_ | (refine tr_region ?_; simp only [go_sem, reduceCtorEq, Nat.reduceEqDiff, Nat.reduceLT, Nat.reduceLeDiff, Nat.reduceAdd, Nat.reduceMul, Nat.reduceSub, Nat.reduceBEq, ↓reduceIte, h3, h4]) | (refine call_of (cS) ?_ ?_; (first | rfl | simp only [go_sem, reduceCtorEq, Nat.reduceEqDiff, Nat.reduceLT, Nat.reduceLeDiff, Nat.reduceAdd, Nat.reduceMul, Nat.reduceSub, Nat.reduceBEq, ↓reduceIte, h3, h4, shut_col]); simp only [go_sem, reduceCtorEq, Nat.reduceEqDiff, Nat.reduceLT, Nat.reduceLeDiff, Nat.reduceAdd, Nat.reduceMul, Nat.reduceSub, Nat.reduceBEq, ↓reduceIte, h3, h4]) | (refine call_of (cP) ?_ ?_; (first | rfl | simp only [go_sem, reduceCtorEq, Nat.reduceEqDiff, Nat.reduceLT, Nat.reduceLeDiff, Nat.reduceAdd, Nat.reduceMul, Nat.reduceSub, Nat.reduceBEq, ↓reduceIte, h3, h4, shut_col]); simp only [go_sem, reduceCtorEq, Nat.reduceEqDiff, Nat.reduceLT, Nat.reduceLeDiff, Nat.reduceAdd, Nat.reduceMul, Nat.reduceSub, Nat.reduceBEq, ↓reduceIte, h3, h4]) | refine k_of (by assumption) ?_)
          refine tr_cond rfl (fun ht => ?_) (fun hf => ?_)
          · repeat (first | refine tr_seq_k fun _ _ => ?_ | (refine tr_region ?_; simp only [go_sem, reduceCtorEq, Nat.reduceEqDiff, Nat.reduceLT, Nat.reduceLeDiff, Nat.reduceAdd, Nat.reduceMul, Nat.reduceSub, Nat.reduceBEq, ↓reduceIte]) | refine k_of (by assumption) ?_ | (refine tr_ret ?_; try simp only [ex_seq_ret, ex_block_ret]))
            refine (hQ _ _ [bA false] ?_ (fun m => ?_)).2 <;> simp only [go_sem, reduceCtorEq, Nat.reduceEqDiff, Nat.reduceLT, Nat.reduceLeDiff, Nat.reduceAdd, Nat.reduceMul, Nat.reduceSub, Nat.reduceBEq, ↓reduceIte, Tryd.f11, hr]
          · cases hf
        | true =>
          cases h5 : decide ((a.clears.length : Int) = (b.clears.length : Nat)) with
          | false =>
            have hr : decide (dat a = dat b) = false := decide_eq_false (fun e => of_decide_eq_false h5 (by rw [map_len_eq (dat_eq.1 e).2.2.2.2.1]))
            refine does_of' Tryd.func11 rfl (by kernel_rfl) rfl Tryd.ntmps11 rfl rfl fun Q hQ => ?_
            repeat (first | refine tr_seq_k fun _ _ => ?_ | (refine tr_region ?_; simp only [go_sem, reduceCtorEq, Nat.reduceEqDiff, Nat.reduceLT, Nat.reduceLeDiff, Nat.reduceAdd, Nat.reduceMul, Nat.reduceSub, Nat.reduceBEq, ↓reduceIte, h3, h4, h5]) | (refine call_of (cS) ?_ ?_; (first | rfl | simp only [go_sem, reduceCtorEq, Nat.reduceEqDiff, Nat.reduceLT, Nat.reduceLeDiff, Nat.reduceAdd, Nat.reduceMul, Nat.reduceSub, Nat.reduceBEq, ↓reduceIte, h3, h4, h5, shut_col]); simp only [go_sem, reduceCtorEq, Nat.reduceEqDiff, Nat.reduceLT, Nat.reduceLeDiff, Nat.reduceAdd, Nat.reduceMul, Nat.reduceSub, Nat.reduceBEq, ↓reduceIte, h3, h4, h5]) | (refine call_of (cP) ?_ ?_; (first | rfl | simp only [go_sem, reduceCtorEq, Nat.reduceEqDiff, Nat.reduceLT, Nat.reduceLeDiff, Nat.reduceAdd, Nat.reduceMul, Nat.reduceSub, Nat.reduceBEq, ↓reduceIte, h3, h4, h5, shut_col]); simp only [go_sem, reduceCtorEq, Nat.reduceEqDiff, Nat.reduceLT, Nat.reduceLeDiff, Nat.reduceAdd, Nat.reduceMul, Nat.reduceSub, Nat.reduceBEq, ↓reduceIte, h3, h4, h5]) | refine k_of (by assumption) ?_)
            refine tr_cond rfl (fun ht => ?_) (fun hf => ?_)
            · repeat (first | refine tr_seq_k fun _ _ => ?_ | (refine tr_region ?_; simp only [go_sem, reduceCtorEq, Nat.reduceEqDiff, Nat.reduceLT, Nat.reduceLeDiff, Nat.reduceAdd, Nat.reduceMul, Nat.reduceSub, Nat.reduceBEq, ↓reduceIte]) | refine k_of (by assumption) ?_ | (refine tr_ret ?_; try simp only [ex_seq_ret, ex_block_ret]))
              refine (hQ _ _ [bA false] ?_ (fun m => ?_)).2 <;> simp only [go_sem, reduceCtorEq, Nat.reduceEqDiff, Nat.reduceLT, Nat.reduceLeDiff, Nat.reduceAdd, Nat.reduceMul, Nat.reduceSub, Nat.reduceBEq, ↓reduceIte, Tryd.f11, hr]
            · cases hf
          | true =>
            cases h6 : decide ((a.rules.length : Int) = (b.rules.length : Nat)) with
            | false =>
              have hr : decide (dat a = dat b) = false := decide_eq_false (fun e => of_decide_eq_false h6 (by rw [map_len_eq (dat_eq.1 e).2.2.2.2.2.1]))
              refine does_of' Tryd.func11 rfl (by kernel_rfl) rfl Tryd.ntmps11 rfl rfl fun Q hQ => ?_
              repeat (first | refine tr_seq_k fun _ _ => ?_ | (refine tr_region ?_; simp only [go_sem, reduceCtorEq, Nat.reduceEqDiff, Nat.reduceLT, Nat.reduceLeDiff, Nat.reduceAdd, Nat.reduceMul, Nat.reduceSub, Nat.reduceBEq, ↓reduceIte, h3, h4, h5, h6]) | (refine call_of (cS) ?_ ?_; (first | rfl | simp only [go_sem, reduceCtorEq, Nat.reduceEqDiff, Nat.reduceLT, Nat.reduceLeDiff, Nat.reduceAdd, Nat.reduceMul, Nat.reduceSub, Nat.reduceBEq, ↓reduceIte, h3, h4, h5, h6, shut_col]); simp only [go_sem, reduceCtorEq, Nat.reduceEqDiff, Nat.reduceLT, Nat.reduceLeDiff, Nat.reduceAdd, Nat.reduceMul, Nat.reduceSub, Nat.reduceBEq, ↓reduceIte, h3, h4, h5, h6]) | (refine call_of (cP) ?_ ?_; (first | rfl | simp only [go_sem, reduceCtorEq, Nat.reduceEqDiff, Nat.reduceLT, Nat.reduceLeDiff, Nat.reduceAdd, Nat.reduceMul, Nat.reduceSub, Nat.reduceBEq, ↓reduceIte, h3, h4, h5, h6, shut_col]); simp only [go_sem, reduceCtorEq, Nat.reduceEqDiff, Nat.reduceLT, Nat.reduceLeDiff, Nat.reduceAdd, Nat.reduceMul, Nat.reduceSub, Nat.reduceBEq, ↓reduceIte, h3, h4, h5, h6]) | refine k_of (by assumption) ?_)
              refine tr_cond rfl (fun ht => ?_) (fun hf => ?_)
              · repeat (first | refine tr_seq_k fun _ _ => ?_ | (refine tr_region ?_; simp only [go_sem, reduceCtorEq, Nat.reduceEqDiff, Nat.reduceLT, Nat.reduceLeDiff, Nat.reduceAdd, Nat.reduceMul, Nat.reduceSub, Nat.reduceBEq, ↓reduceIte]) | refine k_of (by assumption) ?_ | (refine tr_ret ?_; try simp only [ex_seq_ret, ex_block_ret]))
                refine (hQ _ _ [bA false] ?_ (fun m => ?_)).2 <;> simp only [go_sem, reduceCtorEq, Nat.reduceEqDiff, Nat.reduceLT, Nat.reduceLeDiff, Nat.reduceAdd, Nat.reduceMul, Nat.reduceSub, Nat.reduceBEq, ↓reduceIte, Tryd.f11, hr]
              · cases hf
            | true =>
              cases h7 : decide ((a.grants.length : Int) = (b.grants.length : Nat)) with
              | false =>
                have hr : decide (dat a = dat b) = false := decide_eq_false (fun e => of_decide_eq_false h7 (by rw [map_len_eq (dat_eq.1 e).2.2.2.2.2.2]))
                refine does_of' Tryd.func11 rfl (by kernel_rfl) rfl Tryd.ntmps11 rfl rfl fun Q hQ => ?_
                repeat (first | refine tr_seq_k fun _ _ => ?_ | (refine tr_region ?_; simp only [go_sem, reduceCtorEq, Nat.reduceEqDiff, Nat.reduceLT, Nat.reduceLeDiff, Nat.reduceAdd, Nat.reduceMul, Nat.reduceSub, Nat.reduceBEq, ↓reduceIte, h3, h4, h5, h6, h7]) | (refine call_of (cS) ?_ ?_; (first | rfl | simp only [go_sem, reduceCtorEq, Nat.reduceEqDiff, Nat.reduceLT, Nat.reduceLeDiff, Nat.reduceAdd, Nat.reduceMul, Nat.reduceSub, Nat.reduceBEq, ↓reduceIte, h3, h4, h5, h6, h7, shut_col]); simp only [go_sem, reduceCtorEq, Nat.reduceEqDiff, Nat.reduceLT, Nat.reduceLeDiff, Nat.reduceAdd, Nat.reduceMul, Nat.reduceSub, Nat.reduceBEq, ↓reduceIte, h3, h4, h5, h6, h7]) | (refine call_of (cP) ?_ ?_; (first | rfl | simp only [go_sem, reduceCtorEq, Nat.reduceEqDiff, Nat.reduceLT, Nat.reduceLeDiff, Nat.reduceAdd, Nat.reduceMul, Nat.reduceSub, Nat.reduceBEq, ↓reduceIte, h3, h4, h5, h6, h7, shut_col]); simp only [go_sem, reduceCtorEq, Nat.reduceEqDiff, Nat.reduceLT, Nat.reduceLeDiff, Nat.reduceAdd, Nat.reduceMul, Nat.reduceSub, Nat.reduceBEq, ↓reduceIte, h3, h4, h5, h6, h7]) | refine k_of (by assumption) ?_)
                refine tr_cond rfl (fun ht => ?_) (fun hf => ?_)
                · repeat (first | refine tr_seq_k fun _ _ => ?_ | (refine tr_region ?_; simp only [go_sem, reduceCtorEq, Nat.reduceEqDiff, Nat.reduceLT, Nat.reduceLeDiff, Nat.reduceAdd, Nat.reduceMul, Nat.reduceSub, Nat.reduceBEq, ↓reduceIte]) | refine k_of (by assumption) ?_ | (refine tr_ret ?_; try simp only [ex_seq_ret, ex_block_ret]))
                  refine (hQ _ _ [bA false] ?_ (fun m => ?_)).2 <;> simp only [go_sem, reduceCtorEq, Nat.reduceEqDiff, Nat.reduceLT, Nat.reduceLeDiff, Nat.reduceAdd, Nat.reduceMul, Nat.reduceSub, Nat.reduceBEq, ↓reduceIte, Tryd.f11, hr]
                · cases hf
              | true =>
                have l5 : a.clears.length = b.clears.length := by have := of_decide_eq_true h5; omega
                have l6 : a.rules.length = b.rules.length := by have := of_decide_eq_true h6; omega
                have l7 : a.grants.length = b.grants.length := by have := of_decide_eq_true h7; omega
                refine does_of' Tryd.func11 rfl (by kernel_rfl) rfl Tryd.ntmps11 rfl rfl fun Q hQ => ?_
                repeat (first | refine tr_seq_k fun _ _ => ?_ | (refine tr_region ?_; simp only [go_sem, reduceCtorEq, Nat.reduceEqDiff, Nat.reduceLT, Nat.reduceLeDiff, Nat.reduceAdd, Nat.reduceMul, Nat.reduceSub, Nat.reduceBEq, ↓reduceIte, h3, h4, h5, h6, h7]) | (refine call_of (cS) ?_ ?_; (first | rfl | simp only [go_sem, reduceCtorEq, Nat.reduceEqDiff, Nat.reduceLT, Nat.reduceLeDiff, Nat.reduceAdd, Nat.reduceMul, Nat.reduceSub, Nat.reduceBEq, ↓reduceIte, h3, h4, h5, h6, h7, shut_col]); simp only [go_sem, reduceCtorEq, Nat.reduceEqDiff, Nat.reduceLT, Nat.reduceLeDiff, Nat.reduceAdd, Nat.reduceMul, Nat.reduceSub, Nat.reduceBEq, ↓reduceIte, h3, h4, h5, h6, h7]) | (refine call_of (cP) ?_ ?_; (first | rfl | simp only [go_sem, reduceCtorEq, Nat.reduceEqDiff, Nat.reduceLT, Nat.reduceLeDiff, Nat.reduceAdd, Nat.reduceMul, Nat.reduceSub, Nat.reduceBEq, ↓reduceIte, h3, h4, h5, h6, h7, shut_col]); simp only [go_sem, reduceCtorEq, Nat.reduceEqDiff, Nat.reduceLT, Nat.reduceLeDiff, Nat.reduceAdd, Nat.reduceMul, Nat.reduceSub, Nat.reduceBEq, ↓reduceIte, h3, h4, h5, h6, h7]) | refine k_of (by assumption) ?_)
                refine tr_cond rfl (fun ht => ?_) (fun hf => ?_)
                · cases ht
                repeat (first | refine tr_seq_k fun _ _ => ?_ | (refine tr_region ?_; simp only [go_sem, reduceCtorEq, Nat.reduceEqDiff, Nat.reduceLT, Nat.reduceLeDiff, Nat.reduceAdd, Nat.reduceMul, Nat.reduceSub, Nat.reduceBEq, ↓reduceIte]) | refine k_of (by assumption) ?_ | refine tr_block ?_ | (refine tr_skip ?_; try simp only [ex_seq, ex_block]))
                refine tr_loop_k (σ := Nat) (fun k => [(2, .ptr 0 0), (3, .ptr 1 0), (5, iA k)]) (fun _ => ⟨[⟨false, [.c (slC stC a.e1 a.prin), .c (slC prC a.e2 a.preds), .c (slC clC a.e3 a.clears), iA a.quota, iA a.budget, .c (slC ruC a.e4 a.rules), .c (slC grC a.e5 a.grants)]⟩, ⟨false, [.c (slC stC b.e1 b.prin), .c (slC prC b.e2 b.preds), .c (slC clC b.e3 b.clears), iA b.quota, iA b.budget, .c (slC ruC b.e4 b.rules), .c (slC grC b.e5 b.grants)]⟩], []⟩) (fun k => k ≤ a.clears.length ∧ (a.clears.map clT).take k = (b.clears.map clT).take k) (fun k => a.clears.length - k) 0 ⟨Nat.zero_le _, rfl⟩ ⟨rfl, rfl, rfl, trivial⟩ rfl ?_
                rintro k ⟨hk, hp⟩ K hK
                by_cases hlt : k < a.clears.length
                · have d1 : decide ((k : Int) < (a.clears.length : Nat)) = true := decide_eq_true (by omega)
                  have hlb : k < b.clears.length := by omega
                  have ws := wrap_succ (show k ≤ 1000000000 by have := hl.clears.1; omega)
                  have i1 := idxC (ex := a.e3) hlt
                  have i2 := idxC (ex := b.e3) hlb
                  have hx := hl.clears.2 a.clears[k] (List.getElem_mem hlt)
                  have hg := fun e => map_get_eq (f := clT) (dat_eq.1 e).2.2.2.2.1 hlt hlb
                  have hn := map_take_next clT hlt hlb hp
                  generalize a.clears[k] = x at *
                  generalize b.clears[k] = y at *
                  have c1 := sameS_does x.reads y.reads x.ex y.ex hx
                  cases g1 : decide (x.who = y.who) with
                  | false =>
                    have hr : decide (dat a = dat b) = false := decide_eq_false fun e => of_decide_eq_false g1 (congrArg Prod.fst (hg e))
                    repeat (first | refine tr_seq_k fun _ _ => ?_ | (refine tr_region ?_; simp only [go_sem, reduceCtorEq, Nat.reduceEqDiff, Nat.reduceLT, Nat.reduceLeDiff, Nat.reduceAdd, Nat.reduceMul, Nat.reduceSub, Nat.reduceBEq, ↓reduceIte, d1]) | refine k_of (by assumption) ?_)
                    refine tr_cond rfl (fun ht => ?_) (fun hf => ?_)
                    · repeat (first | refine tr_seq_k fun _ _ => ?_ | (refine tr_draw (id := 6) follows 10000 [26] [0, 1, 2, 3, 4, 5, 6, 7, 8, 9, 10, 11, 12, 13, 14, 15, 16, 17, 18, 19, 20, 21, 22, 23, 24, 25, 26, 27, 28] (by kernel_rfl) ?_; simp only [go_sem, reduceCtorEq, Nat.reduceEqDiff, Nat.reduceLT, Nat.reduceLeDiff, Nat.reduceAdd, Nat.reduceMul, Nat.reduceSub, Nat.reduceBEq, ↓reduceIte, i1, i2, g1]) | refine k_of (by assumption) ?_ | refine tr_block ?_ | (refine tr_skip ?_; try simp only [ex_seq, ex_block]))
                      refine tr_cond rfl (fun ht => ?_) (fun hf => ?_)
                      · repeat (first | refine tr_seq_k fun _ _ => ?_ | (refine tr_region ?_; simp only [go_sem, reduceCtorEq, Nat.reduceEqDiff, Nat.reduceLT, Nat.reduceLeDiff, Nat.reduceAdd, Nat.reduceMul, Nat.reduceSub, Nat.reduceBEq, ↓reduceIte]) | refine k_of (by assumption) ?_ | (refine tr_ret ?_; try simp only [ex_seq_ret, ex_block_ret]))
                        refine (hQ _ _ [bA false] ?_ (fun m => ?_)).2 <;> simp only [go_sem, reduceCtorEq, Nat.reduceEqDiff, Nat.reduceLT, Nat.reduceLeDiff, Nat.reduceAdd, Nat.reduceMul, Nat.reduceSub, Nat.reduceBEq, ↓reduceIte, Tryd.f11, hr]
                      · cases hf
                    · cases hf
                  | true =>
                    cases g2 : decide (x.reads = y.reads) with
                    | false =>
                      rw [g2] at c1
                      have hr : decide (dat a = dat b) = false := decide_eq_false fun e => of_decide_eq_false g2 (congrArg Prod.snd (hg e))
                      repeat (first | refine tr_seq_k fun _ _ => ?_ | (refine tr_region ?_; simp only [go_sem, reduceCtorEq, Nat.reduceEqDiff, Nat.reduceLT, Nat.reduceLeDiff, Nat.reduceAdd, Nat.reduceMul, Nat.reduceSub, Nat.reduceBEq, ↓reduceIte, d1]) | refine k_of (by assumption) ?_)
                      refine tr_cond rfl (fun ht => ?_) (fun hf => ?_)
                      · repeat (first | refine tr_seq_k fun _ _ => ?_ | (refine tr_draw (id := 6) follows 10000 [26] [0, 1, 2, 3, 4, 5, 6, 7, 8, 9, 10, 11, 12, 13, 14, 15, 16, 17, 18, 19, 20, 21, 22, 23, 24, 25, 26, 27, 28] (by kernel_rfl) ?_; simp only [go_sem, reduceCtorEq, Nat.reduceEqDiff, Nat.reduceLT, Nat.reduceLeDiff, Nat.reduceAdd, Nat.reduceMul, Nat.reduceSub, Nat.reduceBEq, ↓reduceIte, i1, i2, g1]) | (refine call_of (c1) ?_ ?_; (first | rfl | simp only [go_sem, reduceCtorEq, Nat.reduceEqDiff, Nat.reduceLT, Nat.reduceLeDiff, Nat.reduceAdd, Nat.reduceMul, Nat.reduceSub, Nat.reduceBEq, ↓reduceIte, i1, i2, g1, shut_col]); simp only [go_sem, reduceCtorEq, Nat.reduceEqDiff, Nat.reduceLT, Nat.reduceLeDiff, Nat.reduceAdd, Nat.reduceMul, Nat.reduceSub, Nat.reduceBEq, ↓reduceIte, i1, i2, g1]) | refine k_of (by assumption) ?_ | refine tr_block ?_ | (refine tr_skip ?_; try simp only [ex_seq, ex_block]))
                        refine tr_cond rfl (fun ht => ?_) (fun hf => ?_)
                        · repeat (first | refine tr_seq_k fun _ _ => ?_ | (refine tr_region ?_; simp only [go_sem, reduceCtorEq, Nat.reduceEqDiff, Nat.reduceLT, Nat.reduceLeDiff, Nat.reduceAdd, Nat.reduceMul, Nat.reduceSub, Nat.reduceBEq, ↓reduceIte]) | refine k_of (by assumption) ?_ | (refine tr_ret ?_; try simp only [ex_seq_ret, ex_block_ret]))
                          refine (hQ _ _ [bA false] ?_ (fun m => ?_)).2 <;> simp only [go_sem, reduceCtorEq, Nat.reduceEqDiff, Nat.reduceLT, Nat.reduceLeDiff, Nat.reduceAdd, Nat.reduceMul, Nat.reduceSub, Nat.reduceBEq, ↓reduceIte, Tryd.f11, hr]
                        · cases hf
                      · cases hf
                    | true =>
                      rw [g2] at c1
                      repeat (first | refine tr_seq_k fun _ _ => ?_ | (refine tr_region ?_; simp only [go_sem, reduceCtorEq, Nat.reduceEqDiff, Nat.reduceLT, Nat.reduceLeDiff, Nat.reduceAdd, Nat.reduceMul, Nat.reduceSub, Nat.reduceBEq, ↓reduceIte, d1]) | refine k_of (by assumption) ?_)
                      refine tr_cond rfl (fun ht => ?_) (fun hf => ?_)
                      · repeat (first | refine tr_seq_k fun _ _ => ?_ | (refine tr_draw (id := 6) follows 10000 [26] [0, 1, 2, 3, 4, 5, 6, 7, 8, 9, 10, 11, 12, 13, 14, 15, 16, 17, 18, 19, 20, 21, 22, 23, 24, 25, 26, 27, 28] (by kernel_rfl) ?_; simp only [go_sem, reduceCtorEq, Nat.reduceEqDiff, Nat.reduceLT, Nat.reduceLeDiff, Nat.reduceAdd, Nat.reduceMul, Nat.reduceSub, Nat.reduceBEq, ↓reduceIte, i1, i2, g1]) | (refine call_of (c1) ?_ ?_; (first | rfl | simp only [go_sem, reduceCtorEq, Nat.reduceEqDiff, Nat.reduceLT, Nat.reduceLeDiff, Nat.reduceAdd, Nat.reduceMul, Nat.reduceSub, Nat.reduceBEq, ↓reduceIte, i1, i2, g1, shut_col]); simp only [go_sem, reduceCtorEq, Nat.reduceEqDiff, Nat.reduceLT, Nat.reduceLeDiff, Nat.reduceAdd, Nat.reduceMul, Nat.reduceSub, Nat.reduceBEq, ↓reduceIte, i1, i2, g1]) | refine k_of (by assumption) ?_ | refine tr_block ?_ | (refine tr_skip ?_; try simp only [ex_seq, ex_block]))
                        refine tr_cond rfl (fun ht => ?_) (fun hf => ?_)
                        · cases ht
                        · repeat (first | (refine tr_region ?_; simp only [go_sem, reduceCtorEq, Nat.reduceEqDiff, Nat.reduceLT, Nat.reduceLeDiff, Nat.reduceAdd, Nat.reduceMul, Nat.reduceSub, Nat.reduceBEq, ↓reduceIte, ws]) | refine k_of (by assumption) ?_ | (refine tr_skip ?_; try simp only [ex_seq, ex_block]))
                          exact hK (k + 1) _ _ ⟨hlt, hn (by show (x.who, x.reads) = (y.who, y.reads); rw [of_decide_eq_true g1, of_decide_eq_true g2])⟩ ⟨⟨rfl, rfl, rfl, trivial⟩, Keep.refl _, rfl, rfl, Nat.le_refl _, Nat.le_refl _⟩ (by omega)
                      · cases hf
                · have d1 : decide ((k : Int) < (a.clears.length : Nat)) = false := decide_eq_false (by omega)
                  have hkl : k = a.clears.length := by omega
                  have r_clears : a.clears.map clT = b.clears.map clT := map_all_eq (by omega) (by rw [hkl] at hp; exact hp)
                  repeat (first | refine tr_seq_k fun _ _ => ?_ | (refine tr_region ?_; simp only [go_sem, reduceCtorEq, Nat.reduceEqDiff, Nat.reduceLT, Nat.reduceLeDiff, Nat.reduceAdd, Nat.reduceMul, Nat.reduceSub, Nat.reduceBEq, ↓reduceIte, d1]) | refine k_of (by assumption) ?_)
                  refine tr_cond rfl (fun ht => ?_) (fun hf => ?_)
                  · cases ht
                  · repeat (first | refine tr_seq_k fun _ _ => ?_ | (refine tr_region ?_; simp only [go_sem, reduceCtorEq, Nat.reduceEqDiff, Nat.reduceLT, Nat.reduceLeDiff, Nat.reduceAdd, Nat.reduceMul, Nat.reduceSub, Nat.reduceBEq, ↓reduceIte]) | refine k_of (by assumption) ?_ | refine tr_block ?_ | (refine tr_exit ?_; try simp only [ex_seq_exit, ex_block_exit, Nat.reduceEqDiff, if_true, if_false, ex_seq, ex_block, reduceCtorEq, ↓reduceIte]))
                    refine tr_loop_k (σ := Nat) (fun k => [(2, .ptr 0 0), (3, .ptr 1 0), (6, iA k)]) (fun _ => ⟨[⟨false, [.c (slC stC a.e1 a.prin), .c (slC prC a.e2 a.preds), .c (slC clC a.e3 a.clears), iA a.quota, iA a.budget, .c (slC ruC a.e4 a.rules), .c (slC grC a.e5 a.grants)]⟩, ⟨false, [.c (slC stC b.e1 b.prin), .c (slC prC b.e2 b.preds), .c (slC clC b.e3 b.clears), iA b.quota, iA b.budget, .c (slC ruC b.e4 b.rules), .c (slC grC b.e5 b.grants)]⟩], []⟩) (fun k => k ≤ a.rules.length ∧ (a.rules.map ruT).take k = (b.rules.map ruT).take k) (fun k => a.rules.length - k) 0 ⟨Nat.zero_le _, rfl⟩ ⟨rfl, rfl, rfl, trivial⟩ rfl ?_
                    rintro k ⟨hk, hp⟩ K hK
                    by_cases hlt : k < a.rules.length
                    · have d1 : decide ((k : Int) < (a.rules.length : Nat)) = true := decide_eq_true (by omega)
                      have hlb : k < b.rules.length := by omega
                      have ws := wrap_succ (show k ≤ 1000000000 by have := hl.rules.1; omega)
                      have i1 := idxRu (ex := a.e4) hlt
                      have i2 := idxRu (ex := b.e4) hlb
                      have hx := hl.rules.2 a.rules[k] (List.getElem_mem hlt)
                      have hg := fun e => map_get_eq (f := ruT) (dat_eq.1 e).2.2.2.2.2.1 hlt hlb
                      have hn := map_take_next ruT hlt hlb hp
                      generalize a.rules[k] = x at *
                      generalize b.rules[k] = y at *
                      have c1 := sameRule_does x.head y.head x.body y.body x.ex y.ex hx
                      cases g2 : decide ((x.head, x.body) = (y.head, y.body)) with
                      | false =>
                        rw [g2] at c1
                        have hr : decide (dat a = dat b) = false := decide_eq_false fun e => of_decide_eq_false g2 (hg e)
                        repeat (first | refine tr_seq_k fun _ _ => ?_ | (refine tr_region ?_; simp only [go_sem, reduceCtorEq, Nat.reduceEqDiff, Nat.reduceLT, Nat.reduceLeDiff, Nat.reduceAdd, Nat.reduceMul, Nat.reduceSub, Nat.reduceBEq, ↓reduceIte, d1]) | refine k_of (by assumption) ?_)
                        refine tr_cond rfl (fun ht => ?_) (fun hf => ?_)
                        · repeat (first | refine tr_seq_k fun _ _ => ?_ | (refine tr_draw (id := 11) follows 10000 [24] [0, 1, 2, 3, 4, 5, 6, 7, 8, 9, 10, 11, 12, 13, 14, 15, 16, 17, 18, 19, 20, 21, 22, 23, 24, 25] (by kernel_rfl) ?_; simp only [go_sem, reduceCtorEq, Nat.reduceEqDiff, Nat.reduceLT, Nat.reduceLeDiff, Nat.reduceAdd, Nat.reduceMul, Nat.reduceSub, Nat.reduceBEq, ↓reduceIte, i1, i2, d1]) | (refine call_of (c1) ?_ ?_; (first | rfl | simp only [go_sem, reduceCtorEq, Nat.reduceEqDiff, Nat.reduceLT, Nat.reduceLeDiff, Nat.reduceAdd, Nat.reduceMul, Nat.reduceSub, Nat.reduceBEq, ↓reduceIte, i1, i2, d1, shut_col]); simp only [go_sem, reduceCtorEq, Nat.reduceEqDiff, Nat.reduceLT, Nat.reduceLeDiff, Nat.reduceAdd, Nat.reduceMul, Nat.reduceSub, Nat.reduceBEq, ↓reduceIte, i1, i2, d1]) | refine k_of (by assumption) ?_ | refine tr_block ?_ | (refine tr_skip ?_; try simp only [ex_seq, ex_block]))
                          refine tr_cond rfl (fun ht => ?_) (fun hf => ?_)
                          · repeat (first | refine tr_seq_k fun _ _ => ?_ | (refine tr_region ?_; simp only [go_sem, reduceCtorEq, Nat.reduceEqDiff, Nat.reduceLT, Nat.reduceLeDiff, Nat.reduceAdd, Nat.reduceMul, Nat.reduceSub, Nat.reduceBEq, ↓reduceIte]) | refine k_of (by assumption) ?_ | (refine tr_ret ?_; try simp only [ex_seq_ret, ex_block_ret]))
                            refine (hQ _ _ [bA false] ?_ (fun m => ?_)).2 <;> simp only [go_sem, reduceCtorEq, Nat.reduceEqDiff, Nat.reduceLT, Nat.reduceLeDiff, Nat.reduceAdd, Nat.reduceMul, Nat.reduceSub, Nat.reduceBEq, ↓reduceIte, Tryd.f11, hr]
                          · cases hf
                        · cases hf
                      | true =>
                        rw [g2] at c1
                        repeat (first | refine tr_seq_k fun _ _ => ?_ | (refine tr_region ?_; simp only [go_sem, reduceCtorEq, Nat.reduceEqDiff, Nat.reduceLT, Nat.reduceLeDiff, Nat.reduceAdd, Nat.reduceMul, Nat.reduceSub, Nat.reduceBEq, ↓reduceIte, d1]) | refine k_of (by assumption) ?_)
                        refine tr_cond rfl (fun ht => ?_) (fun hf => ?_)
                        · repeat (first | refine tr_seq_k fun _ _ => ?_ | (refine tr_draw (id := 11) follows 10000 [24] [0, 1, 2, 3, 4, 5, 6, 7, 8, 9, 10, 11, 12, 13, 14, 15, 16, 17, 18, 19, 20, 21, 22, 23, 24, 25] (by kernel_rfl) ?_; simp only [go_sem, reduceCtorEq, Nat.reduceEqDiff, Nat.reduceLT, Nat.reduceLeDiff, Nat.reduceAdd, Nat.reduceMul, Nat.reduceSub, Nat.reduceBEq, ↓reduceIte, i1, i2, d1]) | (refine call_of (c1) ?_ ?_; (first | rfl | simp only [go_sem, reduceCtorEq, Nat.reduceEqDiff, Nat.reduceLT, Nat.reduceLeDiff, Nat.reduceAdd, Nat.reduceMul, Nat.reduceSub, Nat.reduceBEq, ↓reduceIte, i1, i2, d1, shut_col]); simp only [go_sem, reduceCtorEq, Nat.reduceEqDiff, Nat.reduceLT, Nat.reduceLeDiff, Nat.reduceAdd, Nat.reduceMul, Nat.reduceSub, Nat.reduceBEq, ↓reduceIte, i1, i2, d1]) | refine k_of (by assumption) ?_ | refine tr_block ?_ | (refine tr_skip ?_; try simp only [ex_seq, ex_block]))
                          refine tr_cond rfl (fun ht => ?_) (fun hf => ?_)
                          · cases ht
                          · repeat (first | (refine tr_region ?_; simp only [go_sem, reduceCtorEq, Nat.reduceEqDiff, Nat.reduceLT, Nat.reduceLeDiff, Nat.reduceAdd, Nat.reduceMul, Nat.reduceSub, Nat.reduceBEq, ↓reduceIte, ws]) | refine k_of (by assumption) ?_ | (refine tr_skip ?_; try simp only [ex_seq, ex_block]))
                            exact hK (k + 1) _ _ ⟨hlt, hn (of_decide_eq_true g2)⟩ ⟨⟨rfl, rfl, rfl, trivial⟩, Keep.refl _, rfl, rfl, Nat.le_refl _, Nat.le_refl _⟩ (by omega)
                        · cases hf
                    · have d1 : decide ((k : Int) < (a.rules.length : Nat)) = false := decide_eq_false (by omega)
                      have hkl : k = a.rules.length := by omega
                      have r_rules : a.rules.map ruT = b.rules.map ruT := map_all_eq (by omega) (by rw [hkl] at hp; exact hp)
                      repeat (first | refine tr_seq_k fun _ _ => ?_ | (refine tr_region ?_; simp only [go_sem, reduceCtorEq, Nat.reduceEqDiff, Nat.reduceLT, Nat.reduceLeDiff, Nat.reduceAdd, Nat.reduceMul, Nat.reduceSub, Nat.reduceBEq, ↓reduceIte, d1]) | refine k_of (by assumption) ?_)
                      refine tr_cond rfl (fun ht => ?_) (fun hf => ?_)
                      · cases ht
                      · repeat (first | refine tr_seq_k fun _ _ => ?_ | (refine tr_region ?_; simp only [go_sem, reduceCtorEq, Nat.reduceEqDiff, Nat.reduceLT, Nat.reduceLeDiff, Nat.reduceAdd, Nat.reduceMul, Nat.reduceSub, Nat.reduceBEq, ↓reduceIte]) | refine k_of (by assumption) ?_ | refine tr_block ?_ | (refine tr_exit ?_; try simp only [ex_seq_exit, ex_block_exit, Nat.reduceEqDiff, if_true, if_false, ex_seq, ex_block, reduceCtorEq, ↓reduceIte]))
                        refine tr_loop_k (σ := Nat) (fun k => [(2, .ptr 0 0), (3, .ptr 1 0), (7, iA k)]) (fun _ => ⟨[⟨false, [.c (slC stC a.e1 a.prin), .c (slC prC a.e2 a.preds), .c (slC clC a.e3 a.clears), iA a.quota, iA a.budget, .c (slC ruC a.e4 a.rules), .c (slC grC a.e5 a.grants)]⟩, ⟨false, [.c (slC stC b.e1 b.prin), .c (slC prC b.e2 b.preds), .c (slC clC b.e3 b.clears), iA b.quota, iA b.budget, .c (slC ruC b.e4 b.rules), .c (slC grC b.e5 b.grants)]⟩], []⟩) (fun k => k ≤ a.grants.length ∧ (a.grants.map grT).take k = (b.grants.map grT).take k) (fun k => a.grants.length - k) 0 ⟨Nat.zero_le _, rfl⟩ ⟨rfl, rfl, rfl, trivial⟩ rfl ?_
                        rintro k ⟨hk, hp⟩ K hK
                        by_cases hlt : k < a.grants.length
                        · have d1 : decide ((k : Int) < (a.grants.length : Nat)) = true := decide_eq_true (by omega)
                          have hlb : k < b.grants.length := by omega
                          have ws := wrap_succ (show k ≤ 1000000000 by have := hl.grants.1; omega)
                          have i1 := idxGr (ex := a.e5) hlt
                          have i2 := idxGr (ex := b.e5) hlb
                          have hx := hl.grants.2 a.grants[k] (List.getElem_mem hlt)
                          have hg := fun e => map_get_eq (f := grT) (dat_eq.1 e).2.2.2.2.2.2 hlt hlb
                          have hn := map_take_next grT hlt hlb hp
                          generalize a.grants[k] = x at *
                          generalize b.grants[k] = y at *
                          have c1 := sameRule_does x.head y.head x.body y.body x.ex y.ex hx
                          cases g1 : decide (x.tw = y.tw) with
                          | false =>
                            have hr : decide (dat a = dat b) = false := decide_eq_false fun e => of_decide_eq_false g1 (congrArg Prod.fst (hg e))
                            repeat (first | refine tr_seq_k fun _ _ => ?_ | (refine tr_region ?_; simp only [go_sem, reduceCtorEq, Nat.reduceEqDiff, Nat.reduceLT, Nat.reduceLeDiff, Nat.reduceAdd, Nat.reduceMul, Nat.reduceSub, Nat.reduceBEq, ↓reduceIte, d1]) | refine k_of (by assumption) ?_)
                            refine tr_cond rfl (fun ht => ?_) (fun hf => ?_)
                            · repeat (first | refine tr_seq_k fun _ _ => ?_ | (refine tr_draw (id := 16) follows 10000 [38] [0, 1, 2, 3, 4, 5, 6, 7, 8, 9, 10, 11, 12, 13, 14, 15, 16, 17, 18, 19, 20, 21, 22, 23, 24, 25, 26, 27, 28, 29, 30, 31, 32, 33, 34, 35, 36, 37, 38, 39, 40] (by kernel_rfl) ?_; simp only [go_sem, reduceCtorEq, Nat.reduceEqDiff, Nat.reduceLT, Nat.reduceLeDiff, Nat.reduceAdd, Nat.reduceMul, Nat.reduceSub, Nat.reduceBEq, ↓reduceIte, i1, i2, g1]) | refine k_of (by assumption) ?_ | refine tr_block ?_ | (refine tr_skip ?_; try simp only [ex_seq, ex_block]))
                              refine tr_cond rfl (fun ht => ?_) (fun hf => ?_)
                              · repeat (first | refine tr_seq_k fun _ _ => ?_ | (refine tr_region ?_; simp only [go_sem, reduceCtorEq, Nat.reduceEqDiff, Nat.reduceLT, Nat.reduceLeDiff, Nat.reduceAdd, Nat.reduceMul, Nat.reduceSub, Nat.reduceBEq, ↓reduceIte]) | refine k_of (by assumption) ?_ | (refine tr_ret ?_; try simp only [ex_seq_ret, ex_block_ret]))
                                refine (hQ _ _ [bA false] ?_ (fun m => ?_)).2 <;> simp only [go_sem, reduceCtorEq, Nat.reduceEqDiff, Nat.reduceLT, Nat.reduceLeDiff, Nat.reduceAdd, Nat.reduceMul, Nat.reduceSub, Nat.reduceBEq, ↓reduceIte, Tryd.f11, hr]
                              · cases hf
                            · cases hf
                          | true =>
                            cases g2 : decide ((x.head, x.body) = (y.head, y.body)) with
                            | false =>
                              rw [g2] at c1
                              have hr : decide (dat a = dat b) = false := decide_eq_false fun e => of_decide_eq_false g2 (congrArg Prod.snd (hg e))
                              repeat (first | refine tr_seq_k fun _ _ => ?_ | (refine tr_region ?_; simp only [go_sem, reduceCtorEq, Nat.reduceEqDiff, Nat.reduceLT, Nat.reduceLeDiff, Nat.reduceAdd, Nat.reduceMul, Nat.reduceSub, Nat.reduceBEq, ↓reduceIte, d1]) | refine k_of (by assumption) ?_)
                              refine tr_cond rfl (fun ht => ?_) (fun hf => ?_)
                              · repeat (first | refine tr_seq_k fun _ _ => ?_ | (refine tr_draw (id := 16) follows 10000 [38] [0, 1, 2, 3, 4, 5, 6, 7, 8, 9, 10, 11, 12, 13, 14, 15, 16, 17, 18, 19, 20, 21, 22, 23, 24, 25, 26, 27, 28, 29, 30, 31, 32, 33, 34, 35, 36, 37, 38, 39, 40] (by kernel_rfl) ?_; simp only [go_sem, reduceCtorEq, Nat.reduceEqDiff, Nat.reduceLT, Nat.reduceLeDiff, Nat.reduceAdd, Nat.reduceMul, Nat.reduceSub, Nat.reduceBEq, ↓reduceIte, i1, i2, g1]) | (refine call_of (c1) ?_ ?_; (first | rfl | simp only [go_sem, reduceCtorEq, Nat.reduceEqDiff, Nat.reduceLT, Nat.reduceLeDiff, Nat.reduceAdd, Nat.reduceMul, Nat.reduceSub, Nat.reduceBEq, ↓reduceIte, i1, i2, g1, shut_col]); simp only [go_sem, reduceCtorEq, Nat.reduceEqDiff, Nat.reduceLT, Nat.reduceLeDiff, Nat.reduceAdd, Nat.reduceMul, Nat.reduceSub, Nat.reduceBEq, ↓reduceIte, i1, i2, g1]) | refine k_of (by assumption) ?_ | refine tr_block ?_ | (refine tr_skip ?_; try simp only [ex_seq, ex_block]))
                                refine tr_cond rfl (fun ht => ?_) (fun hf => ?_)
                                · repeat (first | refine tr_seq_k fun _ _ => ?_ | (refine tr_region ?_; simp only [go_sem, reduceCtorEq, Nat.reduceEqDiff, Nat.reduceLT, Nat.reduceLeDiff, Nat.reduceAdd, Nat.reduceMul, Nat.reduceSub, Nat.reduceBEq, ↓reduceIte]) | refine k_of (by assumption) ?_ | (refine tr_ret ?_; try simp only [ex_seq_ret, ex_block_ret]))
                                  refine (hQ _ _ [bA false] ?_ (fun m => ?_)).2 <;> simp only [go_sem, reduceCtorEq, Nat.reduceEqDiff, Nat.reduceLT, Nat.reduceLeDiff, Nat.reduceAdd, Nat.reduceMul, Nat.reduceSub, Nat.reduceBEq, ↓reduceIte, Tryd.f11, hr]
                                · cases hf
                              · cases hf
                            | true =>
                              rw [g2] at c1
                              repeat (first | refine tr_seq_k fun _ _ => ?_ | (refine tr_region ?_; simp only [go_sem, reduceCtorEq, Nat.reduceEqDiff, Nat.reduceLT, Nat.reduceLeDiff, Nat.reduceAdd, Nat.reduceMul, Nat.reduceSub, Nat.reduceBEq, ↓reduceIte, d1]) | refine k_of (by assumption) ?_)
                              refine tr_cond rfl (fun ht => ?_) (fun hf => ?_)
                              · repeat (first | refine tr_seq_k fun _ _ => ?_ | (refine tr_draw (id := 16) follows 10000 [38] [0, 1, 2, 3, 4, 5, 6, 7, 8, 9, 10, 11, 12, 13, 14, 15, 16, 17, 18, 19, 20, 21, 22, 23, 24, 25, 26, 27, 28, 29, 30, 31, 32, 33, 34, 35, 36, 37, 38, 39, 40] (by kernel_rfl) ?_; simp only [go_sem, reduceCtorEq, Nat.reduceEqDiff, Nat.reduceLT, Nat.reduceLeDiff, Nat.reduceAdd, Nat.reduceMul, Nat.reduceSub, Nat.reduceBEq, ↓reduceIte, i1, i2, g1]) | (refine call_of (c1) ?_ ?_; (first | rfl | simp only [go_sem, reduceCtorEq, Nat.reduceEqDiff, Nat.reduceLT, Nat.reduceLeDiff, Nat.reduceAdd, Nat.reduceMul, Nat.reduceSub, Nat.reduceBEq, ↓reduceIte, i1, i2, g1, shut_col]); simp only [go_sem, reduceCtorEq, Nat.reduceEqDiff, Nat.reduceLT, Nat.reduceLeDiff, Nat.reduceAdd, Nat.reduceMul, Nat.reduceSub, Nat.reduceBEq, ↓reduceIte, i1, i2, g1]) | refine k_of (by assumption) ?_ | refine tr_block ?_ | (refine tr_skip ?_; try simp only [ex_seq, ex_block]))
                                refine tr_cond rfl (fun ht => ?_) (fun hf => ?_)
                                · cases ht
                                · repeat (first | (refine tr_region ?_; simp only [go_sem, reduceCtorEq, Nat.reduceEqDiff, Nat.reduceLT, Nat.reduceLeDiff, Nat.reduceAdd, Nat.reduceMul, Nat.reduceSub, Nat.reduceBEq, ↓reduceIte, ws]) | refine k_of (by assumption) ?_ | (refine tr_skip ?_; try simp only [ex_seq, ex_block]))
                                  exact hK (k + 1) _ _ ⟨hlt, hn (by show (x.tw, (x.head, x.body)) = (y.tw, (y.head, y.body)); rw [of_decide_eq_true g1, of_decide_eq_true g2])⟩ ⟨⟨rfl, rfl, rfl, trivial⟩, Keep.refl _, rfl, rfl, Nat.le_refl _, Nat.le_refl _⟩ (by omega)
                              · cases hf
                        · have d1 : decide ((k : Int) < (a.grants.length : Nat)) = false := decide_eq_false (by omega)
                          have hkl : k = a.grants.length := by omega
                          have r_grants : a.grants.map grT = b.grants.map grT := map_all_eq (by omega) (by rw [hkl] at hp; exact hp)
                          repeat (first | refine tr_seq_k fun _ _ => ?_ | (refine tr_region ?_; simp only [go_sem, reduceCtorEq, Nat.reduceEqDiff, Nat.reduceLT, Nat.reduceLeDiff, Nat.reduceAdd, Nat.reduceMul, Nat.reduceSub, Nat.reduceBEq, ↓reduceIte, d1]) | refine k_of (by assumption) ?_)
                          refine tr_cond rfl (fun ht => ?_) (fun hf => ?_)
                          · cases ht
                          · repeat (first | refine tr_seq_k fun _ _ => ?_ | (refine tr_region ?_; simp only [go_sem, reduceCtorEq, Nat.reduceEqDiff, Nat.reduceLT, Nat.reduceLeDiff, Nat.reduceAdd, Nat.reduceMul, Nat.reduceSub, Nat.reduceBEq, ↓reduceIte]) | refine k_of (by assumption) ?_ | (refine tr_exit ?_; try simp only [ex_seq_exit, ex_block_exit, Nat.reduceEqDiff, if_true, if_false, ex_seq, ex_block, reduceCtorEq, ↓reduceIte]) | (refine tr_ret ?_; try simp only [ex_seq_ret, ex_block_ret]))
                            have hr : decide (dat a = dat b) = true := decide_eq_true (dat_eq.2 ⟨of_decide_eq_true h1, of_decide_eq_true h2, of_decide_eq_true h3, of_decide_eq_true h4, r_clears, r_rules, r_grants⟩)
                            refine (hQ _ _ [bA true] ?_ (fun m => ?_)).2 <;> simp only [go_sem, reduceCtorEq, Nat.reduceEqDiff, Nat.reduceLT, Nat.reduceLeDiff, Nat.reduceAdd, Nat.reduceMul, Nat.reduceSub, Nat.reduceBEq, ↓reduceIte, Tryd.f11, hr]
end Go.Proofs.YtaeehadibckcjaaDoor
namespace Go.Vs.Ab
open Go.RowKit Go.Maps Go.ChangeShapes Go.WideShapes Go.Deep
theorem Reps.nil {X : Mem} : Reps X [] [] := ⟨rfl, fun i c x h => by simp at h⟩
theorem Reps.cons {X : Mem} {c : AV} {v : Value} {cs : List AV} {vs : List Value} (h : Rep X c v) (k : Reps X cs vs) : Reps X (c :: cs) (v :: vs) :=
  ⟨by simp [k.1], fun i d x h1 h2 => by
    cases i with
    | zero => simp at h1 h2; subst h1 h2; exact h
    | succ i => exact k.2 i d x (by simpa using h1) (by simpa using h2)⟩
theorem RepCs.nil {C : Nat → Nat → Option Value} : RepCs C [] [] := ⟨rfl, fun i c x h => by simp at h⟩
theorem RepCs.cons {C : Nat → Nat → Option Value} {c : CV} {v : Value} {cs : List CV} {vs : List Value} (h : RepC C c v) (k : RepCs C cs vs) : RepCs C (c :: cs) (v :: vs) :=
  ⟨by simp [k.1], fun i d x h1 h2 => by
    cases i with
    | zero => simp at h1 h2; subst h1 h2; exact h
    | succ i => exact k.2 i d x (by simpa using h1) (by simpa using h2)⟩
theorem RepCs.append {C : Nat → Nat → Option Value} {a b : List CV} {x y : List Value} (h : RepCs C a x) (k : RepCs C b y) : RepCs C (a ++ b) (x ++ y) := repcs_append h k
section
variable {H : Type} {enc : TypeId × Value → H} {P : Program} {w : World} {base b0 : Nat} {spare : Nat → Bool} {held : Bool} {r : Reach} {d : Nat} {t : TypeId} {v : Value} {x : DataW H} {ps : List MemPlace}
theorem open_str (ht : P.underlying t = some .string) (hval : Value.okWide P w r b0 t v) (hd : DataW.Trod enc P w base spare held t v x ps) : ∃ s : ByteArray, Rep (all w) (sA s) v ∧ s.size ≤ maxLen := by
  obtain ⟨s, rfl, hs⟩ := arg_string ht hval hd
  exact ⟨s, .c (.v rfl), hs⟩
end
end Go.Vs.Ab
namespace Go.Vs.Ab
open Go.RowKit Go.Maps Go.ChangeShapes Go.WideShapes Go.Deep
section
variable {H : Type} {enc : TypeId × Value → H} {P : Program} {w : World} {base : Nat} {spare : Nat → Bool} {held : Bool}
end
section
variable {H : Type} {enc : TypeId × Value → H} {P : Program} {w : World} {base b0 : Nat} {spare : Nat → Bool} {held : Bool} {r : Reach} {d : Nat} {t : TypeId} {v : Value} {x : DataW H} {ps : List MemPlace}
end
end Go.Vs.Ab
namespace Go.Proofs.YtaeehadibckcjaaDoor
open Go.RowKit Go.Vs Go.Vs.Ab
end Go.Proofs.YtaeehadibckcjaaDoor
namespace Go.Proofs.YtaeehadibckcjaaDoor
open Go.RowKit Go.Vs Go.Vs.Ab
set_option maxRecDepth 100000
set_option maxHeartbeats 4000000
theorem dat_back (p : Pol) : dat (polOf (ppOf p)) = dat p := by
  refine dat_eq.2 ⟨rfl, rfl, rfl, rfl, ?_, ?_, ?_⟩
  · show (p.clears.map nrmC).map clT = _
    rw [List.map_map]
    rfl
  · show (p.rules.map nrmR).map ruT = _
    rw [List.map_map]
    rfl
  · show (p.grants.map nrmG).map grT = _
    rw [List.map_map]
    rfl
theorem map_by {A B C : Type} {f : A → C} {t : A → B} (g : B → C) (hg : ∀ x, f x = g (t x)) {a b : List A} (h : a.map t = b.map t) : a.map f = b.map f := by
  have e : ∀ l : List A, l.map f = (l.map t).map g := fun l => by
    rw [List.map_map]
    exact List.map_congr_left fun x _ => hg x
  rw [e, e, h]
theorem policy_dat {a b : Pol} (h : dat a = dat b) : pPolicy a = pPolicy b := by
  obtain ⟨h1, h2, h3, h4, h5, h6, h7⟩ := dat_eq.1 h
  have k2 : a.preds.map (fun x => lnOf (prPred x)) = b.preds.map (fun x => lnOf (prPred x)) := map_by (t := prT) (fun y => lnOf [tPred, y.1, tSl, itoaB y.2]) (fun _ => rfl) h2
  have k5 : a.clears.map (fun x => lnOf (prClr x)) = b.clears.map (fun x => lnOf (prClr x)) := map_by (t := clT) (fun y => lnOf (prClr ⟨y.1, true, y.2⟩)) (fun _ => rfl) h5
  have k6 : a.rules.map (fun x => lnOf (prRul x)) = b.rules.map (fun x => lnOf (prRul x)) := map_by (t := ruT) (fun y => lnOf (prRul ⟨y.1, true, y.2⟩)) (fun _ => rfl) h6
  have k7 : a.grants.map (fun x => lnOf (prGrt x)) = b.grants.map (fun x => lnOf (prGrt x)) := map_by (t := grT) (fun y => lnOf (prGrt ⟨y.1, y.2.1, true, y.2.2⟩)) (fun _ => rfl) h7
  rw [policy_lines, policy_lines]
  unfold linesP
  rw [h1, k2, k5, h3, h4, k6, k7]
theorem prin_size {s : ByteArray} (h : pprincipal s = true) : s.size ≤ 255 := by
  unfold pprincipal pconstant pconst0 at h
  simp only [Bool.and_eq_true, decide_eq_true_eq] at h
  exact h.1.1.1.1
theorem term_size {t : Tm} (h : ptermok t = true) : t.name.size ≤ 255 := by
  unfold ptermok at h
  split at h
  · unfold pvariable at h
    simp only [Bool.and_eq_true, decide_eq_true_eq] at h
    exact h.1.1
  · unfold pconstant pconst0 at h
    simp only [Bool.and_eq_true, decide_eq_true_eq] at h
    exact h.1.1.1
theorem polLen_ok {p : Pol} (h : PolOk p) : PolLen p := ⟨by have := h.prin.1; omega, by have := h.preds.1; omega, ⟨by have := h.clears.1; omega, fun c hc => by have := (h.clears.2 c hc).2.1; omega⟩, ⟨by have := h.rules.1; omega, fun c hc => by have := (h.rules.2 c hc).2.2; omega⟩, ⟨by have := h.grants.1; omega, fun c hc => by have := (h.grants.2 c hc).2.2.2; omega⟩⟩
end Go.Proofs.YtaeehadibckcjaaDoor
namespace Go.Vs
open Go.Vs.Ab
variable {L : List Tk} {n : Int} {r : Rs}
def wtL : List Tk → Nat
  | [] => 0
  | t :: l => t.text.size + 2 + wtL l
def wt (L : List Tk) (r : Rs) : Nat := wtL (L.drop r.i)
theorem wt_adv {t : Tk} (h : L[r.i]? = some t) : wt L r = t.text.size + 2 + wt L r.adv := by
  obtain ⟨hl, he⟩ := List.getElem?_eq_some_iff.1 h
  unfold wt
  rw [List.drop_eq_getElem_cons hl, he]
  rfl
theorem fail_e {e : Int} {j : Nat} (he : e ≠ 0) : (r.fail L n e j).e ≠ 0 := by
  unfold Rs.fail
  split
  · exact he
  · assumption
theorem isT_wt {s : ByteArray} (h : isT L r s = true) : r.e = 0 ∧ wt L r = s.size + 2 + wt L r.adv := by
  unfold isT at h
  rw [Bool.and_eq_true] at h
  refine ⟨of_decide_eq_true h.1, ?_⟩
  cases hl : L[r.i]? with
  | none => rw [hl] at h; cases h.2
  | some t =>
    rw [hl] at h
    have := of_decide_eq_true h.2
    rw [wt_adv hl, this]
theorem must_wt {s : ByteArray} (h : (mustT L n r s).e = 0) : r.e = 0 ∧ wt L r = s.size + 2 + wt L (mustT L n r s) := by
  unfold mustT at *
  split at h
  · rename_i hc
    rw [if_pos hc]
    exact isT_wt hc
  · exact absurd h (fail_e (by decide))
theorem next_wt {sort : Int} (h : (nextR L n r sort).e = 0) : r.e = 0 ∧ mayT sort (nextS L r sort) = true ∧ wt L r = (nextS L r sort).size + 2 + wt L (nextR L n r sort) := by
  unfold nextR nextS at *
  split at h
  · rename_i hc
    rw [if_pos hc, if_pos hc]
    unfold nextOk at hc
    rw [Bool.and_eq_true] at hc
    refine ⟨of_decide_eq_true hc.1, ?_⟩
    cases hl : L[r.i]? with
    | none => rw [hl] at hc; cases hc.2
    | some t =>
      rw [hl] at hc
      exact ⟨hc.2, wt_adv hl⟩
  · exact absurd h (fail_e (by decide))
/-! ### atoms -/
def wtT : List Tm → Nat
  | [] => 0
  | t :: l => t.name.size + 2 + wtT l
theorem wtT_snoc (l : List Tm) (t : Tm) : wtT (l ++ [t]) = wtT l + (t.name.size + 2) := by
  induction l with
  | nil => simp [wtT]
  | cons x l ih => simp only [List.cons_append, wtT, ih]; omega
theorem term_ok {s : ByteArray} (h : mayT 2 s = true) : ptermok ⟨pvariable s, s⟩ = true := by
  have h : (pconstant s || pvariable s) = true := h
  unfold ptermok
  cases hv : pvariable s with
  | true => rfl
  | false => rw [hv, Bool.or_false] at h; exact h
theorem saidL_ok : ∀ (f : Nat) (r : Rs) (ts : List Tm), (saidL L n f r ts).1.e = 0 → (∀ t ∈ ts, ptermok t = true) → ts.length ≤ 4 → r.e = 0 ∧ (∀ t ∈ (saidL L n f r ts).2, ptermok t = true) ∧ (saidL L n f r ts).2.length ≤ 4 ∧ wtT (saidL L n f r ts).2 + wt L (saidL L n f r ts).1 ≤ wtT ts + wt L r
  | 0, r, ts, h, ht, hl => ⟨h, ht, hl, Nat.le_refl _⟩
  | f + 1, r, ts, h, ht, hl => by
    unfold saidL at h ⊢
    by_cases he : r.e = 0
    · rw [if_pos he] at h ⊢
      by_cases h1 : (nextR L n r 2).e = 0
      · rw [if_pos h1] at h ⊢
        obtain ⟨_, hm, hw⟩ := next_wt h1
        by_cases h4 : ts.length = 4
        · rw [if_pos h4] at h
          exact absurd h (fail_e (by decide))
        · rw [if_neg h4] at h ⊢
          have hs := wtT_snoc ts ⟨pvariable (nextS L r 2), nextS L r 2⟩
          have hok : ∀ t ∈ ts ++ [(⟨pvariable (nextS L r 2), nextS L r 2⟩ : Tm)], ptermok t = true := fun t htm => by
            rw [List.mem_append, List.mem_singleton] at htm
            rcases htm with htm | rfl
            · exact ht t htm
            · exact term_ok hm
          have hlen : (ts ++ [(⟨pvariable (nextS L r 2), nextS L r 2⟩ : Tm)]).length ≤ 4 := by
            rw [List.length_append, List.length_singleton]; omega
          split at h
          · rename_i hc
            rw [if_pos hc]
            obtain ⟨q1, q2, q3, q4⟩ := saidL_ok f _ _ h hok hlen
            have := (isT_wt hc).2
            exact ⟨he, q2, q3, by dsimp only at hs; omega⟩
          · rename_i hc
            rw [if_neg hc]
            exact ⟨he, hok, hlen, by dsimp only at hs ⊢; omega⟩
      · rw [if_neg h1] at h
        exact absurd h h1
    · rw [if_neg he] at h
      exact absurd h he
theorem mkAt_ok {s p : ByteArray} {ts : List Tm} (hs : pprincipal s = true) (hp : pprincipal p = true) (ht : ∀ t ∈ ts, ptermok t = true) (hl : ts.length ≤ 4) : pcheck3 (mkAt s p ts) = 0 := by
  have hn : (mkAt s p ts).n = ts.length := rfl
  have hg : ∀ k, k < 4 → (mkAt s p ts).arg k = ts.getD k noT := fun k hk => by
    obtain rfl | rfl | rfl | rfl : k = 0 ∨ k = 1 ∨ k = 2 ∨ k = 3 := by omega
    all_goals rfl
  have hsp : (pprincipal (mkAt s p ts).says && pprincipal (mkAt s p ts).pred) = true := by
    show (pprincipal s && pprincipal p) = true
    rw [hs, hp]
    rfl
  have htm : (mkAt s p ts).termsB = true := by
    unfold Atm.termsB
    rw [List.all_eq_true]
    intro k hk
    rw [List.mem_range] at hk
    rw [hn, hg k hk]
    by_cases hlt : k < ts.length
    · rw [List.getD_eq_getElem?_getD, List.getElem?_eq_getElem hlt]
      have := ht ts[k] (List.getElem_mem hlt)
      simp [this]
    · have : decide ((k : Int) < (ts.length : Nat)) = false := decide_eq_false (by omega)
      rw [this]
      rfl
  have hrs : (mkAt s p ts).restB = true := by
    unfold Atm.restB
    rw [List.all_eq_true]
    intro k hk
    rw [List.mem_range] at hk
    rw [hn, hg k hk]
    by_cases hlt : k < ts.length
    · have : decide ((k : Int) < (ts.length : Nat)) = true := decide_eq_true (by omega)
      rw [this]
      rfl
    · rw [List.getD_eq_getElem?_getD, List.getElem?_eq_none (by omega)]
      simp [noT]
  unfold pcheck3
  rw [if_neg (by rw [hsp]; exact fun h => Bool.noConfusion h), if_neg (by rw [hn]; omega), if_neg (by rw [htm]; exact fun h => Bool.noConfusion h), if_neg (by rw [hrs]; exact fun h => Bool.noConfusion h)]
theorem prin_pos {s : ByteArray} (h : pprincipal s = true) : 0 < s.size := by
  unfold pprincipal at h
  rw [Bool.and_eq_true] at h
  exact headB_pos h.2
theorem said_ok {s : ByteArray} (h : (saidF L n r s).1.e = 0) : r.e = 0 ∧ (pprincipal s = true → pcheck3 (saidF L n r s).2 = 0) ∧ (saidF L n r s).2.says = s ∧ (saidF L n r s).2.pred.size + wtT (termsOf (saidF L n r s).2) + 2 + wt L (saidF L n r s).1 ≤ wt L r ∧ 3 + wt L (saidF L n r s).1 ≤ wt L r := by
  have key : ∀ {p : ByteArray} {ts : List Tm}, ts.length ≤ 4 → termsOf (mkAt s p ts) = ts := fun {p ts} hl => by
    have hc : (mkAt s p ts).count = ts.length := by
      unfold Atm.count
      show (min (max (ts.length : Int) 0) 4).toNat = _
      omega
    unfold termsOf
    rw [hc]
    match ts, hl with
    | [], _ => rfl
    | [a], _ => rfl
    | [a, b], _ => rfl
    | [a, b, c], _ => rfl
    | [a, b, c, d], _ => rfl
  unfold saidF at h ⊢
  by_cases hc : isT L (nextR L n r 1) kOpen = true
  · rw [if_pos hc] at h ⊢
    dsimp only at h ⊢
    obtain ⟨m1, m2⟩ := must_wt h
    obtain ⟨i1, i2⟩ := isT_wt hc
    obtain ⟨n1, n2, n3⟩ := next_wt i1
    obtain ⟨q1, q2, q3, q4⟩ := saidL_ok 5 (nextR L n r 1).adv [] m1 (fun t ht => by cases ht) (Nat.zero_le _)
    have hp : pprincipal (nextS L r 1) = true := n2
    have z1 : kOpen.size = 1 := rfl
    have z2 : kShut.size = 1 := rfl
    have hpos := prin_pos hp
    have e0 : wtT ([] : List Tm) = 0 := rfl
    refine ⟨n1, fun hs => mkAt_ok hs hp q2 q3, rfl, ?_, by omega⟩
    rw [key q3]
    show (nextS L r 1).size + _ + 2 + _ ≤ _
    omega
  · rw [if_neg hc] at h ⊢
    dsimp only at h ⊢
    obtain ⟨n1, n2, n3⟩ := next_wt h
    have hp : pprincipal (nextS L r 1) = true := n2
    have hpos := prin_pos hp
    refine ⟨n1, fun hs => mkAt_ok hs hp (fun t ht => by cases ht) (Nat.zero_le _), rfl, ?_, by omega⟩
    rw [key (Nat.zero_le _)]
    show (nextS L r 1).size + 0 + 2 + _ ≤ _
    omega
theorem atom_ok (h : (atomF L n r).1.e = 0) : r.e = 0 ∧ pcheck3 (atomF L n r).2 = 0 ∧ (atomF L n r).2.says.size + (atomF L n r).2.pred.size + wtT (termsOf (atomF L n r).2) + 10 + wt L (atomF L n r).1 ≤ wt L r ∧ 12 + wt L (atomF L n r).1 ≤ wt L r := by
  unfold atomF at h ⊢
  obtain ⟨q1, q2, q3, q4, q5⟩ := said_ok h
  obtain ⟨m1, m2⟩ := must_wt q1
  obtain ⟨n1, n2, n3⟩ := next_wt m1
  have hp : pprincipal (nextS L r 0) = true := n2
  have hpos := prin_pos hp
  have z1 : kSays.size = 4 := rfl
  refine ⟨n1, q2 hp, ?_, by omega⟩
  rw [q3]
  omega
/-! ### bodies and clears -/
def atW (a : Atm) : Nat := a.says.size + a.pred.size + wtT (termsOf a) + 10
def wtA : List Atm → Nat
  | [] => 0
  | a :: l => atW a + wtA l
theorem wtA_snoc (l : List Atm) (a : Atm) : wtA (l ++ [a]) = wtA l + atW a := by
  induction l with
  | nil => simp [wtA]
  | cons x l ih => simp only [List.cons_append, wtA, ih]; omega
theorem bodyL_ok : ∀ (f : Nat) (r : Rs) (l : List Atm), (bodyL L n f r l).1.e = 0 → (∀ a ∈ l, pcheck3 a = 0) → r.e = 0 ∧ (∀ a ∈ (bodyL L n f r l).2, pcheck3 a = 0) ∧ wtA (bodyL L n f r l).2 + wt L (bodyL L n f r l).1 ≤ wtA l + wt L r ∧ 12 * (bodyL L n f r l).2.length + wt L (bodyL L n f r l).1 ≤ 12 * l.length + wt L r
  | 0, r, l, h, hl => ⟨h, hl, Nat.le_refl _, Nat.le_refl _⟩
  | f + 1, r, l, h, hl => by
    unfold bodyL at h ⊢
    by_cases he : r.e = 0
    · rw [if_pos he] at h ⊢
      have hs := wtA_snoc l (atomF L n r).2
      have hlen : (l ++ [(atomF L n r).2]).length = l.length + 1 := by rw [List.length_append, List.length_singleton]
      by_cases hc : isT L (atomF L n r).1 kCom = true
      · rw [if_pos hc] at h ⊢
        obtain ⟨i1, i2⟩ := isT_wt hc
        obtain ⟨_, a2, a3, a4⟩ := atom_ok i1
        have hok : ∀ a ∈ l ++ [(atomF L n r).2], pcheck3 a = 0 := fun a ha => by
          rw [List.mem_append, List.mem_singleton] at ha
          rcases ha with ha | rfl
          · exact hl a ha
          · exact a2
        obtain ⟨q1, q2, q3, q4⟩ := bodyL_ok f _ _ h hok
        unfold atW at hs
        exact ⟨he, q2, by omega, by omega⟩
      · rw [if_neg hc] at h ⊢
        dsimp only at h ⊢
        obtain ⟨_, a2, a3, a4⟩ := atom_ok h
        have hok : ∀ a ∈ l ++ [(atomF L n r).2], pcheck3 a = 0 := fun a ha => by
          rw [List.mem_append, List.mem_singleton] at ha
          rcases ha with ha | rfl
          · exact hl a ha
          · exact a2
        unfold atW at hs
        exact ⟨he, hok, by omega, by omega⟩
    · rw [if_neg he] at h
      exact absurd h he
theorem body_ok (h : (bodyF L n r).1.e = 0) : r.e = 0 ∧ (∀ a ∈ (bodyF L n r).2, pcheck3 a = 0) ∧ wtA (bodyF L n r).2 + (if (bodyF L n r).2 = [] then 0 else 4) + wt L (bodyF L n r).1 ≤ wt L r ∧ 12 * (bodyF L n r).2.length + wt L (bodyF L n r).1 ≤ wt L r := by
  unfold bodyF at h ⊢
  by_cases hc : isT L r kIf = true
  · rw [if_pos hc] at h ⊢
    obtain ⟨i1, i2⟩ := isT_wt hc
    obtain ⟨q1, q2, q3, q4⟩ := bodyL_ok (L.length + 1) r.adv [] h (fun a ha => by cases ha)
    have z1 : kIf.size = 2 := rfl
    have e0 : wtA ([] : List Atm) = 0 := rfl
    have e1 : ([] : List Atm).length = 0 := rfl
    refine ⟨i1, q2, ?_, by omega⟩
    split <;> omega
  · rw [if_neg hc] at h ⊢
    dsimp only at h ⊢
    have e0 : wtA ([] : List Atm) = 0 := rfl
    have e1 : ([] : List Atm).length = 0 := rfl
    exact ⟨h, (fun a ha => by cases ha), by rw [if_pos rfl]; omega, by omega⟩
def wtS : List ByteArray → Nat
  | [] => 0
  | s :: l => s.size + 2 + wtS l
theorem wtS_snoc (l : List ByteArray) (s : ByteArray) : wtS (l ++ [s]) = wtS l + (s.size + 2) := by
  induction l with
  | nil => simp [wtS]
  | cons x l ih => simp only [List.cons_append, wtS, ih]; omega
theorem clearL_ok : ∀ (f : Nat) (r : Rs) (l : List ByteArray), (clearL L n f r l).1.e = 0 → (∀ a ∈ l, pprincipal a = true) → r.e = 0 ∧ (∀ a ∈ (clearL L n f r l).2, pprincipal a = true) ∧ wtS (clearL L n f r l).2 + wt L (clearL L n f r l).1 ≤ wtS l + wt L r ∧ 3 * (clearL L n f r l).2.length + wt L (clearL L n f r l).1 ≤ 3 * l.length + wt L r ∧ (0 < f → l.length < (clearL L n f r l).2.length)
  | 0, r, l, h, hl => ⟨h, hl, Nat.le_refl _, Nat.le_refl _, fun h => absurd h (Nat.lt_irrefl 0)⟩
  | f + 1, r, l, h, hl => by
    unfold clearL at h ⊢
    by_cases he : r.e = 0
    · rw [if_pos he] at h ⊢
      have hs := wtS_snoc l (nextS L r 0)
      have hlen : (l ++ [nextS L r 0]).length = l.length + 1 := by rw [List.length_append, List.length_singleton]
      have hok : pprincipal (nextS L r 0) = true → ∀ a ∈ l ++ [nextS L r 0], pprincipal a = true := fun hp a ha => by
        rw [List.mem_append, List.mem_singleton] at ha
        rcases ha with ha | rfl
        · exact hl a ha
        · exact hp
      by_cases hc : isT L (nextR L n r 0) kCom = true
      · rw [if_pos hc] at h ⊢
        obtain ⟨i1, i2⟩ := isT_wt hc
        obtain ⟨_, a2, a3⟩ := next_wt i1
        have a2 : pprincipal (nextS L r 0) = true := a2
        have hpos := prin_pos a2
        obtain ⟨q1, q2, q3, q4, q5⟩ := clearL_ok f _ _ h (hok a2)
        refine ⟨he, q2, by omega, by omega, fun _ => ?_⟩
        rcases Nat.eq_zero_or_pos f with rfl | hf
        · show l.length < (l ++ [nextS L r 0]).length
          omega
        · have := q5 hf
          omega
      · rw [if_neg hc] at h ⊢
        dsimp only at h ⊢
        obtain ⟨_, a2, a3⟩ := next_wt h
        have a2 : pprincipal (nextS L r 0) = true := a2
        have hpos := prin_pos a2
        exact ⟨he, hok a2, by omega, by omega, fun _ => by omega⟩
    · rw [if_neg he] at h
      exact absurd h he
theorem clear_ok (h : (clearF L n r).1.e = 0) : r.e = 0 ∧ pprincipal (clearF L n r).2.1 = true ∧ (clearF L n r).2.2 ≠ [] ∧ (∀ a ∈ (clearF L n r).2.2, pprincipal a = true) ∧ (clearF L n r).2.1.size + wtS (clearF L n r).2.2 + 5 + wt L (clearF L n r).1 ≤ wt L r ∧ 3 * (clearF L n r).2.2.length + wt L (clearF L n r).1 ≤ wt L r := by
  unfold clearF at h ⊢
  dsimp only at h ⊢
  obtain ⟨q1, q2, q3, q4, q5⟩ := clearL_ok (L.length + 1) (mustT L n (nextR L n r 0) kCol) [] h (fun a ha => by cases ha)
  obtain ⟨m1, m2⟩ := must_wt q1
  obtain ⟨n1, n2, n3⟩ := next_wt m1
  have z1 : kCol.size = 1 := rfl
  have e0 : wtS ([] : List ByteArray) = 0 := rfl
  have e1 : ([] : List ByteArray).length = 0 := rfl
  have := q5 (Nat.succ_pos _)
  refine ⟨n1, n2, fun e => ?_, q2, by omega, by omega⟩
  rw [e] at this
  simp at this
theorem num_ok (h : (nextR L n r 3).e = 0) : r.e = 0 ∧ 0 ≤ numB (nextS L r 3) ∧ numB (nextS L r 3) ≤ 9999999 ∧ 3 + wt L (nextR L n r 3) ≤ wt L r := by
  obtain ⟨n1, n2, n3⟩ := next_wt h
  have n2 : pnum (nextS L r 3) = true := n2
  generalize nextS L r 3 = s at *
  unfold pnum at n2
  simp only [Bool.and_eq_true, decide_eq_true_eq, List.all_eq_true] at n2
  have hl := lts_len s
  have hpos : 0 < s.size := by
    rcases Nat.eq_zero_or_pos s.size with h0 | h0
    · exact absurd (size_zero h0) n2.2.1
    · exact h0
  obtain ⟨q1, q2⟩ := numK_take n2.1 (lts s).length (Nat.le_refl _)
  rw [List.take_length] at q1 q2
  have h7 : (10 ^ (lts s).length : Nat) ≤ 10 ^ 7 := Nat.pow_le_pow_right (by decide) (by omega)
  have h7' : (10 ^ 7 : Nat) = 10000000 := rfl
  refine ⟨n1, q1, ?_, by omega⟩
  show numK (lts s) ≤ 9999999
  omega
theorem wtL_snoc (l : List Tk) (t : Tk) : wtL (l ++ [t]) = wtL l + (t.text.size + 2) := by
  induction l with
  | nil => simp [wtL]
  | cons x l ih => simp only [List.cons_append, wtL, ih]; omega
theorem toksF_wt (s : ByteArray) : ∀ (f i : Nat) (out : List Tk), i ≤ s.size → wtL (toksF s f i out).1 ≤ wtL out + 3 * (s.size - i)
  | 0, i, out, h => Nat.le_add_right _ _
  | f + 1, i, out, h => by
    rw [toksF_step]
    split
    · rename_i hi
      split
      · exact Nat.le_add_right _ _
      · rename_i he
        obtain ⟨t1, t2, t3⟩ := tokAt_size hi (by simpa using he)
        have h1 := skipAt_ge s (i + (tokAt s i).1.text.size)
        have h2 := skipAt_le t2
        have := toksF_wt s f _ (out ++ [(tokAt s i).1]) h2
        rw [wtL_snoc] at this
        omega
    · exact Nat.le_add_right _ _
theorem toksAll_wt (s : ByteArray) : wtL (toksAll s).1 ≤ 3 * s.size := by
  have h : wtL (toks s).1 ≤ 3 * s.size := by
    unfold toks
    split
    · exact Nat.zero_le _
    · have := toksF_wt s (s.size + 1) (skipAt s 0) [] (skipAt_le (Nat.zero_le _))
      have e : wtL ([] : List Tk) = 0 := rfl
      omega
  unfold toksAll
  split
  · exact Nat.zero_le _
  · exact h
end Go.Vs
namespace Go.Proofs.YtaeehadibckcjaaDoor
open Go.RowKit Go.Vs Go.Vs.Ab
set_option maxRecDepth 100000
/-! ### sizes of texts -/
theorem saidK_wt {a : Atm} : ∀ k, k ≤ a.count → (psaidK a k).size + (if k = 0 then 0 else 1) = a.pred.size + wtT ((termsOf a).take k)
  | 0, _ => rfl
  | k + 1, hk => by
    have ih := saidK_wt (a := a) k (by omega)
    have ht : (termsOf a).take (k + 1) = (termsOf a).take k ++ [a.arg k] := by
      rw [List.take_add_one, terms_get a (by omega)]
      rfl
    have z1 : tOpen.size = 1 := rfl
    have z2 : tComma.size = 2 := rfl
    unfold psaidK
    rw [ht, wtT_snoc, app_size, app_size, if_neg (Nat.succ_ne_zero k)]
    by_cases h0 : k = 0
    · rw [if_pos h0] at ih ⊢
      omega
    · rw [if_neg h0] at ih ⊢
      omega
theorem said_wt (a : Atm) : (psaid a).size = a.pred.size + wtT (termsOf a) := by
  have h := saidK_wt (a := a) a.count (Nat.le_refl _)
  have hl := terms_len a
  rw [List.take_of_length_le (by omega)] at h
  have z2 : tShut.size = 1 := rfl
  unfold psaid
  by_cases h0 : a.count = 0
  · rw [if_neg (by omega)]
    rw [if_pos h0] at h
    have : termsOf a = [] := List.eq_nil_of_length_eq_zero (by omega)
    rw [this]
    rfl
  · rw [if_pos (by omega), app_size]
    rw [if_neg h0] at h
    omega
theorem text_wt (a : Atm) : (ptext a).size + 4 = atW a := by
  have := said_wt a
  have z1 : tSays.size = 6 := rfl
  unfold ptext atW
  rw [app_size, app_size]
  omega
theorem bodyK_wt (l : List Atm) : ∀ k, k ≤ l.length → (pbodyK l k).size ≤ wtA (l.take k) + (if k = 0 then 0 else 4)
  | 0, _ => Nat.zero_le _
  | k + 1, hk => by
    have ih := bodyK_wt l k (by omega)
    have ht := text_wt l[k]
    rw [pbodyK_next (by omega), List.take_succ_eq_append_getElem (by omega), wtA_snoc, app_size, app_size, if_neg (Nat.succ_ne_zero k)]
    have z1 : tIf.size = 4 := rfl
    have z2 : tComma.size = 2 := rfl
    by_cases h0 : k = 0
    · rw [if_pos h0] at ih ⊢
      omega
    · rw [if_neg h0] at ih ⊢
      omega
theorem body_wt (l : List Atm) : (pbody l).size ≤ wtA l + (if l = [] then 0 else 4) := by
  have h := bodyK_wt l l.length (Nat.le_refl _)
  rw [List.take_of_length_le (Nat.le_refl _)] at h
  have : (if l.length = 0 then 0 else 4) = (if l = [] then 0 else 4) := by
    cases l with
    | nil => rfl
    | cons => rw [if_neg (by simp), if_neg (by simp)]
  rw [this] at h
  exact h
theorem join_wt : ∀ l : List ByteArray, (joinB l tComma).size ≤ wtS l
  | [] => Nat.le_refl _
  | [x] => by
    have e : joinB [x] tComma = x := by
      apply ba_ext
      simp [joinB, Lib.join]
    rw [e]
    simp only [wtS]
    omega
  | x :: y :: l => by
    have ih := join_wt (y :: l)
    have z2 : tComma.size = 2 := rfl
    rw [join_cons, app_size, app_size]
    simp only [wtS] at ih ⊢
    omega
theorem itoa_small {n : Int} (h0 : 0 ≤ n) (h1 : n ≤ 9999999) : (itoaB n).size ≤ 7 := by
  have hl := itoa_dec h0
  have hlen := dec_len 6 n.toNat (by omega)
  rw [← hl, lts_len] at hlen
  exact hlen
/-! ### what is collected -/
def lsz {T : Type} (f : T → ByteArray) (l : List T) : Nat := (linesB (l.map f)).size
theorem lsz_snoc {T : Type} (f : T → ByteArray) (l : List T) (x : T) : lsz f (l ++ [x]) = lsz f l + ((f x).size + 1) := by
  unfold lsz
  rw [List.map_append, lines_app, app_size]
  congr 1
  show ((f x ++ nlB) ++ ⟨#[]⟩).size = _
  rw [app_e, app_size]
  rfl
def psz (p : Pp) : Nat := lsz (fun x => lnOf (prPrin x)) p.prin + lsz (fun x => lnOf (prPred x)) p.preds + lsz (fun x => lnOf (prClr x)) p.clears + lsz (fun x => lnOf (prRul x)) p.rules + lsz (fun x => lnOf (prGrt x)) p.grants
def pcnt (p : Pp) : Nat := p.prin.length + p.preds.length + p.clears.length + p.rules.length + p.grants.length
structure Good (W : Nat) (p : Pp) : Prop where
  prin : ∀ x ∈ p.prin, pprincipal x = true
  preds : ∀ x ∈ p.preds, okPd x = true
  clears : ∀ x ∈ p.clears, okCl x = true ∧ 3 * x.reads.length ≤ W ∧ (joinB x.reads tComma).size ≤ W
  rules : ∀ x ∈ p.rules, okRu x = true ∧ 12 * x.body.length ≤ W
  grants : ∀ x ∈ p.grants, okGr x = true ∧ 12 * x.body.length ≤ W
  quota : 0 ≤ p.quota ∧ p.quota ≤ 9999999
  budget : 0 ≤ p.budget ∧ p.budget ≤ 9999999
theorem mem_snoc {T : Type} {P : T → Prop} {l : List T} {x : T} (h : ∀ y ∈ l, P y) (hx : P x) : ∀ y ∈ l ++ [x], P y := fun y hy => by
  rw [List.mem_append, List.mem_singleton] at hy
  rcases hy with hy | rfl
  · exact h y hy
  · exact hx
theorem all_of {l : List Atm} (h : ∀ a ∈ l, pcheck3 a = 0) : l.all okA = true := by
  rw [List.all_eq_true]
  exact fun a ha => decide_eq_true (h a ha)
theorem ln_size (x : ByteArray) : (lnOf [x]).size = x.size + 1 := by
  unfold lnOf
  rw [cat1, app_size]
  rfl
variable {L : List Tk} {n : Int}
theorem says_ok {W : Nat} {r : Rs} {p : Pp} (hW : wt L r ≤ W) (hg : Good W p) (h : (saysF L n r p).1.e = 0) :
    r.e = 0 ∧ Good W (saysF L n r p).2 ∧ psz (saysF L n r p).2 + 4 * wt L (saysF L n r p).1 ≤ psz p + 4 * wt L r ∧ 12 + wt L (saysF L n r p).1 ≤ wt L r ∧ pcnt (saysF L n r p).2 = pcnt p + 1 := by
  unfold saysF at h ⊢
  dsimp only at h ⊢
  have z1 : kSays.size = 4 := rfl
  have z2 : kCan.size = 6 := rfl
  have y1 : tSays.size = 6 := rfl
  have y2 : tCan.size = 8 := rfl
  by_cases hc : canT L (mustT L n (nextR L n r 0) kSays) = true
  · rw [if_pos hc] at h ⊢
    dsimp only at h ⊢
    obtain ⟨b1, b2, b3, b4⟩ := body_ok h
    obtain ⟨s1, s2, s3, s4, s5⟩ := said_ok b1
    obtain ⟨m1, m2⟩ := must_wt s1
    obtain ⟨t1, t2, t3⟩ := next_wt m1
    obtain ⟨u1, u2⟩ := must_wt t1
    obtain ⟨v1, v2, v3⟩ := next_wt u1
    have t2 : pprincipal (nextS L (mustT L n (nextR L n r 0) kSays) 0) = true := t2
    have v2 : pprincipal (nextS L r 0) = true := v2
    have ha := s2 v2
    generalize saidF L n (mustT L n (nextR L n (mustT L n (nextR L n r 0) kSays) 0) kCan) (nextS L r 0) = q at *
    obtain ⟨r3, a⟩ := q
    dsimp only at *
    generalize bodyF L n r3 = q2 at *
    obtain ⟨r4, B⟩ := q2
    dsimp only at *
    generalize nextS L (mustT L n (nextR L n r 0) kSays) 0 = tw at *
    have hokG : okGr ⟨tw, a, B.isEmpty, B⟩ = true := by
      unfold okGr
      rw [t2, all_of b2, show okA a = true from decide_eq_true ha]
      rfl
    have hb := body_wt B
    have hsd := said_wt a
    have hls : (lnOf (prGrt ⟨tw, a, B.isEmpty, B⟩)).size = a.says.size + (6 + (tw.size + (8 + (psaid a).size))) + (pbody B).size + 1 := by
      unfold prGrt
      rw [ln_size]
      unfold pGrant
      show (catB [a.says, tSays, tw, tCan, psaid a] ++ pbody B).size + 1 = _
      have e : catB [a.says, tSays, tw, tCan, psaid a] = a.says ++ (tSays ++ (tw ++ (tCan ++ psaid a))) := by
        show a.says ++ (tSays ++ (tw ++ (tCan ++ (psaid a ++ ⟨#[]⟩)))) = _
        rw [app_e]
      rw [e]
      simp only [app_size]
      omega
    have hsn := lsz_snoc (fun x => lnOf (prGrt x)) p.grants ⟨tw, a, B.isEmpty, B⟩
    rw [← s3] at v3
    have hv := prin_pos (ok_parts ha).1
    have ht := prin_pos t2
    refine ⟨v1, ⟨hg.prin, hg.preds, hg.clears, hg.rules, mem_snoc hg.grants ⟨hokG, by dsimp only; omega⟩, hg.quota, hg.budget⟩, ?_, ?_, ?_⟩
    · unfold psz
      dsimp only
      rw [hsn]
      omega
    · omega
    · unfold pcnt
      simp only [List.length_append, List.length_cons, List.length_nil]
      omega
  · rw [if_neg hc] at h ⊢
    dsimp only at h ⊢
    obtain ⟨b1, b2, b3, b4⟩ := body_ok h
    obtain ⟨s1, s2, s3, s4, s5⟩ := said_ok b1
    obtain ⟨u1, u2⟩ := must_wt s1
    obtain ⟨v1, v2, v3⟩ := next_wt u1
    have v2 : pprincipal (nextS L r 0) = true := v2
    have ha := s2 v2
    generalize saidF L n (mustT L n (nextR L n r 0) kSays) (nextS L r 0) = q at *
    obtain ⟨r3, a⟩ := q
    dsimp only at *
    generalize bodyF L n r3 = q2 at *
    obtain ⟨r4, B⟩ := q2
    dsimp only at *
    have hokR : okRu ⟨a, B.isEmpty, B⟩ = true := by
      unfold okRu
      rw [all_of b2, show okA a = true from decide_eq_true ha]
      rfl
    have hb := body_wt B
    have htx := text_wt a
    unfold atW at htx
    have hls : (lnOf (prRul ⟨a, B.isEmpty, B⟩)).size = (ptext a).size + (pbody B).size + 1 := by
      unfold prRul
      rw [ln_size]
      unfold pRule
      rw [app_size]
    have hsn := lsz_snoc (fun x => lnOf (prRul x)) p.rules ⟨a, B.isEmpty, B⟩
    rw [← s3] at v3
    have hv := prin_pos (ok_parts ha).1
    refine ⟨v1, ⟨hg.prin, hg.preds, hg.clears, mem_snoc hg.rules ⟨hokR, by dsimp only; omega⟩, hg.grants, hg.quota, hg.budget⟩, ?_, ?_, ?_⟩
    · unfold psz
      dsimp only
      rw [hsn]
      omega
    · omega
    · unfold pcnt
      simp only [List.length_append, List.length_cons, List.length_nil]
      omega
theorem once_e {r : Rs} {b : Bool} (h : (onceR L n r b).e = 0) : onceR L n r b = r ∧ r.e = 0 := by
  unfold onceR at *
  split at h
  · exact absurd h (fail_e (by decide))
  · rename_i hb
    rw [if_neg hb]
    exact ⟨rfl, h⟩
theorem arm_ok {W : Nat} {st : Pst} (hW : wt L st.r ≤ W) (hg : Good W st.p) (h : (armF L n st).r.e = 0) :
    st.r.e = 0 ∧ Good W (armF L n st).p ∧ psz (armF L n st).p + 4 * wt L (armF L n st).r ≤ psz st.p + 4 * wt L st.r + 2 ∧ 9 + wt L (armF L n st).r ≤ wt L st.r ∧ pcnt (armF L n st).p ≤ pcnt st.p + 1 := by
  obtain ⟨r, p, wq, wb⟩ := st
  dsimp only at hW hg ⊢
  unfold armF at h ⊢
  dsimp only at h ⊢
  by_cases h1 : isT L r kPrin = true
  · rw [if_pos h1] at h ⊢
    dsimp only at h ⊢
    obtain ⟨i1, i2⟩ := isT_wt h1
    obtain ⟨n1, n2, n3⟩ := next_wt h
    have n2 : pprincipal (nextS L r.adv 0) = true := n2
    have hpos := prin_pos n2
    generalize nextS L r.adv 0 = s at *
    have z1 : kPrin.size = 9 := rfl
    have y1 : tPrin.size = 10 := rfl
    have hls : (lnOf (prPrin s)).size = 10 + s.size + 1 := by
      unfold lnOf prPrin
      rw [cat2, app_size, app_size, y1]
      rfl
    have hsn := lsz_snoc (fun x => lnOf (prPrin x)) p.prin s
    refine ⟨i1, ⟨mem_snoc hg.prin n2, hg.preds, hg.clears, hg.rules, hg.grants, hg.quota, hg.budget⟩, ?_, by omega, ?_⟩
    · unfold psz
      dsimp only
      rw [hsn]
      omega
    · unfold pcnt
      simp only [List.length_append, List.length_cons, List.length_nil]
      omega
  rw [if_neg h1] at h ⊢
  by_cases h2 : isT L r kPred = true
  · rw [if_pos h2] at h ⊢
    dsimp only at h ⊢
    obtain ⟨i1, i2⟩ := isT_wt h2
    obtain ⟨k1, k2, k3, k4⟩ := num_ok h
    obtain ⟨m1, m2⟩ := must_wt k1
    obtain ⟨n1, n2, n3⟩ := next_wt m1
    have n2 : pprincipal (nextS L r.adv 1) = true := n2
    have hpos := prin_pos n2
    generalize numB (nextS L (mustT L n (nextR L n r.adv 1) kSl) 3) = u at *
    generalize nextS L r.adv 1 = s at *
    have z1 : kPred.size = 4 := rfl
    have z2 : kSl.size = 1 := rfl
    have y1 : tPred.size = 5 := rfl
    have y2 : tSl.size = 1 := rfl
    have hi := itoa_small k2 k3
    have hls : (lnOf (prPred ⟨s, u⟩)).size = 5 + (s.size + (1 + (itoaB u).size)) + 1 := by
      unfold lnOf prPred
      rw [app_size, cat4, y1, y2]
      rfl
    have hsn := lsz_snoc (fun x => lnOf (prPred x)) p.preds ⟨s, u⟩
    have hok : okPd ⟨s, u⟩ = true := by
      unfold okPd
      rw [n2, show decide (u ≥ 0) = true from decide_eq_true k2, show decide (u ≤ 9999999) = true from decide_eq_true k3]
      rfl
    refine ⟨i1, ⟨hg.prin, mem_snoc hg.preds hok, hg.clears, hg.rules, hg.grants, hg.quota, hg.budget⟩, ?_, by omega, ?_⟩
    · unfold psz
      dsimp only
      rw [hsn]
      omega
    · unfold pcnt
      simp only [List.length_append, List.length_cons, List.length_nil]
      omega
  rw [if_neg h2] at h ⊢
  by_cases h3 : isT L r kClear = true
  · rw [if_pos h3] at h ⊢
    dsimp only at h ⊢
    obtain ⟨i1, i2⟩ := isT_wt h3
    obtain ⟨c1, c2, c3, c4, c5, c6⟩ := clear_ok h
    generalize clearF L n r.adv = q at *
    obtain ⟨r2, w, B⟩ := q
    dsimp only at *
    have hpos := prin_pos c2
    have hj := join_wt B
    have z1 : kClear.size = 5 := rfl
    have y1 : tClr.size = 6 := rfl
    have y2 : tCol.size = 1 := rfl
    have y3 : tSp.size = 1 := rfl
    have hlen : 0 < B.length := List.length_pos_iff.2 c3
    have hls : (lnOf (prClr ⟨w, B.isEmpty, B⟩)).size = 6 + w.size + 1 + (1 + (joinB B tComma).size) + 1 := by
      unfold prClr
      rw [ln_size]
      unfold pClear
      rw [if_neg (by dsimp only; omega), app_size, app_size, app_size, app_size, y1, y2, y3]
    have hsn := lsz_snoc (fun x => lnOf (prClr x)) p.clears ⟨w, B.isEmpty, B⟩
    have hok : okCl ⟨w, B.isEmpty, B⟩ = true := by
      unfold okCl
      dsimp only
      rw [c2, show decide ((B.length : Int) > 0) = true from decide_eq_true (by omega), show B.all pprincipal = true from List.all_eq_true.2 c4]
      rfl
    refine ⟨i1, ⟨hg.prin, hg.preds, mem_snoc hg.clears ⟨hok, by dsimp only; omega, by dsimp only; omega⟩, hg.rules, hg.grants, hg.quota, hg.budget⟩, ?_, by omega, ?_⟩
    · unfold psz
      dsimp only
      rw [hsn]
      omega
    · unfold pcnt
      simp only [List.length_append, List.length_cons, List.length_nil]
      omega
  rw [if_neg h3] at h ⊢
  by_cases h4 : isT L r kQuota = true
  · rw [if_pos h4] at h ⊢
    dsimp only at h ⊢
    obtain ⟨i1, i2⟩ := isT_wt h4
    obtain ⟨k1, k2, k3, k4⟩ := num_ok h
    obtain ⟨o1, o2⟩ := once_e k1
    rw [o1] at k4 k2 k3 ⊢
    have z1 : kQuota.size = 5 := rfl
    exact ⟨i1, ⟨hg.prin, hg.preds, hg.clears, hg.rules, hg.grants, ⟨k2, k3⟩, hg.budget⟩, by unfold psz; dsimp only; omega, by omega, by unfold pcnt; dsimp only; omega⟩
  rw [if_neg h4] at h ⊢
  by_cases h5 : isT L r kBudget = true
  · rw [if_pos h5] at h ⊢
    dsimp only at h ⊢
    obtain ⟨i1, i2⟩ := isT_wt h5
    obtain ⟨k1, k2, k3, k4⟩ := num_ok h
    obtain ⟨o1, o2⟩ := once_e k1
    rw [o1] at k4 k2 k3 ⊢
    have z1 : kBudget.size = 6 := rfl
    exact ⟨i1, ⟨hg.prin, hg.preds, hg.clears, hg.rules, hg.grants, hg.quota, ⟨k2, k3⟩⟩, by unfold psz; dsimp only; omega, by omega, by unfold pcnt; dsimp only; omega⟩
  rw [if_neg h5] at h ⊢
  dsimp only at h ⊢
  obtain ⟨q1, q2, q3, q4, q5⟩ := says_ok hW hg h
  exact ⟨q1, q2, by omega, by omega, by omega⟩
theorem step_ok {W : Nat} {st : Pst} (hW : wt L st.r ≤ W) (hg : Good W st.p) (h : (stepF L n st).r.e = 0) :
    Good W (stepF L n st).p ∧ psz (stepF L n st).p + 4 * wt L (stepF L n st).r ≤ psz st.p + 4 * wt L st.r ∧ 12 * pcnt (stepF L n st).p + wt L (stepF L n st).r ≤ 12 * pcnt st.p + wt L st.r ∧ wt L (stepF L n st).r ≤ W := by
  unfold stepF at h ⊢
  dsimp only at h ⊢
  obtain ⟨m1, m2⟩ := must_wt h
  obtain ⟨q1, q2, q3, q4, q5⟩ := arm_ok hW hg m1
  have z : kDot.size = 1 := rfl
  exact ⟨q2, by omega, by omega, by omega⟩
theorem polL_ok {W : Nat} : ∀ (f : Nat) (st : Pst), wt L st.r ≤ W → Good W st.p → (polL L n f st).r.e = 0 → Good W (polL L n f st).p ∧ psz (polL L n f st).p ≤ psz st.p + 4 * wt L st.r ∧ 12 * pcnt (polL L n f st).p ≤ 12 * pcnt st.p + wt L st.r
  | 0, st, hW, hg, h => ⟨hg, Nat.le_add_right _ _, Nat.le_add_right _ _⟩
  | f + 1, st, hW, hg, h => by
    rw [polL_succ] at h ⊢
    by_cases hc : st.r.e = 0 ∧ st.r.i < L.length
    · rw [if_pos hc] at h ⊢
      -- an error at this step would stay
      by_cases he : (stepF L n st).r.e = 0
      · obtain ⟨q1, q2, q3, q4⟩ := step_ok hW hg he
        obtain ⟨p1, p2, p3⟩ := polL_ok f (stepF L n st) q4 q1 h
        exact ⟨p1, by omega, by omega⟩
      · rw [polL_end L n f (stepF L n st) (fun hh => he hh.1)] at h
        exact absurd h he
    · rw [if_neg hc] at h ⊢
      exact ⟨hg, Nat.le_add_right _ _, Nat.le_add_right _ _⟩
theorem good0 (W : Nat) : Good W pp0 := ⟨(fun _ h => by cases h), (fun _ h => by cases h), (fun _ h => by cases h), (fun _ h => by cases h), (fun _ h => by cases h), (by show (0 : Int) ≤ 0 ∧ (0 : Int) ≤ 9999999; decide), (by show (0 : Int) ≤ 0 ∧ (0 : Int) ≤ 9999999; decide)⟩
theorem parse_ok {s : ByteArray} (hz : s.size ≤ 1500) (h : (polParse s).2.2 = 0) : ∃ p : Pp, (polParse s).1 = polOf p ∧ Good 4500 p ∧ psz p ≤ 18000 ∧ 12 * pcnt p ≤ 4500 := by
  have hw := toksAll_wt s
  unfold polParse at h ⊢
  split at h
  · exact absurd h (by assumption)
  · rename_i h1
    rw [if_neg h1]
    split at h
    · exact absurd h (by assumption)
    · rename_i h2
      rw [if_neg h2]
      have h2 : (polS (toksAll s).1 s.size).r.e = 0 := by simpa using h2
      have hwt : wt (toksAll s).1 (⟨0, 0, 0⟩ : Rs) ≤ 4500 := by
        show wtL ((toksAll s).1.drop 0) ≤ _
        rw [List.drop_zero]
        omega
      obtain ⟨q1, q2, q3⟩ := polL_ok (L := (toksAll s).1) (n := s.size) (W := 4500) ((toksAll s).1.length + 1) ⟨⟨0, 0, 0⟩, pp0, false, false⟩ hwt (good0 _) h2
      have e1 : psz pp0 = 0 := rfl
      have e2 : pcnt pp0 = 0 := rfl
      dsimp only at q2 q3
      exact ⟨_, rfl, q1, by unfold polS; omega, by unfold polS; omega⟩
theorem good_plain {p : Pp} {W : Nat} (h : Good W p) : plainP (polOf p) = true := by
  unfold plainP plain0 polOf
  dsimp only
  rw [show decide (p.quota ≥ 0) = true from decide_eq_true h.quota.1, show decide (p.quota ≤ 9999999) = true from decide_eq_true h.quota.2, show decide (p.budget ≥ 0) = true from decide_eq_true h.budget.1, show decide (p.budget ≤ 9999999) = true from decide_eq_true h.budget.2, show p.prin.all pprincipal = true from List.all_eq_true.2 h.prin, show p.preds.all okPd = true from List.all_eq_true.2 h.preds, show p.clears.all okCl = true from List.all_eq_true.2 (fun x hx => (h.clears x hx).1), show p.rules.all okRu = true from List.all_eq_true.2 (fun x hx => (h.rules x hx).1), show p.grants.all okGr = true from List.all_eq_true.2 (fun x hx => (h.grants x hx).1)]
  rfl
theorem good_size {p : Pp} {W : Nat} (h : Good W p) : (pPolicy (polOf p)).size ≤ psz p + 40 := by
  have i1 := itoa_small h.quota.1 h.quota.2
  have i2 := itoa_small h.budget.1 h.budget.2
  have y1 : tQuo.size = 6 := rfl
  have y2 : tBud.size = 7 := rfl
  have y3 : dotB.size = 1 := rfl
  have y4 : nlB.size = 1 := rfl
  have y5 : (⟨#[]⟩ : ByteArray).size = 0 := rfl
  rw [policy_lines]
  unfold linesP polOf psz lsz
  dsimp only
  simp only [lines_app, app_size]
  have e : ∀ a b : ByteArray, (linesB [a, b]).size = (a.size + 1) + (b.size + 1) := fun a b => by
    show ((a ++ nlB) ++ ((b ++ nlB) ++ ⟨#[]⟩)).size = _
    rw [app_e]
    simp only [app_size, y4]
  rw [e]
  simp only [app_size]
  omega
theorem atSz_ok {a : Atm} (h : pcheck3 a = 0) : AtSz a := by
  have hs := prin_size (ok_parts h).1
  have hp := prin_size (ok_parts h).2.1
  refine ⟨by omega, by omega, fun k => ?_⟩
  have key : ∀ k, k < 4 → (a.arg k).name.size ≤ 1000000 := fun k hk => by
    by_cases hlt : k < a.count
    · have := term_size (ok_term h hlt)
      omega
    · rw [ok_rest h (by omega) hk]
      exact Nat.zero_le _
  by_cases hk : k < 4
  · exact key k hk
  · obtain ⟨j, rfl⟩ : ∃ j, k = j + 4 := ⟨k - 4, by omega⟩
    exact key 3 (by omega)
theorem good_ok {p : Pp} (h : Good 4500 p) (hc : 12 * pcnt p ≤ 4500) : PolOk (polOf p) := by
  unfold pcnt at hc
  have bod : ∀ {l : List Atm}, l.all okA = true → ∀ a ∈ l, AtSz a := fun hl a ha => atSz_ok (all_okA hl a ha)
  refine ⟨⟨?_, fun s hs => ?_⟩, ⟨?_, fun x hx => ?_⟩, ⟨?_, fun c hcc => ?_⟩, ?_, ?_, ⟨?_, fun x hx => ?_⟩, ⟨?_, fun x hx => ?_⟩⟩
  · show p.prin.length ≤ _; omega
  · have := prin_size (h.prin s hs); omega
  · show p.preds.length ≤ _; omega
  · have hx := h.preds x hx
    unfold okPd at hx
    simp only [Bool.and_eq_true, decide_eq_true_eq] at hx
    have := prin_size hx.1
    exact ⟨by omega, by omega, by omega⟩
  · show p.clears.length ≤ _; omega
  · obtain ⟨h1, h2, h3⟩ := h.clears c hcc
    unfold okCl at h1
    rw [Bool.and_eq_true] at h1
    have := prin_size h1.1
    exact ⟨by omega, by omega, by omega⟩
  · show _ ≤ p.quota ∧ p.quota ≤ _
    have := h.quota; omega
  · show _ ≤ p.budget ∧ p.budget ≤ _
    have := h.budget; omega
  · show p.rules.length ≤ _; omega
  · obtain ⟨h1, h2⟩ := h.rules x hx
    unfold okRu at h1
    rw [Bool.and_eq_true] at h1
    exact ⟨atSz_ok (of_decide_eq_true h1.1), bod h1.2, by omega⟩
  · show p.grants.length ≤ _; omega
  · obtain ⟨h1, h2⟩ := h.grants x hx
    unfold okGr at h1
    rw [Bool.and_eq_true, Bool.and_eq_true] at h1
    have := prin_size h1.1
    exact ⟨by omega, atSz_ok (of_decide_eq_true h1.2.1), bod h1.2.2, by omega⟩
end Go.Proofs.YtaeehadibckcjaaDoor
namespace Go.Proofs.YtaeehadibckcjaaDoor
open Go.RowKit Go.Vs Go.Vs.Ab
set_option maxRecDepth 100000
set_option maxHeartbeats 4000000
theorem polOk_back {p : Pol} (k : PolOk p) : PolOk (polOf (ppOf p)) := by
  refine ⟨k.prin, k.preds, ⟨?_, ?_⟩, k.quota, k.budget, ⟨?_, ?_⟩, ⟨?_, ?_⟩⟩
  · show (p.clears.map nrmC).length ≤ _
    rw [List.length_map]; exact k.clears.1
  · intro c hc
    have hc : c ∈ p.clears.map nrmC := hc
    obtain ⟨d, hd, rfl⟩ := List.mem_map.1 hc
    exact k.clears.2 d hd
  · show (p.rules.map nrmR).length ≤ _
    rw [List.length_map]; exact k.rules.1
  · intro c hc
    have hc : c ∈ p.rules.map nrmR := hc
    obtain ⟨d, hd, rfl⟩ := List.mem_map.1 hc
    exact k.rules.2 d hd
  · show (p.grants.map nrmG).length ≤ _
    rw [List.length_map]; exact k.grants.1
  · intro c hc
    have hc : c ∈ p.grants.map nrmG := hc
    obtain ⟨d, hd, rfl⟩ := List.mem_map.1 hc
    exact k.grants.2 d hd
theorem preads_does (s : ByteArray) : Does Tryd.prog 3 [sA s] (fun m => (bA true, m)) := by
  have c0 := lives11_does
  cases h1 : decide ((s.size : Int) > 1500) with
  | true =>
    refine does_of' Tryd.func3 rfl (by kernel_rfl) rfl Tryd.ntmps3 rfl rfl fun Q hQ => ?_
    repeat (first | refine tr_seq_k fun _ _ => ?_ | (refine tr_region ?_; simp only [go_sem, reduceCtorEq, Nat.reduceEqDiff, Nat.reduceLT, Nat.reduceLeDiff, Nat.reduceAdd, Nat.reduceMul, Nat.reduceSub, Nat.reduceBEq, ↓reduceIte]) | (refine call_of (c0) ?_ ?_; (first | rfl | simp only [go_sem, reduceCtorEq, Nat.reduceEqDiff, Nat.reduceLT, Nat.reduceLeDiff, Nat.reduceAdd, Nat.reduceMul, Nat.reduceSub, Nat.reduceBEq, ↓reduceIte, shut_col]); simp only [go_sem, reduceCtorEq, Nat.reduceEqDiff, Nat.reduceLT, Nat.reduceLeDiff, Nat.reduceAdd, Nat.reduceMul, Nat.reduceSub, Nat.reduceBEq, ↓reduceIte]) | refine k_of (by assumption) ?_)
    refine tr_cond rfl (fun ht => ?_) (fun hf => ?_)
    · cases ht
    · repeat (first | refine tr_seq_k fun _ _ => ?_ | (refine tr_region ?_; simp only [go_sem, reduceCtorEq, Nat.reduceEqDiff, Nat.reduceLT, Nat.reduceLeDiff, Nat.reduceAdd, Nat.reduceMul, Nat.reduceSub, Nat.reduceBEq, ↓reduceIte, h1]) | refine k_of (by assumption) ?_ | (refine tr_skip ?_; try simp only [ex_seq, ex_block]))
      refine tr_cond rfl (fun ht => ?_) (fun hf => ?_)
      · repeat (first | refine tr_seq_k fun _ _ => ?_ | (refine tr_region ?_; simp only [go_sem, reduceCtorEq, Nat.reduceEqDiff, Nat.reduceLT, Nat.reduceLeDiff, Nat.reduceAdd, Nat.reduceMul, Nat.reduceSub, Nat.reduceBEq, ↓reduceIte]) | refine k_of (by assumption) ?_ | (refine tr_ret ?_; try simp only [ex_seq_ret, ex_block_ret]))
        refine (hQ _ _ [bA true] ?_ (fun m => ?_)).2 <;> simp only [go_sem, reduceCtorEq, Nat.reduceEqDiff, Nat.reduceLT, Nat.reduceLeDiff, Nat.reduceAdd, Nat.reduceMul, Nat.reduceSub, Nat.reduceBEq, ↓reduceIte, Tryd.f3,]
      · cases hf
  | false =>
    have hz : s.size ≤ 1500 := by have := of_decide_eq_false h1; omega
    have c1 := parsePol_does s (by omega)
    have hok := parse_ok hz
    generalize polParse s = x at *
    obtain ⟨x, pos, e⟩ := x
    dsimp only at *
    cases h2 : decide (e = 0) with
    | false =>
      refine does_of' Tryd.func3 rfl (by kernel_rfl) rfl Tryd.ntmps3 rfl rfl fun Q hQ => ?_
      repeat (first | refine tr_seq_k fun _ _ => ?_ | (refine tr_region ?_; simp only [go_sem, reduceCtorEq, Nat.reduceEqDiff, Nat.reduceLT, Nat.reduceLeDiff, Nat.reduceAdd, Nat.reduceMul, Nat.reduceSub, Nat.reduceBEq, ↓reduceIte]) | (refine call_of (c0) ?_ ?_; (first | rfl | simp only [go_sem, reduceCtorEq, Nat.reduceEqDiff, Nat.reduceLT, Nat.reduceLeDiff, Nat.reduceAdd, Nat.reduceMul, Nat.reduceSub, Nat.reduceBEq, ↓reduceIte, shut_col]); simp only [go_sem, reduceCtorEq, Nat.reduceEqDiff, Nat.reduceLT, Nat.reduceLeDiff, Nat.reduceAdd, Nat.reduceMul, Nat.reduceSub, Nat.reduceBEq, ↓reduceIte]) | refine k_of (by assumption) ?_)
      refine tr_cond rfl (fun ht => ?_) (fun hf => ?_)
      · cases ht
      · repeat (first | refine tr_seq_k fun _ _ => ?_ | (refine tr_region ?_; simp only [go_sem, reduceCtorEq, Nat.reduceEqDiff, Nat.reduceLT, Nat.reduceLeDiff, Nat.reduceAdd, Nat.reduceMul, Nat.reduceSub, Nat.reduceBEq, ↓reduceIte, h1]) | refine k_of (by assumption) ?_ | (refine tr_skip ?_; try simp only [ex_seq, ex_block]))
        refine tr_cond rfl (fun ht => ?_) (fun hf => ?_)
        · cases ht
        · repeat (first | refine tr_seq_k fun _ _ => ?_ | (refine tr_region ?_; simp only [go_sem, reduceCtorEq, Nat.reduceEqDiff, Nat.reduceLT, Nat.reduceLeDiff, Nat.reduceAdd, Nat.reduceMul, Nat.reduceSub, Nat.reduceBEq, ↓reduceIte, h2]) | (refine call_of (c1) ?_ ?_; (first | rfl | simp only [go_sem, reduceCtorEq, Nat.reduceEqDiff, Nat.reduceLT, Nat.reduceLeDiff, Nat.reduceAdd, Nat.reduceMul, Nat.reduceSub, Nat.reduceBEq, ↓reduceIte, h2, shut_col]); simp only [go_sem, reduceCtorEq, Nat.reduceEqDiff, Nat.reduceLT, Nat.reduceLeDiff, Nat.reduceAdd, Nat.reduceMul, Nat.reduceSub, Nat.reduceBEq, ↓reduceIte, h2]) | refine k_of (by assumption) ?_ | (refine tr_skip ?_; try simp only [ex_seq, ex_block]))
          refine tr_cond rfl (fun ht => ?_) (fun hf => ?_)
          · repeat (first | refine tr_seq_k fun _ _ => ?_ | (refine tr_region ?_; simp only [go_sem, reduceCtorEq, Nat.reduceEqDiff, Nat.reduceLT, Nat.reduceLeDiff, Nat.reduceAdd, Nat.reduceMul, Nat.reduceSub, Nat.reduceBEq, ↓reduceIte]) | refine k_of (by assumption) ?_ | (refine tr_ret ?_; try simp only [ex_seq_ret, ex_block_ret]))
            refine (hQ _ _ [bA true] ?_ (fun m => ?_)).2 <;> simp only [go_sem, reduceCtorEq, Nat.reduceEqDiff, Nat.reduceLT, Nat.reduceLeDiff, Nat.reduceAdd, Nat.reduceMul, Nat.reduceSub, Nat.reduceBEq, ↓reduceIte, Tryd.f3,]
          · cases hf
    | true =>
      obtain ⟨p, rfl, hg, hp1, hp2⟩ := hok (of_decide_eq_true h2)
      have hk := good_ok hg hp2
      have hpl := good_plain hg
      have hsz := good_size hg
      have cT := polText_does (polOf p) hk
      have cR := parsePol_does (pPolicy (polOf p)) (by omega)
      rw [back_law hpl (by omega)] at cR
      have cS := samePol_does (polOf p) (polOf (ppOf (polOf p))) (polLen_ok hk)
      rw [decide_eq_true (dat_back (polOf p)).symm] at cS
      have cT2 := polText_does (polOf (ppOf (polOf p))) (polOk_back hk)
      rw [policy_dat (dat_back (polOf p))] at cT2
      generalize polOf (ppOf (polOf p)) = y at *
      generalize polOf p = x at *
      generalize pPolicy x = T at *
      refine does_of' Tryd.func3 rfl (by kernel_rfl) rfl Tryd.ntmps3 rfl rfl fun Q hQ => ?_
      repeat (first | refine tr_seq_k fun _ _ => ?_ | (refine tr_region ?_; simp only [go_sem, reduceCtorEq, Nat.reduceEqDiff, Nat.reduceLT, Nat.reduceLeDiff, Nat.reduceAdd, Nat.reduceMul, Nat.reduceSub, Nat.reduceBEq, ↓reduceIte]) | (refine call_of (c0) ?_ ?_; (first | rfl | simp only [go_sem, reduceCtorEq, Nat.reduceEqDiff, Nat.reduceLT, Nat.reduceLeDiff, Nat.reduceAdd, Nat.reduceMul, Nat.reduceSub, Nat.reduceBEq, ↓reduceIte, shut_col]); simp only [go_sem, reduceCtorEq, Nat.reduceEqDiff, Nat.reduceLT, Nat.reduceLeDiff, Nat.reduceAdd, Nat.reduceMul, Nat.reduceSub, Nat.reduceBEq, ↓reduceIte]) | refine k_of (by assumption) ?_)
      refine tr_cond rfl (fun ht => ?_) (fun hf => ?_)
      · cases ht
      · repeat (first | refine tr_seq_k fun _ _ => ?_ | (refine tr_region ?_; simp only [go_sem, reduceCtorEq, Nat.reduceEqDiff, Nat.reduceLT, Nat.reduceLeDiff, Nat.reduceAdd, Nat.reduceMul, Nat.reduceSub, Nat.reduceBEq, ↓reduceIte, h1]) | refine k_of (by assumption) ?_ | (refine tr_skip ?_; try simp only [ex_seq, ex_block]))
        refine tr_cond rfl (fun ht => ?_) (fun hf => ?_)
        · cases ht
        · repeat (first | refine tr_seq_k fun _ _ => ?_ | (refine tr_region ?_; simp only [go_sem, reduceCtorEq, Nat.reduceEqDiff, Nat.reduceLT, Nat.reduceLeDiff, Nat.reduceAdd, Nat.reduceMul, Nat.reduceSub, Nat.reduceBEq, ↓reduceIte, h2]) | (refine call_of (c1) ?_ ?_; (first | rfl | simp only [go_sem, reduceCtorEq, Nat.reduceEqDiff, Nat.reduceLT, Nat.reduceLeDiff, Nat.reduceAdd, Nat.reduceMul, Nat.reduceSub, Nat.reduceBEq, ↓reduceIte, h2, shut_col]); simp only [go_sem, reduceCtorEq, Nat.reduceEqDiff, Nat.reduceLT, Nat.reduceLeDiff, Nat.reduceAdd, Nat.reduceMul, Nat.reduceSub, Nat.reduceBEq, ↓reduceIte, h2]) | refine k_of (by assumption) ?_ | (refine tr_skip ?_; try simp only [ex_seq, ex_block]))
          refine tr_cond rfl (fun ht => ?_) (fun hf => ?_)
          · cases ht
          · repeat (first | refine tr_seq_k fun _ _ => ?_ | (refine tr_region ?_; simp only [go_sem, reduceCtorEq, Nat.reduceEqDiff, Nat.reduceLT, Nat.reduceLeDiff, Nat.reduceAdd, Nat.reduceMul, Nat.reduceSub, Nat.reduceBEq, ↓reduceIte]) | (refine call_of (cT) ?_ ?_; (first | rfl | simp only [go_sem, reduceCtorEq, Nat.reduceEqDiff, Nat.reduceLT, Nat.reduceLeDiff, Nat.reduceAdd, Nat.reduceMul, Nat.reduceSub, Nat.reduceBEq, ↓reduceIte, shut_col]); simp only [go_sem, reduceCtorEq, Nat.reduceEqDiff, Nat.reduceLT, Nat.reduceLeDiff, Nat.reduceAdd, Nat.reduceMul, Nat.reduceSub, Nat.reduceBEq, ↓reduceIte]) | (refine call_of (cR) ?_ ?_; (first | rfl | simp only [go_sem, reduceCtorEq, Nat.reduceEqDiff, Nat.reduceLT, Nat.reduceLeDiff, Nat.reduceAdd, Nat.reduceMul, Nat.reduceSub, Nat.reduceBEq, ↓reduceIte, shut_col]); simp only [go_sem, reduceCtorEq, Nat.reduceEqDiff, Nat.reduceLT, Nat.reduceLeDiff, Nat.reduceAdd, Nat.reduceMul, Nat.reduceSub, Nat.reduceBEq, ↓reduceIte]) | (refine call_of (cS) ?_ ?_; (first | rfl | simp only [go_sem, reduceCtorEq, Nat.reduceEqDiff, Nat.reduceLT, Nat.reduceLeDiff, Nat.reduceAdd, Nat.reduceMul, Nat.reduceSub, Nat.reduceBEq, ↓reduceIte, shut_col]); simp only [go_sem, reduceCtorEq, Nat.reduceEqDiff, Nat.reduceLT, Nat.reduceLeDiff, Nat.reduceAdd, Nat.reduceMul, Nat.reduceSub, Nat.reduceBEq, ↓reduceIte]) | (refine call_of (cT2) ?_ ?_; (first | rfl | simp only [go_sem, reduceCtorEq, Nat.reduceEqDiff, Nat.reduceLT, Nat.reduceLeDiff, Nat.reduceAdd, Nat.reduceMul, Nat.reduceSub, Nat.reduceBEq, ↓reduceIte, shut_col]); simp only [go_sem, reduceCtorEq, Nat.reduceEqDiff, Nat.reduceLT, Nat.reduceLeDiff, Nat.reduceAdd, Nat.reduceMul, Nat.reduceSub, Nat.reduceBEq, ↓reduceIte]) | refine k_of (by assumption) ?_ | (refine tr_skip ?_; try simp only [ex_seq, ex_block]) | (refine tr_ret ?_; try simp only [ex_seq_ret, ex_block_ret]))
            refine (hQ _ _ [bA true] ?_ (fun m => ?_)).2 <;> simp only [go_sem, reduceCtorEq, Nat.reduceEqDiff, Nat.reduceLT, Nat.reduceLeDiff, Nat.reduceAdd, Nat.reduceMul, Nat.reduceSub, Nat.reduceBEq, ↓reduceIte, Tryd.f3,]
end Go.Proofs.YtaeehadibckcjaaDoor
namespace Go.Proofs.YtaeehadibckcjaaDoor
open Go.RowKit Go.Vs Go.Vs.Ab
set_option maxRecDepth 100000
theorem gl_of_tab {W : World} (h : Lib.TabIs Tryd.prog W "internal/strconv.uint64pow10" .u64 Lib.pow10Tab) : Gl W := by
  have hn : Tryd.prog.globalNamed "internal/strconv.uint64pow10" = some 0 := by kernel_rfl
  have h1 : W.var? Tryd.prog "internal/strconv.uint64pow10" = some (Lib.pow10Tab.map fun z => Value.int .u64 z).toArray := h
  unfold World.var? at h1
  rw [hn] at h1
  intro p hp
  rcases List.mem_cons.1 hp with rfl | hp
  · change (match W.heap[0]? with | some (.cells cs _ _) => some cs | _ => none) = _ at h1
    split at h1
    · rename_i cs t z hb
      injection h1 with h1
      subst h1
      exact ⟨t, z, hb.trans (by kernel_rfl)⟩
    · cases h1
  · cases hp
theorem gl_of_laid {l : List (String × DataW Unit)} {W : World} (hp : (l.all fun x => x.2.handleName?.isNone) = true)
    (hf : (l.filter fun x => x.1 == "internal/strconv.uint64pow10") = [("internal/strconv.uint64pow10", Lib.tabData .u64 Lib.pow10Tab)])
    (h : laidMetH Tryd.prog l W) : Gl W := by
  rw [MakeChecks.laidMetH_plain _ _ _ hp] at h
  have h2 := h.filter (fun x => x.1 == "internal/strconv.uint64pow10")
  rw [hf] at h2
  exact gl_of_tab (Lib.tabIs_of_head (g := 0) (t := 136) (e := 116) (n := 20) (by kernel_rfl) (by kernel_rfl) (by kernel_rfl) (by kernel_rfl) (by kernel_rfl) (by kernel_rfl) h2)
end Go.Proofs.YtaeehadibckcjaaDoor
namespace Go.Proofs.YtaeehadibckcjaaDoor.reads
open Go.ChangeShapes Go.WideShapes Go.ChangeAt Go.RowKit Go.Vs Go.Vs.Ab
theorem own : ownKnob Tryd.prog.godebug = none := by kernel_rfl
theorem laidOut : laidOutB Tryd.prog = true := by kernel_rfl
theorem readable : (Tryd.f3.params.toList.all fun t => Tryd.prog.readableRec t && decide (t < Tryd.prog.types.size)) = true := by kernel_rfl
set_option maxRecDepth 100000 in
theorem door_met (os : Os) (args : Array Value) : laidMetH Tryd.prog Rows.printerReadsRow.laid ((World.doorLaid Tryd.prog 400 os).forCall (fun _ _ => 0) ⟨#[], args, []⟩).memory :=
  laidMetH_of_parts3 (fuel := 8) (laidMet_of_run' 8 (by kernel_rfl) (by kernel_rfl)) (by kernel_rfl) (by kernel_rfl)
set_option maxRecDepth 100000 in
theorem lifted (os : Os) (started : os.Started) (H : Type) (enc : TypeId × Value → H) :
    ReturnsInHanded {} Tryd.checked os 3 .any (fun w args => (Rows.printerReadsSpec.pre enc Tryd.prog Tryd.f3 [] false w args ∧ laidMetH Tryd.prog Rows.printerReadsRow.laid w) ∧ sizedMet enc Tryd.prog Tryd.f3 (OpenSpec.ofChange Rows.printerReadsSpec) false w args) (Rows.printerReadsSpec.post enc Tryd.prog Tryd.f3 false true false false) := by
  refine returnsInHanded_of_change_and (C := Tryd.checked) (X := fun w _ => laidMetH Tryd.prog Rows.printerReadsRow.laid w) (fun _ _ _ hh h => h.of_heap hh) own started (by kernel_rfl) Tryd.func3
    (ChangeSpec.witness_shaped (enc := enc) (C := Tryd.checked) (os := os) (X := fun w _ => laidMetH Tryd.prog Rows.printerReadsRow.laid w) false (World.doorLaid Tryd.prog 400 os) #[.string ⟨#[]⟩] 8 rfl (World.shaped_of_RefB (by kernel_rfl) (by kernel_rfl)) (by kernel_rfl) (by kernel_rfl) (by kernel_rfl) (door_met os _)) ?_
  intro W base args ds gs before hval0 hW _ _ hL _
  have hval : ∀ (j : Nat) t v, Tryd.f3.params[j]? = some t → args[j]? = some v → Value.okWide Tryd.prog W .any base t v := hval0
  have hW' := hW
  obtain ⟨p, q, hA0, hV, rfl, hfz, hnd⟩ := hW
  have hA : DataW.TrodAll enc Tryd.prog W 0 (fun _ => true) true Tryd.f3.params.toList args.toList ds p := hA0
  rw [Tryd.params3] at hA hval
  obtain ⟨v0, vs0, d0, ds0, p0, q0, hargs, rfl, rfl, h0, r0⟩ := trodAll_cons hA
  obtain ⟨rfl, rfl, rfl⟩ := trodAll_nil r0
  obtain rfl : args = #[v0] := by cases args; simp_all
  obtain ⟨rfl, rfl⟩ := trodVars_none hV
  obtain ⟨a0, R0, _⟩ := open_str Tryd.underlying9 (hval 0 9 v0 rfl rfl) h0
  refine ((preads_does a0).bool (Reps.cons R0 Reps.nil) (gl_of_laid (by kernel_rfl) (by kernel_rfl) hL)).mono fun e W' ⟨he, hb⟩ => ?_
  subst he
  refine ⟨_, rfl, law_post (tb := 4) hW' rfl rfl laidOut (fun t ht => ?_) rfl Tryd.underlying4 hb⟩
  have := List.all_eq_true.1 readable t ht
  simp only [Bool.and_eq_true, decide_eq_true_eq] at this
  exact this
theorem row_holds : Rows.PrinterReadsSaid :=
  OpenClaim.holds_of_wide 3 Tryd.f3 rfl rfl rfl rfl rfl rfl rfl ⟨rfl, rfl, rfl, rfl, rfl⟩ rfl rfl rfl rfl rfl (by kernel_rfl) Tryd.func3 (by kernel_rfl)
    (of_decide_eq_true (by kernel_rfl)) (by unfold Func.isWrapper; first | (rw [if_pos (by decide +kernel)]; kernel_rfl) | (rw [if_neg (by decide +kernel)]; exact ⟨rfl, rfl⟩))
    (fun os started H enc _ => lifted os started H enc)
theorem holds : Rows.PrinterReadsCardSaid :=
  Claim7.holds_tied_plain_at .later [] [.data, .data, .data] true (true, "f37234fd77400c584e10aa3671dc226d2b52cb94022700707c3a844a9caa0d3f") false
    row_holds (fun _ h => by cases h) (by kernel_rfl) (fun _ h => by cases h) printerReads_row_tie rfl ⟨rfl, rfl⟩ (by kernel_rfl) rfl
    (fun f fn hf hfn => by
      obtain rfl : f = 3 := Option.some.inj ((show Tryd.prog.funcNamed "vouchsafe/vouchsafelaw11.PrinterReads" = some 3 by kernel_rfl).symm.trans hf) |>.symm
      obtain rfl : fn = Tryd.f3 := (Option.some.inj (Tryd.func3.symm.trans hfn)).symm
      exact ⟨by kernel_rfl, fun j t ht => by
        have hm : t ∈ Tryd.f3.params.toList := by simpa using Array.mem_of_getElem? ht
        have hall : (Tryd.f3.params.toList.all fun u => !Tryd.prog.wantsStandIn u) = true := by kernel_rfl
        exact (show Tryd.prog.wantsStandIn t = false by simpa using List.all_eq_true.1 hall t hm)⟩)
    (by kernel_rfl)
#print axioms holds
end Go.Proofs.YtaeehadibckcjaaDoor.reads
