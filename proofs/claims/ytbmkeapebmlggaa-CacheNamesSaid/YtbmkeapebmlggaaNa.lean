/-
  CacheNames: the walk (printed by gen_names.py).
-/
import Derived.Test.YtbmkeapebmlggaaMa
namespace Go.Proofs.Ytbmkeapebmlggaa
open Go.RowKit Go.Vs Go.Maps Go.ChangeMaps Go.WideMaps

theorem rd_below {w w' : World} {v : Value} {xs : List ByteArray} (h : RdS w v xs) (t : Below w.heap.size w w') : RdS w' v xs := Rd.kept h t

theorem same_lit {w4 : World} {v4 : Value} (R : RdS w4 v4 [⟨#[97]⟩, ⟨#[99]⟩]) :
    Calls Try.prog 13 #[v4, .slice (some ⟨w4.heap.size, 0, none⟩) 2 2] (w4.alloc (.cells #[.string ⟨#[97]⟩, .string ⟨#[99]⟩] 9)) fun e w' => e = .returned (.bool true) ∧ Below w4.heap.size w4 w' := by
  have h1 : RdS (w4.alloc (.cells #[.string ⟨#[97]⟩, .string ⟨#[99]⟩] 9)) v4 [⟨#[97]⟩, ⟨#[99]⟩] := R.turns ((Turns.refl (fun _ => False) w4).alloc _) (fun _ _ h => h)
  have h2 : RdS (w4.alloc (.cells #[.string ⟨#[97]⟩, .string ⟨#[99]⟩] 9)) (.slice (some ⟨w4.heap.size, 0, none⟩) 2 2) [⟨#[97]⟩, ⟨#[99]⟩] := rd_new w4 #[.string ⟨#[97]⟩, .string ⟨#[99]⟩] 9 1 2 rfl (by unfold maxLen; omega)
  refine (same_any h1 h2).mono ?_
  rintro _ w' ⟨rfl, k, rfl⟩
  exact ⟨by simp, ((Below.refl _ w4).alloc (Nat.le_refl _) _).trans ⟨rfl, rfl, rfl, Nat.le_refl _, fun _ _ => rfl⟩⟩

set_option maxHeartbeats 4000000 in
set_option maxRecDepth 100000 in
theorem names_walk (w : World) : Calls Try.prog 6 #[] w (TrueBelow w) := by
  go_enter Try.func6, Try.ntmps6
  go_wp2_with (fail)
  refine (lives_any w).mono ?_
  rintro _ w1 ⟨rfl, B1⟩
  go_wp2_with (fail)
  refine (new_bad w1 (-1) (by omega)).mono ?_
  rintro _ w1 ⟨rfl, rfl⟩
  go_wp2_with (fail)
  refine (new_bad w1 1001 (by omega)).mono ?_
  rintro _ w1 ⟨rfl, rfl⟩
  go_wp2_with (fail)
  refine (st_new (fun _ => False) B1 (fun _ h => h.elim) 2 (by omega) (by omega)).mono ?_
  rintro _ w2 ⟨b, rfl, S, T⟩
  have S2 := Lib.hid S
  clear S T B1
  go_wp2_with (fail)
  have K : Hid (Calls Try.prog 12 #[(.pointer (some ⟨b, 0, none⟩)), .string ⟨#[97]⟩, .string ⟨#[49]⟩, .string ⟨#[120]⟩] w2 (Step (fun _ => False) w w2 (.pointer (some ⟨b, 0, none⟩)) (.int .i64 0) [(⟨#[97]⟩, ⟨#[49]⟩, ⟨#[120]⟩)] 2 0 0)) := st_put S2.out _ _ _ (by decide) _ rfl
  refine (K.out).mono ?_
  rintro _ w3 ⟨rfl, S, T⟩
  have S3 := Lib.hid S
  clear K S T S2
  go_wp2_with (fail)
  have K : Hid (Calls Try.prog 12 #[(.pointer (some ⟨b, 0, none⟩)), .string ⟨#[98]⟩, .string ⟨#[49]⟩, .string ⟨#[121]⟩] w3 (Step (fun _ => False) w w3 (.pointer (some ⟨b, 0, none⟩)) (.int .i64 0) [(⟨#[97]⟩, ⟨#[49]⟩, ⟨#[120]⟩), (⟨#[98]⟩, ⟨#[49]⟩, ⟨#[121]⟩)] 2 0 0)) := st_put S3.out _ _ _ (by decide) _ rfl
  refine (K.out).mono ?_
  rintro _ w4 ⟨rfl, S, T⟩
  have S4 := Lib.hid S
  clear K S T S3
  go_wp2_with (fail)
  have K : Hid (Calls Try.prog 15 #[(.pointer (some ⟨b, 0, none⟩)), .string ⟨#[97]⟩, .string ⟨#[49]⟩] w4 (Step (fun _ => False) w w4 (.pointer (some ⟨b, 0, none⟩)) (.tuple #[.string ⟨#[120]⟩, .bool true]) [(⟨#[98]⟩, ⟨#[49]⟩, ⟨#[121]⟩), (⟨#[97]⟩, ⟨#[49]⟩, ⟨#[120]⟩)] 2 1 0)) := st_get S4.out _ _ (by decide) (by omega) (by omega) _ _ true rfl rfl
  refine (K.out).mono ?_
  rintro _ w5 ⟨rfl, S, T⟩
  have S5 := Lib.hid S
  clear K S T S4
  go_wp2_with (fail)
  have K : Hid (Calls Try.prog 15 #[(.pointer (some ⟨b, 0, none⟩)), .string ⟨#[97]⟩, .string ⟨#[50]⟩] w5 (Step (fun _ => False) w w5 (.pointer (some ⟨b, 0, none⟩)) (.tuple #[.string ⟨#[]⟩, .bool false]) [(⟨#[98]⟩, ⟨#[49]⟩, ⟨#[121]⟩), (⟨#[97]⟩, ⟨#[49]⟩, ⟨#[120]⟩)] 2 1 1)) := st_get S5.out _ _ (by decide) (by omega) (by omega) _ _ false rfl rfl
  refine (K.out).mono ?_
  rintro _ w6 ⟨rfl, S, T⟩
  have S6 := Lib.hid S
  clear K S T S5
  go_wp2_with (fail)
  have K : Hid (Calls Try.prog 12 #[(.pointer (some ⟨b, 0, none⟩)), .string ⟨#[99]⟩, .string ⟨#[49]⟩, .string ⟨#[122]⟩] w6 (Step (fun _ => False) w w6 (.pointer (some ⟨b, 0, none⟩)) (.int .i64 0) [(⟨#[97]⟩, ⟨#[49]⟩, ⟨#[120]⟩), (⟨#[99]⟩, ⟨#[49]⟩, ⟨#[122]⟩)] 2 1 1)) := st_put S6.out _ _ _ (by decide) _ rfl
  refine (K.out).mono ?_
  rintro _ w7 ⟨rfl, S, T⟩
  have S7 := Lib.hid S
  clear K S T S6
  go_wp2_with (fail)
  have K := Lib.hid (st_keys S7.out)
  refine (K.out).mono ?_
  rintro _ w8 ⟨vk, rfl, R, T, N⟩
  clear K
  have RK8 : Hid (RdS w8 vk [⟨#[97]⟩, ⟨#[99]⟩]) := Lib.hid R
  have S8 := Lib.hid (S7.out.more (Y := fun x => sblk vk = some x) T (fun x hx => ⟨N x hx, R.lt (by decide) (by decide) x hx⟩))
  clear R T N S7
  go_wp2_with (fail)
  have K := Lib.hid (st_hits S8.out)
  refine (K.out).mono ?_
  rintro _ w9 ⟨rfl, hw⟩
  have D : Below w8.heap.size w8 w9 := hw ▸ (Below.refl _ w8).drew
  have S9 := Lib.hid (S8.out.below D)
  have RK9 := Lib.hid (rd_below RK8.out D)
  clear K hw D S8 RK8
  go_wp2_with (fail)
  have K : Hid (Calls Try.prog 18 #[(.pointer (some ⟨b, 0, none⟩)), .string ⟨#[97]⟩] w9 (Step (fun x => (fun _ => False) x ∨ sblk vk = some x) w w9 (.pointer (some ⟨b, 0, none⟩)) (.bool true) [(⟨#[99]⟩, ⟨#[49]⟩, ⟨#[122]⟩)] 2 1 1)) := st_drop S9.out _ (by decide) _ true rfl rfl
  refine (K.out).mono ?_
  rintro _ w10 ⟨rfl, S, T⟩
  have S10 := Lib.hid S
  have RK10 : Hid (RdS w10 vk [⟨#[97]⟩, ⟨#[99]⟩]) := Rd.turns RK9.out T (fun x hx hf => hf (Or.inr hx))
  clear RK9
  clear K S T S9
  go_wp2_with (fail)
  have K : Hid (Calls Try.prog 18 #[(.pointer (some ⟨b, 0, none⟩)), .string ⟨#[97]⟩] w10 (Step (fun x => (fun _ => False) x ∨ sblk vk = some x) w w10 (.pointer (some ⟨b, 0, none⟩)) (.bool false) [(⟨#[99]⟩, ⟨#[49]⟩, ⟨#[122]⟩)] 2 1 1)) := st_drop S10.out _ (by decide) _ false rfl rfl
  refine (K.out).mono ?_
  rintro _ w11 ⟨rfl, S, T⟩
  have S11 := Lib.hid S
  have RK11 : Hid (RdS w11 vk [⟨#[97]⟩, ⟨#[99]⟩]) := Rd.turns RK10.out T (fun x hx hf => hf (Or.inr hx))
  clear RK10
  clear K S T S10
  go_wp2_with (fail)
  have K := Lib.hid (st_new (fun x => x < w11.heap.size) S11.out.out (fun _ h => h) 0 (by omega) (by omega))
  refine (K.out).mono ?_
  rintro _ w12 ⟨b2, rfl, S, T⟩
  have N12 := Lib.hid S
  have S12 := Lib.hid (S11.out.below T)
  have RK12 : Hid (RdS w12 vk [⟨#[97]⟩, ⟨#[99]⟩]) := Rd.kept RK11.out T
  have Z : Hid (w11.heap.size ≤ w11.heap.size) := Nat.le_refl _
  have LS : Hid (∀ k, sblk vk = some k → k < w11.heap.size) := fun k hk => RK11.out.lt (by decide) (by decide) k hk
  have FS : Hid (∃ F, CA F w12 (.pointer (some ⟨b, 0, none⟩)) [(⟨#[99]⟩, ⟨#[49]⟩, ⟨#[122]⟩)] 2 1 1 ∧ ∀ k, F k → k < w11.heap.size) := by
    obtain ⟨F, S', C, hx⟩ := S11.out.ex
    exact ⟨F, C.below T, C.lt⟩
  clear K S T Z S11 S12 RK11
  go_wp2_with (fail)
  have K : Hid (Calls Try.prog 12 #[(.pointer (some ⟨b2, 0, none⟩)), .string ⟨#[97]⟩, .string ⟨#[]⟩, .string ⟨#[120]⟩] w12 (Step (fun x => x < w11.heap.size) w w12 (.pointer (some ⟨b2, 0, none⟩)) (.int .i64 0) [] 0 0 0)) := st_put N12.out _ _ _ (by decide) _ rfl
  refine (K.out).mono ?_
  rintro _ w13 ⟨rfl, S, T⟩
  have N13 := Lib.hid S
  have RK13 : Hid (RdS w13 vk [⟨#[97]⟩, ⟨#[99]⟩]) := Rd.turns RK12.out T (fun x hx hf => hf (LS.out x hx))
  have C13 : Hid (∃ F, CA F w13 (.pointer (some ⟨b, 0, none⟩)) [(⟨#[99]⟩, ⟨#[49]⟩, ⟨#[122]⟩)] 2 1 1) := by
    obtain ⟨F, C, hx⟩ := FS.out
    exact ⟨F, C.turns T (fun k hk hf => hf (hx k hk))⟩
  clear K S T N12 RK12 FS LS
  go_wp2_with (fail)
  refine (get_nil w13 _ _).mono ?_
  rintro _ w13 ⟨rfl, rfl⟩
  go_wp2_with (fail)
  refine (hits_nil w13).mono ?_
  rintro _ w13 ⟨rfl, rfl⟩
  have K := Lib.hid (same_lit RK13.out)
  clear RK13
  go_wp2_with (fail)
  refine (K.out).mono ?_
  rintro _ w14 ⟨rfl, B⟩
  have N14 := Lib.hid (N13.out.below B)
  obtain ⟨F, C⟩ := C13.out
  have C14 := Lib.hid (C.below B)
  clear B K C13 N13 C
  go_wp2_with (fail)
  refine (ca_len C14.out).mono ?_
  rintro _ w14 ⟨rfl, rfl⟩
  go_wp2_with (fail)
  refine (st_len N14.out).mono ?_
  rintro _ w14 ⟨rfl, rfl⟩
  go_wp2_with (fail)
  refine (put_nil w14 _ _ _).mono ?_
  rintro _ w14 ⟨rfl, rfl⟩
  go_wp2_with (fail)
  refine (len_nil w14).mono ?_
  rintro _ w14 ⟨rfl, rfl⟩
  go_wp2_with (fail)
  refine (keys_nil w14).mono ?_
  rintro _ w14 ⟨rfl, rfl⟩
  go_wp2_with (fail)
  refine (drop_nil w14 _).mono ?_
  rintro _ w14 ⟨rfl, rfl⟩
  go_wp2_with (fail)
  go_ret
  exact ⟨rfl, N14.out.out⟩

end Go.Proofs.Ytbmkeapebmlggaa
