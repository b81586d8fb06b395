/- The contract of the law's 'asked'. Condition: the value is one in memory. -/
import Derived.Test.YtdgagpoeefbdjaaBackLaw
import Derived.Test.YtdgagpoeefbdjaaRs
namespace Go.Proofs.Ytdgagpoeefbdjaa
open Go.RowKit

/-- the kind that is asked for -/
theorem asked_5 (w : World) (K : Int) (N : Nat) (x : Value) (B : List UInt8) (hB : Bytes w x B) (h0 : -9223372036854775808 ≤ K) (h1 : K ≤ 9223372036854775807) (hk : K % 9 = 5) :
    Calls Try.prog 53 #[put K N x] w fun e w' => e = .returned (getV 5 B.length 0) ∧ Ext Nil w w' := by
  obtain ⟨ao, cap, rfl, -, -, -⟩ := hB.open
  have HK := Lib.hid hk
  have hkk : ∀ w, Calls Try.prog 35 #[.int .i64 K] w fun e w' => e = .returned (.int .i64 5) ∧ w = w' := fun w => by
    have := kind_any w K h0 h1
    rwa [HK.out] at this
  clear hk hB
  unfold put getV
  go_enter Try.func53, Try.ntmps53
  go_wp2_with (go_at_call 35; refine (hkk _).mono ?_; rintro e w' ⟨rfl, rfl⟩)
  exact bodyPost_ret (v := .agg #[.int .i64 5, .int .i64 B.length, .int .i64 0]) (by simp [results, Try.results53, go_sem]) rfl ⟨rfl, ((Ext.refl _ _).alloc _).alloc _⟩

theorem asked_0 (w : World) (K : Int) (N : Nat) (x : Value) (B : List UInt8) (hB : Bytes w x B) (h0 : -9223372036854775808 ≤ K) (h1 : K ≤ 9223372036854775807) (hk : K % 9 = 0) :
    Calls Try.prog 53 #[put K N x] w fun e w' => e = .returned (getV 0 0 0) ∧ Ext Nil w w' := by
  obtain ⟨ao, cap, rfl, -, -, -⟩ := hB.open
  have HK := Lib.hid hk
  have hkk : ∀ w, Calls Try.prog 35 #[.int .i64 K] w fun e w' => e = .returned (.int .i64 0) ∧ w = w' := fun w => by
    have := kind_any w K h0 h1
    rwa [HK.out] at this
  clear hk hB
  unfold put getV
  go_enter Try.func53, Try.ntmps53
  go_wp2_with (go_at_call 35; refine (hkk _).mono ?_; rintro e w' ⟨rfl, rfl⟩)
  exact bodyPost_ret (v := .agg #[.int .i64 0, .int .i64 0, .int .i64 0]) (by simp [results, Try.results53, go_sem]) rfl ⟨rfl, ((Ext.refl _ _).alloc _).alloc _⟩

theorem asked_1 (w : World) (K : Int) (N : Nat) (x : Value) (B : List UInt8) (hB : Bytes w x B) (h0 : -9223372036854775808 ≤ K) (h1 : K ≤ 9223372036854775807) (hk : K % 9 = 1) :
    Calls Try.prog 53 #[put K N x] w fun e w' => e = .returned (getV 1 0 0) ∧ Ext Nil w w' := by
  obtain ⟨ao, cap, rfl, -, -, -⟩ := hB.open
  have HK := Lib.hid hk
  have hkk : ∀ w, Calls Try.prog 35 #[.int .i64 K] w fun e w' => e = .returned (.int .i64 1) ∧ w = w' := fun w => by
    have := kind_any w K h0 h1
    rwa [HK.out] at this
  clear hk hB
  unfold put getV
  go_enter Try.func53, Try.ntmps53
  go_wp2_with (go_at_call 35; refine (hkk _).mono ?_; rintro e w' ⟨rfl, rfl⟩)
  exact bodyPost_ret (v := .agg #[.int .i64 1, .int .i64 0, .int .i64 0]) (by simp [results, Try.results53, go_sem]) rfl ⟨rfl, ((Ext.refl _ _).alloc _).alloc _⟩

theorem asked_2 (w : World) (K : Int) (N : Nat) (x : Value) (B : List UInt8) (hB : Bytes w x B) (h0 : -9223372036854775808 ≤ K) (h1 : K ≤ 9223372036854775807) (hk : K % 9 = 2) :
    Calls Try.prog 53 #[put K N x] w fun e w' => e = .returned (getV 2 0 0) ∧ Ext Nil w w' := by
  obtain ⟨ao, cap, rfl, -, -, -⟩ := hB.open
  have HK := Lib.hid hk
  have hkk : ∀ w, Calls Try.prog 35 #[.int .i64 K] w fun e w' => e = .returned (.int .i64 2) ∧ w = w' := fun w => by
    have := kind_any w K h0 h1
    rwa [HK.out] at this
  clear hk hB
  unfold put getV
  go_enter Try.func53, Try.ntmps53
  go_wp2_with (go_at_call 35; refine (hkk _).mono ?_; rintro e w' ⟨rfl, rfl⟩)
  exact bodyPost_ret (v := .agg #[.int .i64 2, .int .i64 0, .int .i64 0]) (by simp [results, Try.results53, go_sem]) rfl ⟨rfl, ((Ext.refl _ _).alloc _).alloc _⟩

theorem asked_3 (w : World) (K : Int) (N : Nat) (x : Value) (B : List UInt8) (hB : Bytes w x B) (h0 : -9223372036854775808 ≤ K) (h1 : K ≤ 9223372036854775807) (hk : K % 9 = 3) :
    Calls Try.prog 53 #[put K N x] w fun e w' => e = .returned (getV 3 0 0) ∧ Ext Nil w w' := by
  obtain ⟨ao, cap, rfl, -, -, -⟩ := hB.open
  have HK := Lib.hid hk
  have hkk : ∀ w, Calls Try.prog 35 #[.int .i64 K] w fun e w' => e = .returned (.int .i64 3) ∧ w = w' := fun w => by
    have := kind_any w K h0 h1
    rwa [HK.out] at this
  clear hk hB
  unfold put getV
  go_enter Try.func53, Try.ntmps53
  go_wp2_with (go_at_call 35; refine (hkk _).mono ?_; rintro e w' ⟨rfl, rfl⟩)
  exact bodyPost_ret (v := .agg #[.int .i64 3, .int .i64 0, .int .i64 0]) (by simp [results, Try.results53, go_sem]) rfl ⟨rfl, ((Ext.refl _ _).alloc _).alloc _⟩

theorem asked_4 (w : World) (K : Int) (N : Nat) (x : Value) (B : List UInt8) (hB : Bytes w x B) (h0 : -9223372036854775808 ≤ K) (h1 : K ≤ 9223372036854775807) (hk : K % 9 = 4) :
    Calls Try.prog 53 #[put K N x] w fun e w' => e = .returned (getV 4 0 0) ∧ Ext Nil w w' := by
  obtain ⟨ao, cap, rfl, -, -, -⟩ := hB.open
  have HK := Lib.hid hk
  have hkk : ∀ w, Calls Try.prog 35 #[.int .i64 K] w fun e w' => e = .returned (.int .i64 4) ∧ w = w' := fun w => by
    have := kind_any w K h0 h1
    rwa [HK.out] at this
  clear hk hB
  unfold put getV
  go_enter Try.func53, Try.ntmps53
  go_wp2_with (go_at_call 35; refine (hkk _).mono ?_; rintro e w' ⟨rfl, rfl⟩)
  exact bodyPost_ret (v := .agg #[.int .i64 4, .int .i64 0, .int .i64 0]) (by simp [results, Try.results53, go_sem]) rfl ⟨rfl, ((Ext.refl _ _).alloc _).alloc _⟩

theorem asked_8 (w : World) (K : Int) (N : Nat) (x : Value) (B : List UInt8) (hB : Bytes w x B) (h0 : -9223372036854775808 ≤ K) (h1 : K ≤ 9223372036854775807) (hk : K % 9 = 8) (hn : (N : Int) ≤ 9223372036854775807) :
    Calls Try.prog 53 #[put K N x] w fun e w' => e = .returned (getV 8 N 0) ∧ Ext Nil w w' := by
  obtain ⟨ao, cap, rfl, -, -, -⟩ := hB.open
  have HK := Lib.hid hk
  have hkk : ∀ w, Calls Try.prog 35 #[.int .i64 K] w fun e w' => e = .returned (.int .i64 8) ∧ w = w' := fun w => by
    have := kind_any w K h0 h1
    rwa [HK.out] at this
  clear hk hB
  unfold put getV
  go_enter Try.func53, Try.ntmps53
  go_wp2_with (go_at_call 35; refine (hkk _).mono ?_; rintro e w' ⟨rfl, rfl⟩)
  exact bodyPost_ret (v := .agg #[.int .i64 8, .int .i64 N, .int .i64 0]) (by simp [results, Try.results53, go_sem]) rfl ⟨rfl, ((Ext.refl _ _).alloc _).alloc _⟩
end Go.Proofs.Ytdgagpoeefbdjaa
