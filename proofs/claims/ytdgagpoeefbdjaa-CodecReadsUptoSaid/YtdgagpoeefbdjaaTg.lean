/- Contracts of the law's 'told', kind for kind, out of what the document's reader does. No condition but the kind. -/
import Derived.Test.YtdgagpoeefbdjaaRg
namespace Go.Proofs.Ytdgagpoeefbdjaa
open Go.RowKit

set_option maxRecDepth 20000 in
theorem told_byte (w : World) (rv : Option Addr) (K A B : Int) (hk0 : -9223372036854775808 ≤ K) (hk1 : K ≤ 9223372036854775807) (hk : K % 9 = 0) (P : Nat → World → Prop) (hP : ∀ n w', P n w' → Ext (fun k => k < w.heap.size) (inRead w K A B) w')
    (H : Calls Try.prog 126 #[.pointer rv] (inRead w K A B) (GivesN .u8 255 P)) :
    Calls Try.prog 46 #[.pointer rv, getV K A B] w (GotEnd (w.heap.size + 1) (fun n x w1 => x = .slice none 0 0 ∧ P n w1)) := by
  have hA0 : At (inRead w K A B) (w.heap.size + 1) 49 [.int .u64 0, .slice none 0 0] := by
    have e : w.heap.size + 1 = (w.alloc (.cells #[.int .i64 K, .int .i64 A, .int .i64 B] 64)).heap.size := by simp
    rw [e]
    exact At.new _ [.int .u64 0, .slice none 0 0] _
  have g1 : ((w.alloc (.cells #[.int .i64 K, .int .i64 A, .int .i64 B] 64)).alloc (.cells #[.int .u64 0, .slice none 0 0] 49)).cell? ⟨w.heap.size, 0, none⟩ = some (.int .i64 K) := ((At.new w [.int .i64 K, .int .i64 A, .int .i64 B] 64).alloc _).cell 0 rfl
  have g2 : ((w.alloc (.cells #[.int .i64 K, .int .i64 A, .int .i64 B] 64)).alloc (.cells #[.int .u64 0, .slice none 0 0] 49)).cell? ⟨w.heap.size, 1, none⟩ = some (.int .i64 A) := ((At.new w [.int .i64 K, .int .i64 A, .int .i64 B] 64).alloc _).cell 1 rfl
  have g3 : ((w.alloc (.cells #[.int .i64 K, .int .i64 A, .int .i64 B] 64)).alloc (.cells #[.int .u64 0, .slice none 0 0] 49)).cell? ⟨w.heap.size, 2, none⟩ = some (.int .i64 B) := ((At.new w [.int .i64 K, .int .i64 A, .int .i64 B] 64).alloc _).cell 2 rfl
  have HK := Lib.hid hk
  have hkk : ∀ w, Calls Try.prog 35 #[.int .i64 K] w fun e w' => e = .returned (.int .i64 0) ∧ w = w' := fun w => by
    have := kind_any w K hk0 hk1
    rwa [HK.out] at this
  clear hk
  unfold getV
  go_enter Try.func46, Try.ntmps46
  go_wp2_with (go_at_call 35; refine (hkk _).mono ?_; rintro e w' ⟨rfl, rfl⟩)
  refine H.mono ?_
  rintro e w1 ⟨n, rfl, hn, hp⟩
  have hE := hP _ _ hp
  have hA := hA0.ext hE (by show ¬ _ < _; omega)
  have d0 := hA.cell 0 rfl
  have d1 := hA.cell 1 rfl
  have f0 := hA.frozen 0
  have f1 := hA.frozen 1
  go_wp2_with fail
  have r0 := ((hA.set 0 (.int .u64 n)).set 1 (.slice none 0 0)).cell 0 rfl
  have r1 := ((hA.set 0 (.int .u64 n)).set 1 (.slice none 0 0)).cell 1 rfl
  refine bodyPost_ret (v := .agg #[.int .u64 n, .slice none 0 0]) (by simp [results, Try.results46, go_sem, r0, r1]) rfl ?_
  exact ⟨_, _, w1, rfl, ⟨rfl, hp⟩, got_ext _ _ _ _⟩

set_option maxRecDepth 20000 in
theorem told_bool (w : World) (rv : Option Addr) (K A B : Int) (hk0 : -9223372036854775808 ≤ K) (hk1 : K ≤ 9223372036854775807) (hk : K % 9 = 1) (P : Nat → World → Prop) (hP : ∀ n w', P n w' → Ext (fun k => k < w.heap.size) (inRead w K A B) w')
    (H : Calls Try.prog 127 #[.pointer rv] (inRead w K A B) (fun e w' => ∃ b : Bool, e = .returned (.bool b) ∧ P b.toNat w')) :
    Calls Try.prog 46 #[.pointer rv, getV K A B] w (GotEnd (w.heap.size + 1) (fun n x w1 => x = .slice none 0 0 ∧ P n w1)) := by
  have hA0 : At (inRead w K A B) (w.heap.size + 1) 49 [.int .u64 0, .slice none 0 0] := by
    have e : w.heap.size + 1 = (w.alloc (.cells #[.int .i64 K, .int .i64 A, .int .i64 B] 64)).heap.size := by simp
    rw [e]
    exact At.new _ [.int .u64 0, .slice none 0 0] _
  have g1 : ((w.alloc (.cells #[.int .i64 K, .int .i64 A, .int .i64 B] 64)).alloc (.cells #[.int .u64 0, .slice none 0 0] 49)).cell? ⟨w.heap.size, 0, none⟩ = some (.int .i64 K) := ((At.new w [.int .i64 K, .int .i64 A, .int .i64 B] 64).alloc _).cell 0 rfl
  have g2 : ((w.alloc (.cells #[.int .i64 K, .int .i64 A, .int .i64 B] 64)).alloc (.cells #[.int .u64 0, .slice none 0 0] 49)).cell? ⟨w.heap.size, 1, none⟩ = some (.int .i64 A) := ((At.new w [.int .i64 K, .int .i64 A, .int .i64 B] 64).alloc _).cell 1 rfl
  have g3 : ((w.alloc (.cells #[.int .i64 K, .int .i64 A, .int .i64 B] 64)).alloc (.cells #[.int .u64 0, .slice none 0 0] 49)).cell? ⟨w.heap.size, 2, none⟩ = some (.int .i64 B) := ((At.new w [.int .i64 K, .int .i64 A, .int .i64 B] 64).alloc _).cell 2 rfl
  have HK := Lib.hid hk
  have hkk : ∀ w, Calls Try.prog 35 #[.int .i64 K] w fun e w' => e = .returned (.int .i64 1) ∧ w = w' := fun w => by
    have := kind_any w K hk0 hk1
    rwa [HK.out] at this
  clear hk
  unfold getV
  go_enter Try.func46, Try.ntmps46
  go_wp2_with (go_at_call 35; refine (hkk _).mono ?_; rintro e w' ⟨rfl, rfl⟩)
  refine H.mono ?_
  rintro e w1 ⟨b, rfl, hp⟩
  have hE := hP _ _ hp
  have hA := hA0.ext hE (by show ¬ _ < _; omega)
  have d0 := hA.cell 0 rfl
  have d1 := hA.cell 1 rfl
  have f0 := hA.frozen 0
  have f1 := hA.frozen 1
  go_wp2_with (go_at_call 117; refine (bit_any _ b).mono ?_; rintro e w2 ⟨rfl, rfl⟩)
  have r0 := ((hA.set 0 (.int .u64 (b.toNat : Nat))).set 1 (.slice none 0 0)).cell 0 rfl
  have r1 := ((hA.set 0 (.int .u64 (b.toNat : Nat))).set 1 (.slice none 0 0)).cell 1 rfl
  refine bodyPost_ret (v := .agg #[.int .u64 (b.toNat : Nat), .slice none 0 0]) (by simp [results, Try.results46, go_sem, r0, r1]) rfl ?_
  exact ⟨_, _, w1, rfl, ⟨rfl, hp⟩, got_ext _ _ _ _⟩

set_option maxRecDepth 20000 in
theorem told_u32 (w : World) (rv : Option Addr) (K A B : Int) (hk0 : -9223372036854775808 ≤ K) (hk1 : K ≤ 9223372036854775807) (hk : K % 9 = 2) (P : Nat → World → Prop) (hP : ∀ n w', P n w' → Ext (fun k => k < w.heap.size) (inRead w K A B) w')
    (H : Calls Try.prog 128 #[.pointer rv] (inRead w K A B) (GivesN .u32 4294967295 P)) :
    Calls Try.prog 46 #[.pointer rv, getV K A B] w (GotEnd (w.heap.size + 1) (fun n x w1 => x = .slice none 0 0 ∧ P n w1)) := by
  have hA0 : At (inRead w K A B) (w.heap.size + 1) 49 [.int .u64 0, .slice none 0 0] := by
    have e : w.heap.size + 1 = (w.alloc (.cells #[.int .i64 K, .int .i64 A, .int .i64 B] 64)).heap.size := by simp
    rw [e]
    exact At.new _ [.int .u64 0, .slice none 0 0] _
  have g1 : ((w.alloc (.cells #[.int .i64 K, .int .i64 A, .int .i64 B] 64)).alloc (.cells #[.int .u64 0, .slice none 0 0] 49)).cell? ⟨w.heap.size, 0, none⟩ = some (.int .i64 K) := ((At.new w [.int .i64 K, .int .i64 A, .int .i64 B] 64).alloc _).cell 0 rfl
  have g2 : ((w.alloc (.cells #[.int .i64 K, .int .i64 A, .int .i64 B] 64)).alloc (.cells #[.int .u64 0, .slice none 0 0] 49)).cell? ⟨w.heap.size, 1, none⟩ = some (.int .i64 A) := ((At.new w [.int .i64 K, .int .i64 A, .int .i64 B] 64).alloc _).cell 1 rfl
  have g3 : ((w.alloc (.cells #[.int .i64 K, .int .i64 A, .int .i64 B] 64)).alloc (.cells #[.int .u64 0, .slice none 0 0] 49)).cell? ⟨w.heap.size, 2, none⟩ = some (.int .i64 B) := ((At.new w [.int .i64 K, .int .i64 A, .int .i64 B] 64).alloc _).cell 2 rfl
  have HK := Lib.hid hk
  have hkk : ∀ w, Calls Try.prog 35 #[.int .i64 K] w fun e w' => e = .returned (.int .i64 2) ∧ w = w' := fun w => by
    have := kind_any w K hk0 hk1
    rwa [HK.out] at this
  clear hk
  unfold getV
  go_enter Try.func46, Try.ntmps46
  go_wp2_with (go_at_call 35; refine (hkk _).mono ?_; rintro e w' ⟨rfl, rfl⟩)
  refine H.mono ?_
  rintro e w1 ⟨n, rfl, hn, hp⟩
  have hE := hP _ _ hp
  have hA := hA0.ext hE (by show ¬ _ < _; omega)
  have d0 := hA.cell 0 rfl
  have d1 := hA.cell 1 rfl
  have f0 := hA.frozen 0
  have f1 := hA.frozen 1
  go_wp2_with fail
  have r0 := ((hA.set 0 (.int .u64 n)).set 1 (.slice none 0 0)).cell 0 rfl
  have r1 := ((hA.set 0 (.int .u64 n)).set 1 (.slice none 0 0)).cell 1 rfl
  refine bodyPost_ret (v := .agg #[.int .u64 n, .slice none 0 0]) (by simp [results, Try.results46, go_sem, r0, r1]) rfl ?_
  exact ⟨_, _, w1, rfl, ⟨rfl, hp⟩, got_ext _ _ _ _⟩

set_option maxRecDepth 20000 in
theorem told_u64 (w : World) (rv : Option Addr) (K A B : Int) (hk0 : -9223372036854775808 ≤ K) (hk1 : K ≤ 9223372036854775807) (hk : K % 9 = 3) (P : Nat → World → Prop) (hP : ∀ n w', P n w' → Ext (fun k => k < w.heap.size) (inRead w K A B) w')
    (H : Calls Try.prog 129 #[.pointer rv] (inRead w K A B) (GivesN .u64 18446744073709551615 P)) :
    Calls Try.prog 46 #[.pointer rv, getV K A B] w (GotEnd (w.heap.size + 1) (fun n x w1 => x = .slice none 0 0 ∧ P n w1)) := by
  have hA0 : At (inRead w K A B) (w.heap.size + 1) 49 [.int .u64 0, .slice none 0 0] := by
    have e : w.heap.size + 1 = (w.alloc (.cells #[.int .i64 K, .int .i64 A, .int .i64 B] 64)).heap.size := by simp
    rw [e]
    exact At.new _ [.int .u64 0, .slice none 0 0] _
  have g1 : ((w.alloc (.cells #[.int .i64 K, .int .i64 A, .int .i64 B] 64)).alloc (.cells #[.int .u64 0, .slice none 0 0] 49)).cell? ⟨w.heap.size, 0, none⟩ = some (.int .i64 K) := ((At.new w [.int .i64 K, .int .i64 A, .int .i64 B] 64).alloc _).cell 0 rfl
  have g2 : ((w.alloc (.cells #[.int .i64 K, .int .i64 A, .int .i64 B] 64)).alloc (.cells #[.int .u64 0, .slice none 0 0] 49)).cell? ⟨w.heap.size, 1, none⟩ = some (.int .i64 A) := ((At.new w [.int .i64 K, .int .i64 A, .int .i64 B] 64).alloc _).cell 1 rfl
  have g3 : ((w.alloc (.cells #[.int .i64 K, .int .i64 A, .int .i64 B] 64)).alloc (.cells #[.int .u64 0, .slice none 0 0] 49)).cell? ⟨w.heap.size, 2, none⟩ = some (.int .i64 B) := ((At.new w [.int .i64 K, .int .i64 A, .int .i64 B] 64).alloc _).cell 2 rfl
  have HK := Lib.hid hk
  have hkk : ∀ w, Calls Try.prog 35 #[.int .i64 K] w fun e w' => e = .returned (.int .i64 3) ∧ w = w' := fun w => by
    have := kind_any w K hk0 hk1
    rwa [HK.out] at this
  clear hk
  unfold getV
  go_enter Try.func46, Try.ntmps46
  go_wp2_with (go_at_call 35; refine (hkk _).mono ?_; rintro e w' ⟨rfl, rfl⟩)
  refine H.mono ?_
  rintro e w1 ⟨n, rfl, hn, hp⟩
  have hE := hP _ _ hp
  have hA := hA0.ext hE (by show ¬ _ < _; omega)
  have d0 := hA.cell 0 rfl
  have d1 := hA.cell 1 rfl
  have f0 := hA.frozen 0
  have f1 := hA.frozen 1
  go_wp2_with fail
  have r0 := ((hA.set 0 (.int .u64 n)).set 1 (.slice none 0 0)).cell 0 rfl
  have r1 := ((hA.set 0 (.int .u64 n)).set 1 (.slice none 0 0)).cell 1 rfl
  refine bodyPost_ret (v := .agg #[.int .u64 n, .slice none 0 0]) (by simp [results, Try.results46, go_sem, r0, r1]) rfl ?_
  exact ⟨_, _, w1, rfl, ⟨rfl, hp⟩, got_ext _ _ _ _⟩

set_option maxRecDepth 20000 in
theorem told_var (w : World) (rv : Option Addr) (K A B : Int) (hk0 : -9223372036854775808 ≤ K) (hk1 : K ≤ 9223372036854775807) (hk : K % 9 = 4) (P : Nat → World → Prop) (hP : ∀ n w', P n w' → Ext (fun k => k < w.heap.size) (inRead w K A B) w')
    (H : Calls Try.prog 130 #[.pointer rv] (inRead w K A B) (GivesN .u64 18446744073709551615 P)) :
    Calls Try.prog 46 #[.pointer rv, getV K A B] w (GotEnd (w.heap.size + 1) (fun n x w1 => x = .slice none 0 0 ∧ P n w1)) := by
  have hA0 : At (inRead w K A B) (w.heap.size + 1) 49 [.int .u64 0, .slice none 0 0] := by
    have e : w.heap.size + 1 = (w.alloc (.cells #[.int .i64 K, .int .i64 A, .int .i64 B] 64)).heap.size := by simp
    rw [e]
    exact At.new _ [.int .u64 0, .slice none 0 0] _
  have g1 : ((w.alloc (.cells #[.int .i64 K, .int .i64 A, .int .i64 B] 64)).alloc (.cells #[.int .u64 0, .slice none 0 0] 49)).cell? ⟨w.heap.size, 0, none⟩ = some (.int .i64 K) := ((At.new w [.int .i64 K, .int .i64 A, .int .i64 B] 64).alloc _).cell 0 rfl
  have g2 : ((w.alloc (.cells #[.int .i64 K, .int .i64 A, .int .i64 B] 64)).alloc (.cells #[.int .u64 0, .slice none 0 0] 49)).cell? ⟨w.heap.size, 1, none⟩ = some (.int .i64 A) := ((At.new w [.int .i64 K, .int .i64 A, .int .i64 B] 64).alloc _).cell 1 rfl
  have g3 : ((w.alloc (.cells #[.int .i64 K, .int .i64 A, .int .i64 B] 64)).alloc (.cells #[.int .u64 0, .slice none 0 0] 49)).cell? ⟨w.heap.size, 2, none⟩ = some (.int .i64 B) := ((At.new w [.int .i64 K, .int .i64 A, .int .i64 B] 64).alloc _).cell 2 rfl
  have HK := Lib.hid hk
  have hkk : ∀ w, Calls Try.prog 35 #[.int .i64 K] w fun e w' => e = .returned (.int .i64 4) ∧ w = w' := fun w => by
    have := kind_any w K hk0 hk1
    rwa [HK.out] at this
  clear hk
  unfold getV
  go_enter Try.func46, Try.ntmps46
  go_wp2_with (go_at_call 35; refine (hkk _).mono ?_; rintro e w' ⟨rfl, rfl⟩)
  refine H.mono ?_
  rintro e w1 ⟨n, rfl, hn, hp⟩
  have hE := hP _ _ hp
  have hA := hA0.ext hE (by show ¬ _ < _; omega)
  have d0 := hA.cell 0 rfl
  have d1 := hA.cell 1 rfl
  have f0 := hA.frozen 0
  have f1 := hA.frozen 1
  go_wp2_with fail
  have r0 := ((hA.set 0 (.int .u64 n)).set 1 (.slice none 0 0)).cell 0 rfl
  have r1 := ((hA.set 0 (.int .u64 n)).set 1 (.slice none 0 0)).cell 1 rfl
  refine bodyPost_ret (v := .agg #[.int .u64 n, .slice none 0 0]) (by simp [results, Try.results46, go_sem, r0, r1]) rfl ?_
  exact ⟨_, _, w1, rfl, ⟨rfl, hp⟩, got_ext _ _ _ _⟩

set_option maxRecDepth 20000 in
theorem told_raw (w : World) (rv : Option Addr) (K A B : Int) (hk0 : -9223372036854775808 ≤ K) (hk1 : K ≤ 9223372036854775807) (hk : K % 9 = 5) (P : Value → World → Prop) (hP : ∀ n w', P n w' → Ext (fun k => k < w.heap.size) (inRead w K A B) w')
    (H : Calls Try.prog 131 #[.pointer rv, .int .i64 A] (inRead w K A B) (GivesB P)) :
    Calls Try.prog 46 #[.pointer rv, getV K A B] w (GotEnd (w.heap.size + 1) (fun n x w1 => n = 0 ∧ P x w1)) := by
  have hA0 : At (inRead w K A B) (w.heap.size + 1) 49 [.int .u64 0, .slice none 0 0] := by
    have e : w.heap.size + 1 = (w.alloc (.cells #[.int .i64 K, .int .i64 A, .int .i64 B] 64)).heap.size := by simp
    rw [e]
    exact At.new _ [.int .u64 0, .slice none 0 0] _
  have g1 : ((w.alloc (.cells #[.int .i64 K, .int .i64 A, .int .i64 B] 64)).alloc (.cells #[.int .u64 0, .slice none 0 0] 49)).cell? ⟨w.heap.size, 0, none⟩ = some (.int .i64 K) := ((At.new w [.int .i64 K, .int .i64 A, .int .i64 B] 64).alloc _).cell 0 rfl
  have g2 : ((w.alloc (.cells #[.int .i64 K, .int .i64 A, .int .i64 B] 64)).alloc (.cells #[.int .u64 0, .slice none 0 0] 49)).cell? ⟨w.heap.size, 1, none⟩ = some (.int .i64 A) := ((At.new w [.int .i64 K, .int .i64 A, .int .i64 B] 64).alloc _).cell 1 rfl
  have g3 : ((w.alloc (.cells #[.int .i64 K, .int .i64 A, .int .i64 B] 64)).alloc (.cells #[.int .u64 0, .slice none 0 0] 49)).cell? ⟨w.heap.size, 2, none⟩ = some (.int .i64 B) := ((At.new w [.int .i64 K, .int .i64 A, .int .i64 B] 64).alloc _).cell 2 rfl
  have HK := Lib.hid hk
  have hkk : ∀ w, Calls Try.prog 35 #[.int .i64 K] w fun e w' => e = .returned (.int .i64 5) ∧ w = w' := fun w => by
    have := kind_any w K hk0 hk1
    rwa [HK.out] at this
  clear hk
  unfold getV
  go_enter Try.func46, Try.ntmps46
  go_wp2_with (go_at_call 35; refine (hkk _).mono ?_; rintro e w' ⟨rfl, rfl⟩)
  refine H.mono ?_
  rintro e w1 ⟨ao, n, cap, rfl, hp⟩
  have hE := hP _ _ hp
  have hA := hA0.ext hE (by show ¬ _ < _; omega)
  have d0 := hA.cell 0 rfl
  have d1 := hA.cell 1 rfl
  have f0 := hA.frozen 0
  have f1 := hA.frozen 1
  go_wp2_with fail
  have r0 := ((hA.set 0 (.int .u64 0)).set 1 (.slice ao n cap)).cell 0 rfl
  have r1 := ((hA.set 0 (.int .u64 0)).set 1 (.slice ao n cap)).cell 1 rfl
  refine bodyPost_ret (v := .agg #[.int .u64 0, .slice ao n cap]) (by simp [results, Try.results46, go_sem, r0, r1]) rfl ?_
  exact ⟨0, _, w1, rfl, ⟨rfl, hp⟩, got_ext _ _ _ _⟩

set_option maxRecDepth 20000 in
theorem told_bytes (w : World) (rv : Option Addr) (K A B : Int) (hk0 : -9223372036854775808 ≤ K) (hk1 : K ≤ 9223372036854775807) (hk : K % 9 = 6) (P : Value → World → Prop) (hP : ∀ n w', P n w' → Ext (fun k => k < w.heap.size) (inRead w K A B) w')
    (H : Calls Try.prog 132 #[.pointer rv, .int .i64 A] (inRead w K A B) (GivesB P)) :
    Calls Try.prog 46 #[.pointer rv, getV K A B] w (GotEnd (w.heap.size + 1) (fun n x w1 => n = 0 ∧ P x w1)) := by
  have hA0 : At (inRead w K A B) (w.heap.size + 1) 49 [.int .u64 0, .slice none 0 0] := by
    have e : w.heap.size + 1 = (w.alloc (.cells #[.int .i64 K, .int .i64 A, .int .i64 B] 64)).heap.size := by simp
    rw [e]
    exact At.new _ [.int .u64 0, .slice none 0 0] _
  have g1 : ((w.alloc (.cells #[.int .i64 K, .int .i64 A, .int .i64 B] 64)).alloc (.cells #[.int .u64 0, .slice none 0 0] 49)).cell? ⟨w.heap.size, 0, none⟩ = some (.int .i64 K) := ((At.new w [.int .i64 K, .int .i64 A, .int .i64 B] 64).alloc _).cell 0 rfl
  have g2 : ((w.alloc (.cells #[.int .i64 K, .int .i64 A, .int .i64 B] 64)).alloc (.cells #[.int .u64 0, .slice none 0 0] 49)).cell? ⟨w.heap.size, 1, none⟩ = some (.int .i64 A) := ((At.new w [.int .i64 K, .int .i64 A, .int .i64 B] 64).alloc _).cell 1 rfl
  have g3 : ((w.alloc (.cells #[.int .i64 K, .int .i64 A, .int .i64 B] 64)).alloc (.cells #[.int .u64 0, .slice none 0 0] 49)).cell? ⟨w.heap.size, 2, none⟩ = some (.int .i64 B) := ((At.new w [.int .i64 K, .int .i64 A, .int .i64 B] 64).alloc _).cell 2 rfl
  have HK := Lib.hid hk
  have hkk : ∀ w, Calls Try.prog 35 #[.int .i64 K] w fun e w' => e = .returned (.int .i64 6) ∧ w = w' := fun w => by
    have := kind_any w K hk0 hk1
    rwa [HK.out] at this
  clear hk
  unfold getV
  go_enter Try.func46, Try.ntmps46
  go_wp2_with (go_at_call 35; refine (hkk _).mono ?_; rintro e w' ⟨rfl, rfl⟩)
  refine H.mono ?_
  rintro e w1 ⟨ao, n, cap, rfl, hp⟩
  have hE := hP _ _ hp
  have hA := hA0.ext hE (by show ¬ _ < _; omega)
  have d0 := hA.cell 0 rfl
  have d1 := hA.cell 1 rfl
  have f0 := hA.frozen 0
  have f1 := hA.frozen 1
  go_wp2_with fail
  have r0 := ((hA.set 0 (.int .u64 0)).set 1 (.slice ao n cap)).cell 0 rfl
  have r1 := ((hA.set 0 (.int .u64 0)).set 1 (.slice ao n cap)).cell 1 rfl
  refine bodyPost_ret (v := .agg #[.int .u64 0, .slice ao n cap]) (by simp [results, Try.results46, go_sem, r0, r1]) rfl ?_
  exact ⟨0, _, w1, rfl, ⟨rfl, hp⟩, got_ext _ _ _ _⟩

set_option maxRecDepth 20000 in
theorem told_text (w : World) (rv : Option Addr) (K A B : Int) (hk0 : -9223372036854775808 ≤ K) (hk1 : K ≤ 9223372036854775807) (hk : K % 9 = 7) (P : ByteArray → World → Prop) (hP : ∀ n w', P n w' → Ext (fun k => k < w.heap.size) (inRead w K A B) w')
    (H : Calls Try.prog 133 #[.pointer rv, .int .i64 A] (inRead w K A B) (GivesS P)) :
    Calls Try.prog 46 #[.pointer rv, getV K A B] w (GotEnd (w.heap.size + 1) (fun n x w1 => n = 0 ∧ ∃ s w0, P s w0 ∧ x = .slice (some ⟨w0.heap.size, 0, none⟩) s.size (grownCap w0 s.size 0 5) ∧ w1 = strWorld w0 s)) := by
  have hA0 : At (inRead w K A B) (w.heap.size + 1) 49 [.int .u64 0, .slice none 0 0] := by
    have e : w.heap.size + 1 = (w.alloc (.cells #[.int .i64 K, .int .i64 A, .int .i64 B] 64)).heap.size := by simp
    rw [e]
    exact At.new _ [.int .u64 0, .slice none 0 0] _
  have g1 : ((w.alloc (.cells #[.int .i64 K, .int .i64 A, .int .i64 B] 64)).alloc (.cells #[.int .u64 0, .slice none 0 0] 49)).cell? ⟨w.heap.size, 0, none⟩ = some (.int .i64 K) := ((At.new w [.int .i64 K, .int .i64 A, .int .i64 B] 64).alloc _).cell 0 rfl
  have g2 : ((w.alloc (.cells #[.int .i64 K, .int .i64 A, .int .i64 B] 64)).alloc (.cells #[.int .u64 0, .slice none 0 0] 49)).cell? ⟨w.heap.size, 1, none⟩ = some (.int .i64 A) := ((At.new w [.int .i64 K, .int .i64 A, .int .i64 B] 64).alloc _).cell 1 rfl
  have g3 : ((w.alloc (.cells #[.int .i64 K, .int .i64 A, .int .i64 B] 64)).alloc (.cells #[.int .u64 0, .slice none 0 0] 49)).cell? ⟨w.heap.size, 2, none⟩ = some (.int .i64 B) := ((At.new w [.int .i64 K, .int .i64 A, .int .i64 B] 64).alloc _).cell 2 rfl
  have HK := Lib.hid hk
  have hkk : ∀ w, Calls Try.prog 35 #[.int .i64 K] w fun e w' => e = .returned (.int .i64 7) ∧ w = w' := fun w => by
    have := kind_any w K hk0 hk1
    rwa [HK.out] at this
  clear hk
  unfold getV
  go_enter Try.func46, Try.ntmps46
  go_wp2_with (go_at_call 35; refine (hkk _).mono ?_; rintro e w' ⟨rfl, rfl⟩)
  refine H.mono ?_
  rintro e w1 ⟨s, rfl, hp⟩
  have hE := hP _ _ hp
  have hA := (hA0.ext hE (by show ¬ _ < _; omega)).ext (strWorld_ext w1 s) fun h => h
  have hcv := run_str w1 s
  have d0 := hA.cell 0 rfl
  have d1 := hA.cell 1 rfl
  have f0 := hA.frozen 0
  have f1 := hA.frozen 1
  go_wp2_with fail
  have r0 := ((hA.set 0 (.int .u64 0)).set 1 (.slice (some ⟨w1.heap.size, 0, none⟩) s.size (grownCap w1 s.size 0 5))).cell 0 rfl
  have r1 := ((hA.set 0 (.int .u64 0)).set 1 (.slice (some ⟨w1.heap.size, 0, none⟩) s.size (grownCap w1 s.size 0 5))).cell 1 rfl
  refine bodyPost_ret (v := .agg #[.int .u64 0, .slice (some ⟨w1.heap.size, 0, none⟩) s.size (grownCap w1 s.size 0 5)]) (by simp [results, Try.results46, go_sem, r0, r1]) rfl ?_
  exact ⟨0, _, _, rfl, ⟨rfl, s, w1, hp, rfl, rfl⟩, got_ext _ _ _ _⟩

set_option maxRecDepth 20000 in
theorem told_count (w : World) (rv : Option Addr) (K A B : Int) (hk0 : -9223372036854775808 ≤ K) (hk1 : K ≤ 9223372036854775807) (hk : K % 9 = 8) (P : Nat → World → Prop) (hP : ∀ n w', P n w' → Ext (fun k => k < w.heap.size) (inRead w K A B) w')
    (H : Calls Try.prog 134 #[.pointer rv, .int .i64 A, .int .i64 B] (inRead w K A B) (GivesN .i64 9223372036854775807 P)) :
    Calls Try.prog 46 #[.pointer rv, getV K A B] w (GotEnd (w.heap.size + 1) (fun n x w1 => x = .slice none 0 0 ∧ P n w1)) := by
  have hA0 : At (inRead w K A B) (w.heap.size + 1) 49 [.int .u64 0, .slice none 0 0] := by
    have e : w.heap.size + 1 = (w.alloc (.cells #[.int .i64 K, .int .i64 A, .int .i64 B] 64)).heap.size := by simp
    rw [e]
    exact At.new _ [.int .u64 0, .slice none 0 0] _
  have g1 : ((w.alloc (.cells #[.int .i64 K, .int .i64 A, .int .i64 B] 64)).alloc (.cells #[.int .u64 0, .slice none 0 0] 49)).cell? ⟨w.heap.size, 0, none⟩ = some (.int .i64 K) := ((At.new w [.int .i64 K, .int .i64 A, .int .i64 B] 64).alloc _).cell 0 rfl
  have g2 : ((w.alloc (.cells #[.int .i64 K, .int .i64 A, .int .i64 B] 64)).alloc (.cells #[.int .u64 0, .slice none 0 0] 49)).cell? ⟨w.heap.size, 1, none⟩ = some (.int .i64 A) := ((At.new w [.int .i64 K, .int .i64 A, .int .i64 B] 64).alloc _).cell 1 rfl
  have g3 : ((w.alloc (.cells #[.int .i64 K, .int .i64 A, .int .i64 B] 64)).alloc (.cells #[.int .u64 0, .slice none 0 0] 49)).cell? ⟨w.heap.size, 2, none⟩ = some (.int .i64 B) := ((At.new w [.int .i64 K, .int .i64 A, .int .i64 B] 64).alloc _).cell 2 rfl
  have HK := Lib.hid hk
  have hkk : ∀ w, Calls Try.prog 35 #[.int .i64 K] w fun e w' => e = .returned (.int .i64 8) ∧ w = w' := fun w => by
    have := kind_any w K hk0 hk1
    rwa [HK.out] at this
  clear hk
  unfold getV
  go_enter Try.func46, Try.ntmps46
  go_wp2_with (go_at_call 35; refine (hkk _).mono ?_; rintro e w' ⟨rfl, rfl⟩)
  refine H.mono ?_
  rintro e w1 ⟨n, rfl, hn, hp⟩
  have hE := hP _ _ hp
  have hA := hA0.ext hE (by show ¬ _ < _; omega)
  have d0 := hA.cell 0 rfl
  have d1 := hA.cell 1 rfl
  have f0 := hA.frozen 0
  have f1 := hA.frozen 1
  go_wp2_with fail
  have r0 := ((hA.set 0 (.int .u64 n)).set 1 (.slice none 0 0)).cell 0 rfl
  have r1 := ((hA.set 0 (.int .u64 n)).set 1 (.slice none 0 0)).cell 1 rfl
  refine bodyPost_ret (v := .agg #[.int .u64 n, .slice none 0 0]) (by simp [results, Try.results46, go_sem, r0, r1]) rfl ?_
  exact ⟨_, _, w1, rfl, ⟨rfl, hp⟩, got_ext _ _ _ _⟩
end Go.Proofs.Ytdgagpoeefbdjaa
