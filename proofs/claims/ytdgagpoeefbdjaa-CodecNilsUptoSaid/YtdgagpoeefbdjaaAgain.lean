/- The contract of the law's 'again'. Condition: the number is one of 64 bits. -/
import Derived.Test.YtdgagpoeefbdjaaAsked67
namespace Go.Proofs.Ytdgagpoeefbdjaa
open Go.RowKit

set_option maxRecDepth 20000 in
theorem again_any (w : World) (K A B : Int) (N : Nat) (ao : Option Addr) (n cap : Nat) (h0 : -9223372036854775808 ≤ K) (h1 : K ≤ 9223372036854775807) :
    Calls Try.prog 56 #[getV K A B, .agg #[.int .u64 N, .slice ao n cap]] w fun e w' => e = .returned (put (K % 9) N (.slice ao n cap)) ∧ Ext Nil w w' := by
  have hkk : ∀ w, Calls Try.prog 35 #[.int .i64 K] w fun e w' => e = .returned (.int .i64 (K % 9)) ∧ w' = w := fun w => (kind_any w K h0 h1).mono fun e w' h => ⟨h.1, h.2.symm⟩
  generalize K % 9 = q at hkk ⊢
  unfold put getV
  go_enter Try.func56, Try.ntmps56
  go_wp2_with fail
  have hA := (At.new w [.int .i64 K, .int .i64 A, .int .i64 B] 64)
  have hB := (At.new (w.alloc (.cells #[.int .i64 K, .int .i64 A, .int .i64 B] 64 (0, 0))) [.int .u64 N, .slice ao n cap] 49)
  have hC := (At.new ((w.alloc (.cells #[.int .i64 K, .int .i64 A, .int .i64 B] 64 (0, 0))).alloc (.cells #[.int .u64 N, .slice ao n cap] 49 (0, 0))) [.int .i64 0, .int .u64 0, .slice none 0 0] 39)
  have s1 : (w.alloc (.cells #[.int .i64 K, .int .i64 A, .int .i64 B] 64 (0, 0))).heap.size = w.heap.size + 1 := by simp
  have s2 : ((w.alloc (.cells #[.int .i64 K, .int .i64 A, .int .i64 B] 64 (0, 0))).alloc (.cells #[.int .u64 N, .slice ao n cap] 49 (0, 0))).heap.size = w.heap.size + 2 := by simp
  rw [s1] at hB
  rw [s2] at hC
  have hA2 := ((hA.alloc (.cells #[.int .u64 N, .slice ao n cap] 49 (0, 0))).alloc (.cells #[.int .i64 0, .int .u64 0, .slice none 0 0] 39 (0, 0))).drew
  have hB2 := (hB.alloc (.cells #[.int .i64 0, .int .u64 0, .slice none 0 0] 39 (0, 0))).drew
  have hC2 := hC.drew
  have hE := ((((Ext.refl Nil w).alloc (.cells #[.int .i64 K, .int .i64 A, .int .i64 B] 64 (0, 0))).alloc (.cells #[.int .u64 N, .slice ao n cap] 49 (0, 0))).alloc (.cells #[.int .i64 0, .int .u64 0, .slice none 0 0] 39 (0, 0))).drew
  clear hA hB hC s1 s2
  obtain ⟨W, hW⟩ : ∃ W, (((w.alloc (.cells #[.int .i64 K, .int .i64 A, .int .i64 B] 64 (0, 0))).alloc (.cells #[.int .u64 N, .slice ao n cap] 49 (0, 0))).alloc (.cells #[.int .i64 0, .int .u64 0, .slice none 0 0] 39 (0, 0))).drew = W := ⟨_, rfl⟩
  refine still_tail 8 (by kernel_rfl) (by kernel_rfl) W hW ?_
  rw [hW] at hA2 hB2 hC2 hE
  clear hW
  simp only [List.take_succ_cons, List.take_zero, List.drop_succ_cons, List.drop_zero]
  have c0 := hA2.cell 0 rfl
  have b0 := hB2.cell 0 rfl
  have b1 := hB2.cell 1 rfl
  have g0 := hC2.cell 0 rfl
  have g1 := hC2.cell 1 rfl
  have g2 := hC2.cell 2 rfl
  have f0 := hC2.frozen 0
  have f1 := hC2.frozen 1
  have f2 := hC2.frozen 2
  clear hA2 hB2
  repeat still_step
  still_call (hkk _)
  repeat still_step
  refine wpStill_nil ?_
  go_wp2
  have hX : ∀ u0 u1 u2 : Value, Ext Nil w (((W.setCell ⟨w.heap.size + 2, 0, none⟩ u0).setCell ⟨w.heap.size + 2, 1, none⟩ u1).setCell ⟨w.heap.size + 2, 2, none⟩ u2) := fun u0 u1 u2 =>
    ((hE.setCell (p := ⟨w.heap.size + 2, 0, none⟩) (fun h => absurd h (by simp)) u0).setCell (p := ⟨w.heap.size + 2, 1, none⟩) (fun h => absurd h (by simp)) u1).setCell (p := ⟨w.heap.size + 2, 2, none⟩) (fun h => absurd h (by simp)) u2
  have e0 := (hC2.set 0 (.int .i64 q)).cell 0 rfl
  have e1 := ((hC2.set 0 (.int .i64 q)).set 1 (.int .u64 N)).cell 1 rfl
  have e2 := (((hC2.set 0 (.int .i64 q)).set 1 (.int .u64 N)).set 2 (.slice ao n cap)).cell 2 rfl
  exact bodyPost_ret (v := .agg #[.int .i64 q, .int .u64 N, .slice ao n cap]) (by simp [results, Try.results56, go_sem, e0, e1, e2]) rfl ⟨rfl, hX _ _ _⟩
end Go.Proofs.Ytdgagpoeefbdjaa
