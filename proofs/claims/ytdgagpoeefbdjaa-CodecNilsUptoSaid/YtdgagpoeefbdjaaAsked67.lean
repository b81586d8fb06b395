/- The contract of the law's 'asked' at bytes and text, and at all kinds. Condition: the value is one in memory. -/
import Derived.Test.YtdgagpoeefbdjaaAsked
import Derived.StillTailTactics
namespace Go.Proofs.Ytdgagpoeefbdjaa
open Go.RowKit

/-- a region of quiet operations with a forced end, its world under a name -/
theorem still_tail {P : Program} {id : Nat} {Q : Exit → Act → World → Prop} {a : Act} {w : World} {l : List Oper} (n : Nat) (hm : P.follows .mixedOrders = true) (hB : Region.lexTailB .any l.toArray n = true) (W : World) (hW : w.drew = W)
    (h : wpStill P l.toArray W (fun a' => wpList P l.toArray Q (l.drop n) a' W) (l.take n) a) : (Code.region id l.toArray true).wp P Q a w := by
  subst hW
  exact wp_region_still_tail n hm hB h

set_option maxRecDepth 20000 in
theorem asked_6 (w : World) (K : Int) (N : Nat) (x : Value) (B : List UInt8) (hB : Bytes w x B) (h0 : -9223372036854775808 ≤ K) (h1 : K ≤ 9223372036854775807) (hk : K % 9 = 6) (hl : B.length ≤ 1099511627776) :
    Calls Try.prog 53 #[put K N x] w fun e w' => e = .returned (getV 6 ((B.length + N % 7 : Nat) : Int) 0) ∧ Ext Nil w w' := by
  obtain ⟨ao, cap, rfl, -, -, -⟩ := hB.open
  have HK := Lib.hid hk
  have hkk : ∀ w, Calls Try.prog 35 #[.int .i64 K] w fun e w' => e = .returned (.int .i64 6) ∧ w' = w := fun w => by
    have := kind_any w K h0 h1
    rw [HK.out] at this
    exact this.mono fun e w' h => ⟨h.1, h.2.symm⟩
  clear hk hB
  unfold put getV
  go_enter Try.func53, Try.ntmps53
  go_wp2_with (go_at_call 35; refine (hkk _).mono ?_; rintro e w' ⟨rfl, rfl⟩)
  have hA := (At.new w [.int .i64 K, .int .u64 N, .slice ao B.length cap] 39)
  have hE : Ext Nil w ((w.alloc (.cells #[.int .i64 K, .int .u64 N, .slice ao B.length cap] 39 (0, 0))).alloc (.cells #[.int .i64 0, .int .i64 0, .int .i64 0] 64 (0, 0))).drew := (((Ext.refl _ _).alloc _).alloc _).drew
  have hA2 := (hA.alloc (.cells #[.int .i64 0, .int .i64 0, .int .i64 0] 64 (0, 0))).drew
  have hG := (At.new (w.alloc (.cells #[.int .i64 K, .int .u64 N, .slice ao B.length cap] 39 (0, 0))) [.int .i64 0, .int .i64 0, .int .i64 0] 64).drew
  rw [show (w.alloc (.cells #[.int .i64 K, .int .u64 N, .slice ao B.length cap] 39 (0, 0))).heap.size = w.heap.size + 1 from by simp] at hG
  obtain ⟨W, hW⟩ : ∃ W, ((w.alloc (.cells #[.int .i64 K, .int .u64 N, .slice ao B.length cap] 39 (0, 0))).alloc (.cells #[.int .i64 0, .int .i64 0, .int .i64 0] 64 (0, 0))).drew = W := ⟨_, rfl⟩
  refine still_tail 12 (by kernel_rfl) (by kernel_rfl) W hW ?_
  rw [hW] at hA2 hE hG
  clear hW
  simp only [List.take_succ_cons, List.take_zero, List.drop_succ_cons, List.drop_zero]
  have c0 := hA2.cell 0 rfl
  have c1 := hA2.cell 1 rfl
  have c2 := hA2.cell 2 rfl
  have g0 := hG.cell 0 rfl
  have g1 := hG.cell 1 rfl
  have g2 := hG.cell 2 rfl
  have f0 := hG.frozen 0
  have f1 := hG.frozen 1
  have f2 := hG.frozen 2
  clear hA hA2
  repeat still_step
  still_call (hkk _)
  repeat still_step
  refine wpStill_nil ?_
  go_wp2
  have hX : ∀ u0 u1 u2 : Value, Ext Nil w (((W.setCell ⟨w.heap.size + 1, 0, none⟩ u0).setCell ⟨w.heap.size + 1, 1, none⟩ u1).setCell ⟨w.heap.size + 1, 2, none⟩ u2) := fun u0 u1 u2 =>
    ((hE.setCell (p := ⟨w.heap.size + 1, 0, none⟩) (fun h => absurd h (by simp)) u0).setCell (p := ⟨w.heap.size + 1, 1, none⟩) (fun h => absurd h (by simp)) u1).setCell (p := ⟨w.heap.size + 1, 2, none⟩) (fun h => absurd h (by simp)) u2
  have e0 := (hG.set 0 (.int .i64 6)).cell 0 rfl
  have e1 := ((hG.set 0 (.int .i64 6)).set 1 (.int .i64 ((B.length : Int) + (N : Int) % 7))).cell 1 rfl
  have e2 := (((hG.set 0 (.int .i64 6)).set 1 (.int .i64 ((B.length : Int) + (N : Int) % 7))).set 2 (.int .i64 0)).cell 2 rfl
  exact bodyPost_ret (v := .agg #[.int .i64 6, .int .i64 ((B.length : Int) + (N : Int) % 7), .int .i64 0]) (by simp [results, Try.results53, go_sem, e0, e1, e2]) rfl ⟨rfl, hX _ _ _⟩

set_option maxRecDepth 20000 in
theorem asked_7 (w : World) (K : Int) (N : Nat) (x : Value) (B : List UInt8) (hB : Bytes w x B) (h0 : -9223372036854775808 ≤ K) (h1 : K ≤ 9223372036854775807) (hk : K % 9 = 7) (hl : B.length ≤ 1099511627776) :
    Calls Try.prog 53 #[put K N x] w fun e w' => e = .returned (getV 7 ((B.length + N % 7 : Nat) : Int) 0) ∧ Ext Nil w w' := by
  obtain ⟨ao, cap, rfl, -, -, -⟩ := hB.open
  have HK := Lib.hid hk
  have hkk : ∀ w, Calls Try.prog 35 #[.int .i64 K] w fun e w' => e = .returned (.int .i64 7) ∧ w' = w := fun w => by
    have := kind_any w K h0 h1
    rw [HK.out] at this
    exact this.mono fun e w' h => ⟨h.1, h.2.symm⟩
  clear hk hB
  unfold put getV
  go_enter Try.func53, Try.ntmps53
  go_wp2_with (go_at_call 35; refine (hkk _).mono ?_; rintro e w' ⟨rfl, rfl⟩)
  have hA := (At.new w [.int .i64 K, .int .u64 N, .slice ao B.length cap] 39)
  have hE : Ext Nil w ((w.alloc (.cells #[.int .i64 K, .int .u64 N, .slice ao B.length cap] 39 (0, 0))).alloc (.cells #[.int .i64 0, .int .i64 0, .int .i64 0] 64 (0, 0))).drew := (((Ext.refl _ _).alloc _).alloc _).drew
  have hA2 := (hA.alloc (.cells #[.int .i64 0, .int .i64 0, .int .i64 0] 64 (0, 0))).drew
  have hG := (At.new (w.alloc (.cells #[.int .i64 K, .int .u64 N, .slice ao B.length cap] 39 (0, 0))) [.int .i64 0, .int .i64 0, .int .i64 0] 64).drew
  rw [show (w.alloc (.cells #[.int .i64 K, .int .u64 N, .slice ao B.length cap] 39 (0, 0))).heap.size = w.heap.size + 1 from by simp] at hG
  obtain ⟨W, hW⟩ : ∃ W, ((w.alloc (.cells #[.int .i64 K, .int .u64 N, .slice ao B.length cap] 39 (0, 0))).alloc (.cells #[.int .i64 0, .int .i64 0, .int .i64 0] 64 (0, 0))).drew = W := ⟨_, rfl⟩
  refine still_tail 12 (by kernel_rfl) (by kernel_rfl) W hW ?_
  rw [hW] at hA2 hE hG
  clear hW
  simp only [List.take_succ_cons, List.take_zero, List.drop_succ_cons, List.drop_zero]
  have c0 := hA2.cell 0 rfl
  have c1 := hA2.cell 1 rfl
  have c2 := hA2.cell 2 rfl
  have g0 := hG.cell 0 rfl
  have g1 := hG.cell 1 rfl
  have g2 := hG.cell 2 rfl
  have f0 := hG.frozen 0
  have f1 := hG.frozen 1
  have f2 := hG.frozen 2
  clear hA hA2
  repeat still_step
  still_call (hkk _)
  repeat still_step
  refine wpStill_nil ?_
  go_wp2
  have hX : ∀ u0 u1 u2 : Value, Ext Nil w (((W.setCell ⟨w.heap.size + 1, 0, none⟩ u0).setCell ⟨w.heap.size + 1, 1, none⟩ u1).setCell ⟨w.heap.size + 1, 2, none⟩ u2) := fun u0 u1 u2 =>
    ((hE.setCell (p := ⟨w.heap.size + 1, 0, none⟩) (fun h => absurd h (by simp)) u0).setCell (p := ⟨w.heap.size + 1, 1, none⟩) (fun h => absurd h (by simp)) u1).setCell (p := ⟨w.heap.size + 1, 2, none⟩) (fun h => absurd h (by simp)) u2
  have e0 := (hG.set 0 (.int .i64 7)).cell 0 rfl
  have e1 := ((hG.set 0 (.int .i64 7)).set 1 (.int .i64 ((B.length : Int) + (N : Int) % 7))).cell 1 rfl
  have e2 := (((hG.set 0 (.int .i64 7)).set 1 (.int .i64 ((B.length : Int) + (N : Int) % 7))).set 2 (.int .i64 0)).cell 2 rfl
  exact bodyPost_ret (v := .agg #[.int .i64 7, .int .i64 ((B.length : Int) + (N : Int) % 7), .int .i64 0]) (by simp [results, Try.results53, go_sem, e0, e1, e2]) rfl ⟨rfl, hX _ _ _⟩

theorem askA_bounds {w : World} (d : PutD) (hd : PutOk w d.K d.N d.x d.B) (hm : mayB d.K d.N = true) (hl : d.B.length ≤ 1099511627776) : askA d ≤ 9223372036854775807 := by
  have _hlen := hd.len
  obtain ⟨ao, cap, e, h1, h2, -⟩ := hd.bytes.open
  have hn : d.N < 18446744073709551616 := hd.n
  unfold maxLen at h2
  unfold mayB at hm
  unfold askA
  split
  · omega
  split
  · omega
  split
  · next h8 =>
    have h0 : 0 ≤ wrap64 (d.N : Int) := by simpa [h8] using hm
    unfold wrap64 at h0
    omega
  · omega

theorem asked_any (w : World) (d : PutD) (hd : PutOk w d.K d.N d.x d.B) (hm : mayB d.K d.N = true) (hl : d.B.length ≤ 1099511627776) :
    Calls Try.prog 53 #[put d.K d.N d.x] w fun e w' => e = .returned (getV (d.K % 9) (askA d) 0) ∧ Ext Nil w w' := by
  have hA := askA_bounds d hd hm hl
  obtain ⟨K, N, x, B⟩ := d
  simp only at hd hm hl hA ⊢
  have h0 := hd.k0
  have h1 := hd.k1
  have hB := hd.bytes
  unfold askA at hA ⊢
  simp only at hA ⊢
  have h9 : K % 9 = 0 ∨ K % 9 = 1 ∨ K % 9 = 2 ∨ K % 9 = 3 ∨ K % 9 = 4 ∨ K % 9 = 5 ∨ K % 9 = 6 ∨ K % 9 = 7 ∨ K % 9 = 8 := by omega
  rcases h9 with hk | hk | hk | hk | hk | hk | hk | hk | hk
  · rw [if_neg (by omega), if_neg (by omega), if_neg (by omega), hk]
    exact asked_0 w K N x B hB h0 h1 hk
  · rw [if_neg (by omega), if_neg (by omega), if_neg (by omega), hk]
    exact asked_1 w K N x B hB h0 h1 hk
  · rw [if_neg (by omega), if_neg (by omega), if_neg (by omega), hk]
    exact asked_2 w K N x B hB h0 h1 hk
  · rw [if_neg (by omega), if_neg (by omega), if_neg (by omega), hk]
    exact asked_3 w K N x B hB h0 h1 hk
  · rw [if_neg (by omega), if_neg (by omega), if_neg (by omega), hk]
    exact asked_4 w K N x B hB h0 h1 hk
  · rw [if_pos hk, hk]
    exact asked_5 w K N x B hB h0 h1 hk
  · rw [if_neg (by omega), if_pos (.inl hk), hk]
    exact asked_6 w K N x B hB h0 h1 hk hl
  · rw [if_neg (by omega), if_pos (.inr hk), hk]
    exact asked_7 w K N x B hB h0 h1 hk hl
  · rw [if_neg (by omega), if_neg (by omega), if_pos hk] at hA ⊢
    rw [hk]
    exact asked_8 w K N x B hB h0 h1 hk hA
end Go.Proofs.Ytdgagpoeefbdjaa
