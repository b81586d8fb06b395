/- The call of the law CodecNils. Conditions: the arguments can be read; the bytes fit into memory. -/
import Derived.Test.YtdgagpoeefbdjaaDead
import Derived.Test.YtdgagpoeefbdjaaForm
namespace Go.Proofs.Ytdgagpoeefbdjaa
open Go.RowKit

/-- no reader, or one that New did not make -/
def NoR (w : World) (rv : Option Addr) : Prop := rv = none ∨ ∃ p, rv = some ⟨p, 0, none⟩ ∧ At w p 75 [.bool false, .slice none 0 0, .int .i64 0, .int .i64 0]
theorem NoR.nil {w w' : World} {rv : Option Addr} (h : NoR w rv) (e : Ext Nil w w') : NoR w' rv := by
  rcases h with h | ⟨p, rfl, h⟩
  · exact .inl h
  · exact .inr ⟨p, rfl, h.ext e fun h => h⟩
theorem NoR.off {w : World} {rv : Option Addr} (h : NoR w rv) : Off w rv := by
  rcases h with h | ⟨p, rfl, h⟩
  · exact .inl h
  · exact .inr ⟨p, false, _, _, 0, rfl, h.cell 0 rfl, h.cell 1 rfl, h.cell 2 rfl, h.cell 3 rfl, .inl rfl⟩

theorem at_no (w : World) (rv : Option Addr) (h : NoR w rv) : Calls Try.prog 50 #[.pointer rv] w fun e w' => e = .returned (.int .i64 0) ∧ w = w' := by
  rcases h with rfl | ⟨p, rfl, h⟩
  · go_enter Try.func50, Try.ntmps50
    go_wp2
    go_ret
    exact ⟨rfl, rfl⟩
  · have c2 := h.cell 2 rfl
    go_enter Try.func50, Try.ntmps50
    go_wp2
    go_ret
    exact ⟨rfl, rfl⟩
theorem left_no (w : World) (rv : Option Addr) (h : NoR w rv) : Calls Try.prog 52 #[.pointer rv] w fun e w' => e = .returned (.int .i64 0) ∧ ∃ n, w' = w.drewN n := by
  rcases h with rfl | ⟨p, rfl, h⟩
  · go_enter Try.func52, Try.ntmps52
    go_wp2
    go_ret
    exact ⟨rfl, 0, rfl⟩
  · have c1 := h.cell 1 rfl
    have c2 := h.cell 2 rfl
    go_enter Try.func52, Try.ntmps52
    go_wp2
    go_quiet (fail)
    go_wp2
    go_ret
    exact ⟨rfl, _, rfl⟩
theorem err_no (w : World) (rv : Option Addr) (h : NoR w rv) : Calls Try.prog 49 #[.pointer rv] w fun e w' => e = .returned (.int .i64 1) ∧ w = w' := by
  rcases h with rfl | ⟨p, rfl, h⟩
  · go_enter Try.func49, Try.ntmps49
    go_wp2
    go_ret
    exact ⟨rfl, rfl⟩
  · have c0 := h.cell 0 rfl
    go_enter Try.func49, Try.ntmps49
    go_wp2
    go_ret
    exact ⟨rfl, rfl⟩
theorem end_no (w : World) (rv : Option Addr) (h : NoR w rv) : Calls Try.prog 51 #[.pointer rv] w fun e w' => e = .returned (.int .i64 1) ∧ w = w' := by
  go_enter Try.func51, Try.ntmps51
  go_wp2_with (go_at_call 49; refine (err_no _ rv h).mono ?_; rintro e w' ⟨rfl, rfl⟩)
  go_ret
  exact ⟨rfl, rfl⟩

set_option maxHeartbeats 400000 in
set_option maxRecDepth 20000 in
theorem nils_walk (w : World) (K : Int) (N : Nat) (x : Value) (B : List UInt8) (hp : PutOk w K N x B) (hfit : Fits (B.length + 3)) (gk ga gb : Int) (hgk : IsInt64 gk) :
    Calls Try.prog 11 #[put K N x, getV gk ga gb] w fun e w' => e = .returned (.bool true) ∧ Ext Nil w w' := by
  unfold put getV
  go_enter Try.func11, Try.ntmps11
  go_wp2_with fail
  refine (alive_any _).mono ?_
  rintro e w0 ⟨rfl, hE0⟩
  obtain ⟨aox, capx, rfl, -, -, -⟩ := hp.bytes.open
  have hA0 := ((At.new w [.int .i64 K, .int .u64 N, .slice aox B.length capx] 39).alloc (.cells #[.int .i64 gk, .int .i64 ga, .int .i64 gb] 64 (0, 0))).ext hE0 fun h => h
  have s1 : (w.alloc (.cells #[.int .i64 K, .int .u64 N, .slice aox B.length capx] 39 (0, 0))).heap.size = w.heap.size + 1 := by simp
  have hG0 := (At.new (w.alloc (.cells #[.int .i64 K, .int .u64 N, .slice aox B.length capx] 39 (0, 0))) [.int .i64 gk, .int .i64 ga, .int .i64 gb] 64).ext hE0 fun h => h
  rw [s1] at hG0
  have hX0 : Ext Nil w w0 := (((Ext.refl Nil w).alloc _).alloc _).same hE0
  have hp0 := hp.ext hX0 fun _ _ h => h
  clear hE0 s1 hp
  have hA1 := (hA0.alloc (.cells #[.bool false, .slice none 0 0, .int .i64 0] 73 (0, 0))).alloc (.cells #[.bool false, .slice none 0 0, .int .i64 0, .int .i64 0] 75 (0, 0))
  have hG1 := (hG0.alloc (.cells #[.bool false, .slice none 0 0, .int .i64 0] 73 (0, 0))).alloc (.cells #[.bool false, .slice none 0 0, .int .i64 0, .int .i64 0] 75 (0, 0))
  have hV1 := (At.new w0 [.bool false, .slice none 0 0, .int .i64 0] 73).alloc (.cells #[.bool false, .slice none 0 0, .int .i64 0, .int .i64 0] 75 (0, 0))
  have hR1 := At.new (w0.alloc (.cells #[.bool false, .slice none 0 0, .int .i64 0] 73 (0, 0))) [.bool false, .slice none 0 0, .int .i64 0, .int .i64 0] 75
  have s2 : (w0.alloc (.cells #[.bool false, .slice none 0 0, .int .i64 0] 73 (0, 0))).heap.size = w0.heap.size + 1 := by simp
  rw [s2] at hR1
  have hX1 : Ext Nil w ((w0.alloc (.cells #[.bool false, .slice none 0 0, .int .i64 0] 73 (0, 0))).alloc (.cells #[.bool false, .slice none 0 0, .int .i64 0, .int .i64 0] 75 (0, 0))) := (hX0.alloc _).alloc _
  have hp1 : PutOk ((w0.alloc (.cells #[.bool false, .slice none 0 0, .int .i64 0] 73 (0, 0))).alloc (.cells #[.bool false, .slice none 0 0, .int .i64 0, .int .i64 0] 75 (0, 0))) K N (.slice aox B.length capx) B := hp0.ext (((Ext.refl Nil w0).alloc _).alloc _) fun _ _ h => h
  have c0 := hA1.cell 0 rfl
  have c1 := hA1.cell 1 rfl
  have c2 := hA1.cell 2 rfl
  clear s2 hA0 hG0 hX0 hp0
  go_wp2_with fail
  generalize (w0.alloc (.cells #[.bool false, .slice none 0 0, .int .i64 0] 73 (0, 0))).alloc (.cells #[.bool false, .slice none 0 0, .int .i64 0, .int .i64 0] 75 (0, 0)) = W1 at *
  refine (lay_dead W1 none (.inl rfl) K N _ B hp1 hfit).mono ?_
  rintro e W2 ⟨rfl, hE2⟩
  have hA2 := hA1.ext hE2 fun h => h
  have hG2 := hG1.ext hE2 fun h => h
  have hV2 := hV1.ext hE2 fun h => h
  have hR2 := hR1.ext hE2 fun h => h
  have hp2 := hp1.ext hE2 fun _ _ h => h
  have hX2 := hX1.same hE2
  clear c0 c1 c2 hA1 hG1 hV1 hR1 hp1 hX1 hE2
  have c0 := hA2.cell 0 rfl
  have c1 := hA2.cell 1 rfl
  have c2 := hA2.cell 2 rfl
  go_wp2_with fail
  refine (lay_dead W2 _ (.inr ⟨_, rfl, hV2.cell 0 rfl⟩) K N _ B hp2 hfit).mono ?_
  rintro e W3 ⟨rfl, hE3⟩
  have hG3 := hG2.ext hE3 fun h => h
  have hV3 := hV2.ext hE3 fun h => h
  have hR3 := hR2.ext hE3 fun h => h
  have hX3 := hX2.same hE3
  clear c0 c1 c2 hA2 hG2 hV2 hR2 hp2 hX2 hE3
  have hD3 : DeadW W3 (some ⟨w0.heap.size, 0, none⟩) := .inr ⟨_, rfl, hV3.cell 0 rfl⟩
  have g0 := hG3.cell 0 rfl
  have g1 := hG3.cell 1 rfl
  have g2 := hG3.cell 2 rfl
  go_wp2_with fail
  refine (out_dead W3 none (.inl rfl)).mono ?_
  rintro e w' ⟨rfl, rfl⟩
  go_wp2_with fail
  refine (out_dead W3 _ hD3).mono ?_
  rintro e w' ⟨rfl, rfl⟩
  go_wp2_with (first
    | (go_at_call 27; refine (num_any _ _).mono ?_; rintro e w' ⟨rfl, rfl⟩))
  refine (law_off (.inl rfl) gk ga gb hgk).mono ?_
  rintro e W4 ⟨x4, rfl, ⟨ao4, cap4, h41, h42, rfl, ho4, hf4⟩, hE4⟩
  have hE4' : Ext Nil W3 (W4.alloc (.cells #[.int .u64 0, .slice ao4 0 cap4] 49)) := hE4.alloc _
  have hG4 := hG3.ext hE4' fun h => h
  have hR4 := hR3.ext hE4' fun h => h
  have hX4 := hX3.same hE4'
  have hx4 := At.new W4 [.int .u64 0, .slice ao4 0 cap4] 49
  have g0 := hG4.cell 0 rfl
  have g1 := hG4.cell 1 rfl
  have g2 := hG4.cell 2 rfl
  have hN4 : NoR (W4.alloc (.cells #[.int .u64 0, .slice ao4 0 cap4] 49)) (some ⟨w0.heap.size + 1, 0, none⟩) := .inr ⟨_, rfl, hR4⟩
  go_wp2_with fail
  refine (law_off hN4.off gk ga gb hgk).mono ?_
  rintro e W5 ⟨x5, rfl, ⟨ao5, cap5, h51, h52, rfl, ho5, hf5⟩, hE5⟩
  have hE5' : Ext Nil (W4.alloc (.cells #[.int .u64 0, .slice ao4 0 cap4] 49)) (W5.alloc (.cells #[.int .u64 0, .slice ao5 0 cap5] 49)) := hE5.alloc _
  have hN5 := hN4.nil hE5'
  have hx5 := hx4.ext hE5' fun h => h
  have hX5 := hX4.same hE5'
  have hy5 := At.new W5 [.int .u64 0, .slice ao5 0 cap5] 49
  have a0 := hx5.cell 0 rfl
  have a1 := hx5.cell 1 rfl
  have b0 := hy5.cell 0 rfl
  have b1 := hy5.cell 1 rfl
  have hl4 := hx5.lt
  have hl5 := hy5.lt
  clear g0 g1 g2 hG4 hR4 hX4 hx4 hE4 hE4' hE5 hE5' hX3 hR3 hV3 hG3 hD3
  go_wp2_with fail
  generalize W5.alloc (.cells #[.int .u64 0, .slice ao5 0 cap5] 49) = W6 at *
  clear a0 a1 b0 b1 hl4 hl5 hx5 hy5
  refine (at_no W6 none (.inl rfl)).mono ?_
  rintro e w' ⟨rfl, rfl⟩
  go_wp2_with fail
  refine (at_no W6 _ hN5).mono ?_
  rintro e w' ⟨rfl, rfl⟩
  go_wp2_with fail
  refine (left_no W6 none (.inl rfl)).mono ?_
  rintro e w' ⟨rfl, n1, rfl⟩
  go_wp2_with fail
  refine (left_no _ _ (hN5.nil ((Ext.refl Nil _).drewN _))).mono ?_
  rintro e w' ⟨rfl, n2, rfl⟩
  go_wp2_with fail
  refine (err_no _ none (.inl rfl)).mono ?_
  rintro e w' ⟨rfl, rfl⟩
  go_wp2_with (go_at_call 27; refine (num_any _ _).mono ?_; rintro e w' ⟨rfl, rfl⟩)
  refine (err_no _ _ (hN5.nil ((Ext.refl Nil _).drewN _))).mono ?_
  rintro e w' ⟨rfl, rfl⟩
  go_wp2_with (go_at_call 27; refine (num_any _ _).mono ?_; rintro e w' ⟨rfl, rfl⟩)
  refine (end_no _ none (.inl rfl)).mono ?_
  rintro e w' ⟨rfl, rfl⟩
  go_wp2_with (go_at_call 27; refine (num_any _ _).mono ?_; rintro e w' ⟨rfl, rfl⟩)
  refine (end_no _ _ (hN5.nil ((Ext.refl Nil _).drewN _))).mono ?_
  rintro e w' ⟨rfl, rfl⟩
  go_wp2_with (go_at_call 27; refine (num_any _ _).mono ?_; rintro e w' ⟨rfl, rfl⟩)
  go_ret
  exact ⟨rfl, hX5.drewN _⟩
end Go.Proofs.Ytdgagpoeefbdjaa
