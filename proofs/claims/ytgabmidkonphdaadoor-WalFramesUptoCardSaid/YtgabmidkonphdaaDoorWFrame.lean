/- The contract of wal.Frame (chapter 7). Conditions: the record can be read, lies in older memory; the table's cells hold what its initialiser lays. -/
import Derived.Test.YtgabmidkonphdaaDoorRFrame
import Derived.Test.YtgabmidkonphdaaDoorWChk
namespace Go.Proofs.YtgabmidkonphdaaDoor
open Go.RowKit

theorem frame_big (w : World) (x : Value) (l : List UInt8) (hx : Bytes w x l) (hl : 262400 < l.length) :
    Calls Tryd.prog 5 #[x] w fun e w' => e = .returned (.tuple #[.slice none 0 0, .int .i64 4]) ∧ w = w' := by
  obtain ⟨ao, cap, rfl, hcap, hmax, -⟩ := hx.open
  unfold maxLen at hmax
  have hl0 : (262400 : Int) < l.length := by omega
  go_enter Tryd.func5, Tryd.ntmps5
  go_wp2
  go_ret2
  exact ⟨rfl, rfl⟩

set_option maxRecDepth 20000 in
theorem frame_any (w : World) (x : Value) (l : List UInt8) (hx : Bytes w x l) (hl : l.length ≤ 262400) (hT : TabAt w) :
    Calls Tryd.prog 5 #[x] w fun e w' => ∃ ao cap, e = .returned (.tuple #[.slice ao (frameB l).length cap, .int .i64 0]) ∧ OwnB w' (.slice ao (frameB l).length cap) (frameB l) ∧ Step Nil w (inFoot (.slice ao (frameB l).length cap)) w' := by
  obtain ⟨ao, cap, rfl, hcap, hmax, -⟩ := hx.open
  have hl0 : (l.length : Int) ≤ 262400 := by omega
  have hhl : (headB l).length = 5 := headB_length l
  have hfF : Fits (frameB l).length := by rw [frameB_length]; unfold Fits; omega
  have hap1 : app 0 [] [toB 167] = [167] := rfl
  have hap2 : app 0 [167] (le 4 l.length) = headB l := rfl
  have hck := chkB_lt (headB l)
  have hck2 := chkB_lt l
  have hap3 : app 0 (headB l) (le 4 (chkB (headB l))) = headB l ++ le 4 (chkB (headB l)) := rfl
  have hap4 : app 0 (headB l ++ le 4 (chkB (headB l))) l = headB l ++ le 4 (chkB (headB l)) ++ l := rfl
  have hap5 : app 0 (headB l ++ le 4 (chkB (headB l)) ++ l) (le 4 (chkB l)) = frameB l := rfl
  have A1 := Lib.hid hap1; have A2 := Lib.hid hap2; have A3 := Lib.hid hap3; have A4 := Lib.hid hap4; have A5 := Lib.hid hap5
  have HL5 := Lib.hid hhl
  have HT := Lib.hid hT
  clear hap1 hap2 hap3 hap4 hap5 hhl hT
  go_enter Tryd.func5, Tryd.ntmps5
  go_wp2_with fail
  refine (newWriter_any w).mono ?_
  rintro e w1 ⟨rfl, W1, S1⟩
  go_wp2_with fail
  refine (byte_any w1 _ _ _ 0 W1 167 (by omega) (by omega) (by unfold Fits; simp)).mono ?_
  rintro e w2 ⟨rfl, v2, W2, S2⟩
  rw [A1.out] at W2
  have T2 := S1.trans S2
  go_wp2_with fail
  refine (u32_any w2 _ _ _ 0 W2 l.length (by omega) (by unfold Fits; simp)).mono ?_
  rintro e w3 ⟨rfl, v3, W3, S3⟩
  rw [A2.out] at W3
  have T3 := T2.trans S3
  go_wp2_with fail
  refine (out_any w3 _ _ _ W3 (by unfold Fits; rw [HL5.out]; omega)).mono ?_
  rintro e w4 ⟨ao4, cap4, -, -, rfl, O4, S4⟩
  have W4 := W3.ext S4.1 fun _ _ h => h
  have T4 := T3.trans (step_any_nil S4.1)
  have TT4 := HT.out.ext T4.1 fun h => h
  generalize hH : headB l = H at *
  go_wp2_with fail
  refine (check_any w4 _ _ O4.bytes TT4).mono ?_
  rintro e w5 ⟨rfl, n5, rfl⟩
  go_wp2_with fail
  refine (u32_any _ _ _ _ 0 (W4.ext ((Ext.refl Nil w4).drewN n5) fun _ _ h => h) (chkB H) hck (by unfold Fits; rw [HL5.out]; omega)).mono ?_
  rintro e w6 ⟨rfl, v6, W6, S6⟩
  rw [A3.out] at W6
  have T6 := (T4.trans (step_any_nil ((Ext.refl Nil w4).drewN n5))).trans S6
  have hx6 := hx.ext T6.1 fun _ _ h => h
  have hl3 : (H ++ le 4 (chkB H)).length = 9 := by rw [List.length_append, HL5.out, le_length]
  generalize H ++ le 4 (chkB H) = B3 at *
  have HL3 := Lib.hid hl3
  clear hl3
  go_wp2_with fail
  refine (raw_any _ _ _ _ 0 W6 _ _ hx6 (by unfold Fits; rw [HL3.out]; omega)).mono ?_
  rintro e w7 ⟨rfl, v7, W7, S7⟩
  rw [A4.out] at W7
  have T7 := T6.trans S7
  have hx7 := hx.ext T7.1 fun _ _ h => h
  have hl4 : (B3 ++ l).length = 9 + l.length := by rw [List.length_append, HL3.out]
  generalize B3 ++ l = B4 at *
  have HL4 := Lib.hid hl4
  clear hl4
  have TT7 := HT.out.ext T7.1 fun h => h
  go_wp2_with fail
  refine (check_any w7 _ _ hx7 TT7).mono ?_
  rintro e w8 ⟨rfl, n8, rfl⟩
  go_wp2_with fail
  refine (u32_any _ _ _ _ 0 (W7.ext ((Ext.refl Nil w7).drewN n8) fun _ _ h => h) (chkB l) hck2 (by unfold Fits; rw [HL4.out]; omega)).mono ?_
  rintro e w9 ⟨rfl, v9, W9, S9⟩
  rw [A5.out] at W9
  have T9 := (T7.trans (step_any_nil ((Ext.refl Nil w7).drewN n8))).trans S9
  go_wp2_with fail
  refine (out_any w9 _ _ _ W9 hfF).mono ?_
  rintro e w10 ⟨ao10, cap10, -, -, rfl, O10, S10⟩
  go_wp2_with fail
  go_ret2
  exact ⟨ao10, cap10, rfl, O10, ⟨T9.1.trans S10.1 fun _ _ h => h, fun k hk => .inr (by
    rcases S10.2 k hk with h | h
    · exact h.elim
    · exact Nat.le_trans T9.1.size h)⟩⟩
end Go.Proofs.YtgabmidkonphdaaDoor
