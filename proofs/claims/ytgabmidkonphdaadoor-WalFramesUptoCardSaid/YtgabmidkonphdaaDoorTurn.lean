/- The contract of the law's 'turn' (chapter 7): a list that was handed out is turned and made longer. Condition: it owns its row. -/
import Derived.Test.YtgabmidkonphdaaDoorLent
namespace Go.Proofs.YtgabmidkonphdaaDoor
open Go.RowKit

set_option maxRecDepth 20000 in
theorem turn_any (w : World) (x : Value) (l : List UInt8) (hl : OwnB w x l) (hfit : Fits (l.length + 40)) : Calls Tryd.prog 10 #[x] w fun e w' => e = .returned (.tuple #[]) ∧ Ext (inFoot x) w w' := by
  have hfit' : l.length + 40 ≤ 1099511627776 := hfit
  obtain ⟨ao, cap, rfl, h1, h2⟩ := Own.shape hl
  unfold maxLen at h2
  go_enter Tryd.func10, Tryd.ntmps10
  go_wp2_with fail
  go_loopw [2] (fun i wr => ∃ k : Nat, k ≤ l.length ∧ i = .int .i64 k ∧ OwnB wr (.slice ao l.length cap) ((l.take k).map (~~~ ·) ++ l.drop k) ∧ Ext (inFoot (.slice ao l.length cap)) w wr) (fun i _ => l.length - (intOf i).toNat)
  case atStart => exact ⟨0, Nat.zero_le _, rfl, by simpa using hl, Ext.refl _ _⟩
  case round =>
    obtain ⟨k, hk, rfl, hown, hS⟩ := hrel
    by_cases hlt : k < l.length
    · obtain ⟨g, c, cs, rfl, rfl, -, -, -⟩ := hown.head (by intro e; have := congrArg List.length e; simp at this; omega)
      have hat := hown.at k (by simp; omega)
      have c1 := hat.1
      have f1 := hat.2
      rw [negs_at l k hlt] at c1
      clear hat
      go_wp2
      rw [not_byte]
      refine ⟨⟨k + 1, by omega, by go_num, ?_, hS.setCell (p := ⟨g, k, none⟩) (fun _ => rfl) _⟩, by simp [intOf]; omega⟩
      have h := hown.store k (by simp; omega) (~~~ l[k])
      rw [negs_set l k hlt] at h
      exact h
    · obtain rfl : k = l.length := by omega
      rw [List.take_length, List.drop_length, List.append_nil] at hown
      have hS2 : Step (inFoot (.slice ao l.length cap)) w (inFoot (.slice ao l.length cap)) wr := ⟨hS, fun _ h => .inl h⟩
      clear hS
      have HX := Lib.hid hl
      clear hl hlt hk
      go_wp2_with fail
      go_loopw [0, 3] (fun y i wq => ∃ (k : Nat) (ao2 : Option Addr) (cap2 : Nat), k ≤ 40 ∧ i = .int .i64 k ∧ y = .slice ao2 (l.length + k) cap2 ∧ l.length + k ≤ cap2 ∧ cap2 ≤ maxLen ∧ OwnB wq (.slice ao2 (l.length + k) cap2) (l.map (~~~ ·) ++ List.replicate k 99) ∧ Step (inFoot (.slice ao l.length cap)) w (inFoot (.slice ao2 (l.length + k) cap2)) wq) (fun _ i _ => 40 - (intOf i).toNat)
      case atStart => exact ⟨0, ao, cap, by omega, rfl, rfl, h1, by unfold maxLen; omega, by simpa using hown, hS2⟩
      case round =>
        obtain ⟨k, ao2, cap2, hk, rfl, rfl, g1, g2, ho, hs⟩ := hrel
        clear hown hS2
        by_cases hlt : k < 40
        · have hlen : (l.map (~~~ ·) ++ List.replicate k 99).length = l.length + k := by simp
          have hb := Bytes.one wr (n := 99) (by omega) (by omega) 5
          rw [show [toB 99] = [(99 : UInt8)] from rfl] at hb
          have hsrc := Reads.src (P := Tryd.prog) hb Tryd.underlying22 (bvs_one [99])
          have hoA := ho.alloc (.cells #[.int .u8 99] 5 (0, 0))
          have hfa : Fits ((l.map (~~~ ·) ++ List.replicate k 99).length + [(99 : UInt8)].length) := by rw [hlen]; unfold Fits; simp; omega
          have hlen2 : (l.map (~~~ ·) ++ List.replicate k 99).length + [(99 : UInt8)].length = l.length + (k + 1) := by rw [hlen]; simp; omega
          have hrep : (l.map (~~~ ·) ++ List.replicate k 99) ++ [(99 : UInt8)] = l.map (~~~ ·) ++ List.replicate (k + 1) 99 := by rw [List.append_assoc, List.replicate_succ']
          generalize l.map (~~~ ·) ++ List.replicate k 99 = L at *
          go_wp2_with (at_builtin; refine wpList_append_bytes hoA hsrc hfa rfl _ _ rfl rfl rfl ?_; rw [hlen2, hrep]; intro ao3 cap3 w3 q1 q2 q3 q4)
          exact ⟨⟨k + 1, ao3, cap3, by omega, by go_num, rfl, q1, q2, q3, hs.trans ((step_alloc _ _ _).trans q4)⟩, by simp [intOf]; omega⟩
        · obtain rfl : k = 40 := by omega
          go_wp2_with fail
          go_end0
          exact ⟨rfl, hs.1⟩
end Go.Proofs.YtgabmidkonphdaaDoor
