/- Contract of the law's 'full': a list is turned, and made longer. Condition: it owns its row. -/
import Derived.Test.YtdgagpoeefbdjaaRefW
import Derived.Test.YtdgagpoeefbdjaaGen
namespace Go.Proofs.Ytdgagpoeefbdjaa
open Go.RowKit

theorem map_at (f : UInt8 → UInt8) (L : List UInt8) (k : Nat) (h : k < L.length) {p : k < ((L.take k).map f ++ L.drop k).length} : ((L.take k).map f ++ L.drop k)[k] = L[k] := by
  rw [List.getElem_append_right (by simp; omega)]
  simp [Nat.min_eq_left (Nat.le_of_lt h)]
theorem map_set (f : UInt8 → UInt8) (L : List UInt8) (k : Nat) (h : k < L.length) : ((L.take k).map f ++ L.drop k).set k (f L[k]) = (L.take (k + 1)).map f ++ L.drop (k + 1) := by
  rw [List.set_append_right _ _ (by simp; omega)]
  have e : k - ((L.take k).map f).length = 0 := by simp; omega
  rw [e, List.take_succ_eq_append_getElem h, List.drop_eq_getElem_cons h]
  simp only [List.set_cons_zero, List.map_append, List.map_cons, List.map_nil, List.append_assoc, List.cons_append, List.nil_append]
theorem xor_byte (a b : UInt8) : Value.int IntKind.u8 (bits BinOp.xor IntKind.u8 (a.toNat : Int) (b.toNat : Int)) = bv (a ^^^ b) := by
  rw [Go.u8_xor_nat _ _ a.toNat_lt b.toNat_lt, ← UInt8.toNat_xor]
  rfl

/-- a list, turned by a mark and made longer -/
def fullB (l : List UInt8) (m : UInt8) : List UInt8 := l.map (· ^^^ m) ++ List.replicate 40 m

theorem bv_byte (m : UInt8) : [toB (m.toNat : Int)] = [m] := by
  unfold toB
  simp

set_option maxRecDepth 20000 in
theorem full_any (w : World) (x : Value) (l : List UInt8) (m : UInt8) (hl : OwnB w x l) (hfit : Fits (l.length + 40)) :
    Calls Try.prog 48 #[x, .int .u8 (m.toNat : Int)] w fun e w' => ∃ ao cap, e = .returned (.slice ao (l.length + 40) cap) ∧ OwnB w' (.slice ao (l.length + 40) cap) (fullB l m) ∧ Step (inFoot x) w (inFoot (.slice ao (l.length + 40) cap)) w' := by
  have hfit' : l.length + 40 ≤ 1099511627776 := hfit
  have hm := m.toNat_lt
  obtain ⟨ao, cap, rfl, h1, h2⟩ := Own.shape hl
  unfold maxLen at h2
  go_enter Try.func48, Try.ntmps48
  go_wp2_with fail
  go_loopw [5] (fun i wr => ∃ k : Nat, k ≤ l.length ∧ i = .int .i64 k ∧ OwnB wr (.slice ao l.length cap) ((l.take k).map (· ^^^ m) ++ l.drop k) ∧ Ext (inFoot (.slice ao l.length cap)) w wr) (fun i _ => l.length - (intOf i).toNat)
  case atStart => exact ⟨0, Nat.zero_le _, rfl, by simpa using hl, Ext.refl _ _⟩
  case round =>
    obtain ⟨k, hk, rfl, hown, hS⟩ := hrel
    by_cases hlt : k < l.length
    · obtain ⟨g, c, cs, rfl, rfl, -, -, -⟩ := hown.head (by intro e; have := congrArg List.length e; simp at this; omega)
      have hat := hown.at k (by simp; omega)
      have c1 := hat.1
      have f1 := hat.2
      rw [map_at _ l k hlt] at c1
      clear hat
      go_wp2
      rw [xor_byte]
      refine ⟨⟨k + 1, by omega, by go_num, ?_, hS.setCell (p := ⟨g, k, none⟩) (fun _ => rfl) _⟩, by simp [intOf]; omega⟩
      have h := hown.store k (by simp; omega) (l[k] ^^^ m)
      rw [map_set (· ^^^ m) l k hlt] at h
      exact h
    · obtain rfl : k = l.length := by omega
      rw [List.take_length, List.drop_length, List.append_nil] at hown
      have hS2 : Step (inFoot (.slice ao l.length cap)) w (inFoot (.slice ao l.length cap)) wr := ⟨hS, fun _ h => .inl h⟩
      clear hS
      have HX := Lib.hid hl
      clear hl hlt hk
      go_wp2_with fail
      go_loopw [0, 6] (fun y i wq => ∃ (k : Nat) (ao2 : Option Addr) (cap2 : Nat), k ≤ 40 ∧ i = .int .i64 k ∧ y = .slice ao2 (l.length + k) cap2 ∧ l.length + k ≤ cap2 ∧ cap2 ≤ maxLen ∧ OwnB wq (.slice ao2 (l.length + k) cap2) (l.map (· ^^^ m) ++ List.replicate k m) ∧ Step (inFoot (.slice ao l.length cap)) w (inFoot (.slice ao2 (l.length + k) cap2)) wq) (fun _ i _ => 40 - (intOf i).toNat)
      case atStart => exact ⟨0, ao, cap, by omega, rfl, rfl, h1, by unfold maxLen; omega, by simpa using hown, hS2⟩
      case round =>
        obtain ⟨k, ao2, cap2, hk, rfl, rfl, g1, g2, ho, hs⟩ := hrel
        clear hown hS2
        by_cases hlt : k < 40
        · have hlen : (l.map (· ^^^ m) ++ List.replicate k m).length = l.length + k := by simp
          have hb := Bytes.one wr (n := (m.toNat : Int)) (by omega) (by omega) 5
          rw [bv_byte] at hb
          have hsrc := Reads.src (P := Try.prog) hb Try.underlying29 (bvs_one [m])
          have hoA := ho.alloc (.cells #[.int .u8 (m.toNat : Int)] 5 (0, 0))
          have hfa : Fits ((l.map (· ^^^ m) ++ List.replicate k m).length + [m].length) := by rw [hlen]; unfold Fits; simp; omega
          have hlen2 : (l.map (· ^^^ m) ++ List.replicate k m).length + [m].length = l.length + (k + 1) := by rw [hlen]; simp; omega
          have hrep : (l.map (· ^^^ m) ++ List.replicate k m) ++ [m] = l.map (· ^^^ m) ++ List.replicate (k + 1) m := by rw [List.append_assoc, List.replicate_succ']
          generalize l.map (· ^^^ m) ++ List.replicate k m = L at *
          go_wp2_with (at_builtin; refine wpList_append_bytes hoA hsrc hfa rfl _ _ rfl rfl rfl ?_; rw [hlen2, hrep]; intro ao3 cap3 w3 q1 q2 q3 q4)
          exact ⟨⟨k + 1, ao3, cap3, by omega, by go_num, rfl, q1, q2, q3, hs.trans ((step_alloc _ _ _).trans q4)⟩, by simp [intOf]; omega⟩
        · obtain rfl : k = 40 := by omega
          go_wp2_with fail
          go_ret
          exact ⟨ao2, cap2, rfl, ho, hs⟩
end Go.Proofs.Ytdgagpoeefbdjaa
