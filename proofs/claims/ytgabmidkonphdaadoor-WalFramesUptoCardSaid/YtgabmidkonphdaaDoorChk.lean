/- The contract of the document's check (chapter 7), bit by bit. Condition: the bytes can be read. -/
import Derived.Test.YtgabmidkonphdaaDoorCrc
import Derived.Test.YtgabmidkonphdaaDoorRefW
import Derived.Laws.BitsAllLaws
namespace Go.Proofs.YtgabmidkonphdaaDoor
open Go.RowKit

def crcIt : Nat → Nat → Nat
  | 0, x => x
  | j + 1, x => crcStep (crcIt j x)
def crcAll (v : Nat) (l : List UInt8) : Nat := l.foldl (fun v c => crcIt 8 (v ^^^ c.toNat)) v
theorem crcIt_lt (j : Nat) {x : Nat} (h : x < 4294967296) : crcIt j x < 4294967296 := by
  induction j with
  | zero => exact h
  | succ j ih => exact crcStep_lt ih
theorem xor_lt32 {a b : Nat} (ha : a < 4294967296) (hb : b < 4294967296) : a ^^^ b < 4294967296 := Nat.xor_lt_two_pow (n := 32) ha hb
theorem crcAll_lt (l : List UInt8) : ∀ {v : Nat}, v < 4294967296 → crcAll v l < 4294967296 := by
  induction l with
  | nil => intro v h; exact h
  | cons c l ih => intro v h; exact ih (crcIt_lt 8 (xor_lt32 h (by have := c.toNat_lt; omega)))

set_option maxRecDepth 20000 in
theorem refCheck_any (w : World) (x : Value) (l : List UInt8) (hx : Bytes w x l) : Calls Tryd.prog 18 #[x] w fun e w' => e = .returned (.int .u32 ((crcAll 4294967295 l ^^^ 4294967295 : Nat) : Int)) ∧ ∃ n, w' = w.drewN n := by
  obtain ⟨ao, cap, rfl, hcap, hmax, hc⟩ := hx.open
  unfold maxLen at hmax
  go_enter Tryd.func18, Tryd.ntmps18
  go_wp2_with fail
  go_loopw [3, 4] (fun r i wr => ∃ k : Nat, k ≤ l.length ∧ r = .int .u32 (crcAll 4294967295 (l.take k) : Nat) ∧ i = .int .i64 k ∧ ∃ n, wr = w.drewN n) (fun _ i _ => l.length - (intOf i).toNat)
  case atStart => exact ⟨0, Nat.zero_le _, rfl, rfl, 0, rfl⟩
  case round =>
    obtain ⟨k, hk, rfl, rfl, n, rfl⟩ := hrel
    have hv := crcAll_lt (l.take k) (v := 4294967295) (by omega)
    by_cases hlt : k < l.length
    · obtain ⟨b, off, rfl, hcl⟩ := hc (by intro e; subst e; simp at hlt)
      have gx := hcl k hlt
      have hnext : crcAll 4294967295 (l.take (k + 1)) = crcIt 8 (crcAll 4294967295 (l.take k) ^^^ l[k].toNat) := by
        unfold crcAll
        rw [List.take_succ_eq_append_getElem hlt, List.foldl_append]
        rfl
      have hb := (l[k]).toNat_lt
      generalize l[k] = c at *
      generalize crcAll 4294967295 (l.take k) = v at *
      have hvx := xor_lt32 hv (show c.toNat < 4294967296 by omega)
      have hx32 := Go.u32_xor_nat v c.toNat hv (by omega)
      have HN := Lib.hid hnext
      clear hnext hcl hc
      go_wp2_with fail
      generalize v ^^^ c.toNat = y at *
      clear hx32 hv
      go_loopw [3, 5] (fun r i wq => ∃ j : Nat, j ≤ 8 ∧ r = .int .u32 (crcIt j y : Nat) ∧ i = .int .i64 j ∧ wq = w.drewN n) (fun _ i _ => 8 - (intOf i).toNat)
      case atStart => exact ⟨0, by omega, rfl, rfl, rfl⟩
      case round =>
        obtain ⟨j, hj, rfl, rfl, rfl⟩ := hrel
        have hz := crcIt_lt j hvx
        have hs : crcIt (j + 1) y = crcStep (crcIt j y) := rfl
        by_cases hj8 : j < 8
        · generalize crcIt j y = z at *
          have hx2 : bits .xor .u32 ((z : Int) / 2) 3988292384 = ((z / 2 ^^^ crcP : Nat) : Int) := Go.u32_xor_nat (z / 2) 3988292384 (by omega) (by omega)
          by_cases hp : z % 2 = 1
          · have e : crcStep z = z / 2 ^^^ crcP := if_pos hp
            have hpi : (z : Int) % 2 = 1 := by omega
            have HS := Lib.hid hs
            have HE := Lib.hid e
            clear hs e
            go_wp2_with fail
            exact ⟨⟨j + 1, by omega, by rw [HS.out, HE.out], by go_num, by first | trivial | rfl⟩, by simp [intOf]; omega⟩
          · have e : crcStep z = z / 2 := if_neg hp
            have hpi : (z : Int) % 2 = 0 := by omega
            have HS := Lib.hid hs
            have HE := Lib.hid e
            clear hs e
            go_wp2_with fail
            exact ⟨⟨j + 1, by omega, by rw [HS.out, HE.out]; go_num, by go_num, by first | trivial | rfl⟩, by simp [intOf]; omega⟩
        · obtain rfl : j = 8 := by omega
          go_wp2_with fail
          exact ⟨⟨k + 1, by omega, by rw [HN.out], by go_num, n, rfl⟩, by simp [intOf]; omega⟩
    · obtain rfl : k = l.length := by omega
      rw [List.take_length] at hv ⊢
      have hx3 : bits .xor .u32 ((crcAll 4294967295 l : Nat) : Int) 4294967295 = ((crcAll 4294967295 l ^^^ 4294967295 : Nat) : Int) := Go.u32_xor_nat _ 4294967295 hv (by omega)
      generalize hA : crcAll 4294967295 l = v at *
      go_wp2_with fail
      go_ret
      exact ⟨by rw [hA]; rfl, n, rfl⟩
end Go.Proofs.YtgabmidkonphdaaDoor
