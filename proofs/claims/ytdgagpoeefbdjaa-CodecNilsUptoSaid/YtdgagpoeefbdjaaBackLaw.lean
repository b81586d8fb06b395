/- Plain laws: what was laid down is read back (no program in sight). -/
import Derived.Test.YtdgagpoeefbdjaaRa
import Derived.Test.YtdgagpoeefbdjaaAll
namespace Go.Proofs.Ytdgagpoeefbdjaa
open Go.RowKit

theorem toNat_ofNat_lt {n : Nat} (h : n < 256) : (UInt8.ofNat n).toNat = n := by
  rw [UInt8.toNat_ofNat']
  omega

/-- a number is read back, whatever stands behind it -/
theorem numL_varB : ∀ (j n k z : Nat) (rest : List UInt8), n < 128 ^ (j + 1) → k + j ≤ 8 ∨ (k + j = 9 ∧ n < 2 * 128 ^ j) → (k = 0 ∨ 0 < n) →
    numL (varB n ++ rest) k z = (0, z + n * 128 ^ k, k + (varB n).length) := by
  intro j
  induction j with
  | zero =>
    intro n k z rest hn hk h0
    have hn : n < 128 := by omega
    rw [varB_lt hn, List.singleton_append, numL, toNat_ofNat_lt (by omega)]
    have hb : ¬ ((k = 9 ∧ 1 < n) ∨ (0 < k ∧ n = 0)) := by
      simp only [Nat.pow_zero] at hk
      omega
    rw [if_neg hb, if_pos hn, Nat.mod_eq_of_lt hn]
    rfl
  | succ j ih =>
    intro n k z rest hn hk h0
    by_cases hs : n < 128
    · rw [varB_lt hs, List.singleton_append, numL, toNat_ofNat_lt (by omega)]
      have hb : ¬ ((k = 9 ∧ 1 < n) ∨ (0 < k ∧ n = 0)) := by omega
      rw [if_neg hb, if_pos hs, Nat.mod_eq_of_lt hs]
      rfl
    · rw [varB_ge (by omega), List.cons_append, numL, toNat_ofNat_lt (by omega)]
      have hb : ¬ ((k = 9 ∧ 1 < n % 128 + 128) ∨ (0 < k ∧ n % 128 + 128 = 0)) := by omega
      rw [if_neg hb, if_neg (by omega)]
      have hd : n / 128 < 128 ^ (j + 1) := by rw [Nat.div_lt_iff_lt_mul (by omega)]; rw [Nat.pow_succ] at hn; exact hn
      have h2 : k + 1 + j ≤ 8 ∨ (k + 1 + j = 9 ∧ n / 128 < 2 * 128 ^ j) := by
        rcases hk with h | ⟨h, h'⟩
        · left; omega
        · right
          refine ⟨by omega, ?_⟩
          rw [Nat.div_lt_iff_lt_mul (by omega), Nat.mul_assoc, ← Nat.pow_succ]
          exact h'
      rw [ih (n / 128) (k + 1) _ rest hd h2 (.inr (Nat.div_pos (by omega) (by omega)))]
      have e1 : (n % 128 + 128) % 128 = n % 128 := by omega
      have e2 : n / 128 * 128 ^ (k + 1) = (128 * (n / 128)) * 128 ^ k := by
        rw [Nat.pow_succ, Nat.mul_comm (128 ^ k) 128, ← Nat.mul_assoc, Nat.mul_comm (n / 128) 128]
      rw [e1, e2, Nat.add_assoc, ← Nat.add_mul, Nat.mod_add_div, List.length_cons]
      congr 2
      omega

theorem num_back (n : Nat) (hn : IsU64 n) (rest : List UInt8) : numL (varB n ++ rest) 0 0 = (0, n, (varB n).length) := by
  unfold IsU64 at hn
  rw [numL_varB 9 n 0 0 rest (by omega) (.inr ⟨rfl, by omega⟩) (.inl rfl)]
  simp

theorem leN_le : ∀ (k v : Nat), leN (le k v) = v % 256 ^ k := by
  intro k
  induction k with
  | zero => intro v; simp [le, leN, Nat.mod_one]
  | succ k ih =>
    intro v
    rw [le_succ, leN_append, ih, le_length, toNat_ofNat_lt (Nat.mod_lt _ (by omega)), Nat.pow_succ, Nat.mod_mul]
    rw [Nat.mul_comm]

theorem back0 (N : Nat) (rest : List UInt8) : rd0 ([toB ((N : Int) % 256)] ++ rest) = (0, 1, N % 256, []) := by
  have e : toB ((N : Int) % 256) = UInt8.ofNat (N % 256) := by
    unfold toB
    congr 1
  rw [e]
  show (0, 1, (UInt8.ofNat (N % 256)).toNat, []) = _
  rw [toNat_ofNat_lt (by omega)]
theorem backF (k v : Nat) (rest : List UInt8) : rdF k (le k v ++ rest) = (0, k, v % 256 ^ k, []) := by
  have hl := le_length k v
  rw [rdF, if_pos (by rw [List.length_append, hl]; omega), List.take_append_of_le_length (by omega), List.take_of_length_le (by omega), leN_le]
theorem back4 (N : Nat) (hN : IsU64 N) (rest : List UInt8) : rd4 (varB N ++ rest) = (0, (varB N).length, N, []) := by
  rw [rd4, num_back N hN]
theorem back5 (B rest : List UInt8) : rd5 (B.length : Int) (B ++ rest) = (0, B.length, 0, B) := by
  rw [rd5, if_neg (by omega), if_neg (by rw [List.length_append]; omega)]
  simp
theorem back6 (A : Int) (B rest : List UInt8) (hB : IsU64 B.length) (hA : (B.length : Int) ≤ A) : rd6 A (varB B.length ++ B ++ rest) = (0, (varB B.length).length + B.length, 0, B) := by
  rw [List.append_assoc, rd6, num_back _ hB, if_neg (by omega), if_neg (by simp), if_neg (by simp only; omega), if_neg (by simp only [List.length_append]; omega)]
  simp
theorem back8 (N : Nat) (hN : IsU64 N) (rest : List UInt8) : rd8 (N : Int) 0 (varB N ++ rest) = (0, (varB N).length, N, []) := by
  rw [rd8, num_back N hN, if_neg (by omega), if_neg (by simp), if_neg (by simp), if_neg (by simp)]
theorem back1 (N : Nat) (rest : List UInt8) : rd1 (bitB N ++ rest) = (0, 1, N % 2, []) := by
  unfold bitB
  rcases Nat.mod_two_eq_zero_or_one N with h | h
  · rw [h, if_neg (by omega)]
    rfl
  · rw [h, if_pos rfl]
    rfl

/-- what is asked for, of a value that was laid down -/
def askA (d : PutD) : Int := if d.K % 9 = 5 then d.B.length else if d.K % 9 = 6 ∨ d.K % 9 = 7 then ((d.B.length + d.N % 7 : Nat) : Int) else if d.K % 9 = 8 then (d.N : Int) else 0

/-- THE LAW: what was laid down is read back. -/
theorem back_any (d : PutD) (hN : IsU64 d.N) (hB : IsU64 d.B.length) (rest : List UInt8) : rdD (d.K % 9) (askA d) 0 (d.enc ++ rest) = (0, d.enc.length, valN d.K d.N, valB d.K d.B) := by
  have h9 : d.K % 9 = 0 ∨ d.K % 9 = 1 ∨ d.K % 9 = 2 ∨ d.K % 9 = 3 ∨ d.K % 9 = 4 ∨ d.K % 9 = 5 ∨ d.K % 9 = 6 ∨ d.K % 9 = 7 ∨ d.K % 9 = 8 := by omega
  rcases h9 with h | h | h | h | h | h | h | h | h
  · simp only [PutD.enc, enc, rdD, valN, valB, askA, h]
    simpa using back0 d.N rest
  · simp only [PutD.enc, enc, rdD, valN, valB, askA, h]
    have := back1 d.N rest
    simpa [bitB] using this
  · simp only [PutD.enc, enc, rdD, valN, valB, askA, h]
    have := backF 4 (d.N % 4294967296) rest
    simpa [le_length] using this
  · simp only [PutD.enc, enc, rdD, valN, valB, askA, h]
    have := backF 8 d.N rest
    unfold IsU64 at hN
    rw [Nat.mod_eq_of_lt (by omega)] at this
    simpa [le_length] using this
  · simp only [PutD.enc, enc, rdD, valN, valB, askA, h]
    simpa using back4 d.N hN rest
  · simp only [PutD.enc, enc, rdD, valN, valB, askA, h]
    simpa using back5 d.B rest
  · simp only [PutD.enc, enc, rdD, valN, valB, askA, h]
    simpa using back6 ((d.B.length + d.N % 7 : Nat) : Int) d.B rest hB (by omega)
  · simp only [PutD.enc, enc, rdD, valN, valB, askA, h]
    simpa using back6 ((d.B.length + d.N % 7 : Nat) : Int) d.B rest hB (by omega)
  · simp only [PutD.enc, enc, rdD, valN, valB, askA, h]
    simpa using back8 d.N hN rest
end Go.Proofs.Ytdgagpoeefbdjaa
