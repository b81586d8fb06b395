/- Plain laws: the check of chapter 7, bit by bit and by a table of sixteen (no program in sight). -/
import Derived.WalkKit
namespace Go.Proofs.YtgabmidkonphdaaDoor

def crcP : Nat := 3988292384
def crcStep (r : Nat) : Nat := if r % 2 = 1 then r / 2 ^^^ crcP else r / 2
theorem xor2_mod (x y : Nat) : (x ^^^ 2 * y) % 2 = 1 ↔ x % 2 = 1 := by
  have h2 : 2 * y % 2 = 0 := by omega
  rw [Nat.xor_mod_two_eq_one]
  omega
theorem xor2_div (x y : Nat) : (x ^^^ 2 * y) / 2 = x / 2 ^^^ y := by
  rw [Nat.xor_div_two]
  congr 1
  omega
theorem crcStep_xor (x y : Nat) : crcStep (x ^^^ 2 * y) = crcStep x ^^^ y := by
  unfold crcStep
  rw [xor2_div]
  by_cases h : x % 2 = 1
  · rw [if_pos h, if_pos ((xor2_mod x y).2 h), Nat.xor_assoc, Nat.xor_comm y, ← Nat.xor_assoc]
  · rw [if_neg h, if_neg fun h2 => h ((xor2_mod x y).1 h2)]
theorem split16 (r : Nat) : r = (r % 16) ^^^ 2 * (2 * (2 * (2 * (r / 16)))) := by
  have h : 2 * (2 * (2 * (2 * (r / 16)))) = 2 ^ 4 * (r / 16) := by omega
  have h2 : r = 2 ^ 4 * (r / 16) + r % 16 := by omega
  apply Nat.eq_of_testBit_eq
  intro i
  rw [h, Nat.testBit_xor, show (16 : Nat) = 2 ^ 4 from rfl, Nat.testBit_mod_two_pow, Nat.testBit_two_pow_mul, Nat.testBit_div_two_pow]
  by_cases hi : i < 4
  · simp [hi, show ¬ 4 ≤ i from by omega]
  · simp [hi, show 4 ≤ i from by omega]
theorem crc_nibble (r : Nat) : crcStep (crcStep (crcStep (crcStep r))) = crcStep (crcStep (crcStep (crcStep (r % 16)))) ^^^ r / 16 := by
  conv => lhs; rw [split16 r]
  rw [crcStep_xor, crcStep_xor, crcStep_xor, crcStep_xor]
def crcTab : List Nat := (List.range 16).map fun l => crcStep (crcStep (crcStep (crcStep l)))
theorem crcTab_eq : crcTab = [0, 498536548, 997073096, 651767980, 1994146192, 1802195444, 1303535960, 1342533948, 3988292384, 4027552580, 3604390888, 3412177804, 2607071920, 2262029012, 2685067896, 3183342108] := by decide
/-- four steps of the document's check, bit by bit, are one of the program's, by its table -/
theorem crc_four (r : Nat) : crcStep (crcStep (crcStep (crcStep r))) = r / 16 ^^^ crcTab[r % 16]! := by
  rw [crc_nibble, Nat.xor_comm]
  congr 1
  have h : r % 16 < 16 := Nat.mod_lt _ (by omega)
  generalize r % 16 = l at h
  have : ∀ l : Fin 16, crcStep (crcStep (crcStep (crcStep l.val))) = crcTab[l.val]! := by decide
  exact this ⟨l, h⟩
theorem crcStep_lt {r : Nat} (h : r < 4294967296) : crcStep r < 4294967296 := by
  unfold crcStep
  split
  · exact Nat.xor_lt_two_pow (n := 32) (by omega) (by unfold crcP; omega)
  · omega

/-- a byte of the check, by the table, is eight steps of it, bit by bit -/
theorem crc_byte (v c : Nat) : crcStep (crcStep (crcStep (crcStep (crcStep (crcStep (crcStep (crcStep (v ^^^ c)))))))) = ((v ^^^ c) / 16 ^^^ crcTab[(v ^^^ c) % 16]!) / 16 ^^^ crcTab[((v ^^^ c) / 16 ^^^ crcTab[(v ^^^ c) % 16]!) % 16]! := by
  rw [crc_four (v ^^^ c), crc_four]
end Go.Proofs.YtgabmidkonphdaaDoor
