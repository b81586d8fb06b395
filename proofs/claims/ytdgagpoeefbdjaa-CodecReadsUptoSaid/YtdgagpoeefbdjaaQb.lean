/- Contracts of the document's reader: number, Byte, Bool, U32, U64, Raw. Condition: the reader is one that New made. -/
import Derived.Test.YtdgagpoeefbdjaaQa
namespace Go.Proofs.Ytdgagpoeefbdjaa
open Go.RowKit

/-- The end of a read of the document's reader. -/
def QEnd (w : World) (q : Nat) (v : Value) (bs : List UInt8) (a : Nat) (r : Rd) (u : Value) (e : Ending) (w' : World) : Prop := e = .returned u ∧ QAt w' q v bs (a + r.2.1) r.1 ∧ Ext (One q) w w'

theorem leN_drop (l : List UInt8) (k : Nat) (hk : k < l.length) : leN (l.drop k) = l[k].toNat + 256 * leN (l.drop (k + 1)) := by
  rw [List.drop_eq_getElem_cons hk, leN]

set_option maxRecDepth 20000 in
theorem qnumber_any (w : World) (x : Value) (l : List UInt8) (hx : Bytes w x l) (hl : l.length ≤ 8) : Calls Try.prog 187 #[x] w fun e w' => e = .returned (.int .u64 (leN l : Nat)) ∧ ∃ n, w' = w.drewN n := by
  obtain ⟨ao, cap, rfl, hcap, hmax, hc⟩ := hx.open
  unfold maxLen at hmax
  go_enter Try.func187, Try.ntmps187
  go_wp2_with fail
  go_loopw [3, 4] (fun n i wr => ∃ k : Nat, k ≤ l.length ∧ n = .int .u64 (leN (l.drop k) : Nat) ∧ i = .int .i64 ((k : Int) - 1) ∧ ∃ n, wr = w.drewN n) (fun _ i _ => ((intOf i) + 1).toNat)
  case atStart => exact ⟨l.length, Nat.le_refl _, by rw [List.drop_length]; rfl, by go_num, 0, rfl⟩
  case round =>
    obtain ⟨k, hk, rfl, rfl, n, rfl⟩ := hrel
    by_cases h0 : 0 < k
    · obtain ⟨j, rfl⟩ : ∃ j, k = j + 1 := ⟨k - 1, by omega⟩
      obtain ⟨b, off, rfl, hcl⟩ := hc (by intro e; subst e; simp at hk)
      have gx := hcl j (by omega)
      have hnext := leN_drop l j (by omega)
      have hlt := leN_lt (l.drop (j + 1))
      have hlen : (l.drop (j + 1)).length ≤ 7 := by simp; omega
      have hpow : 256 ^ (l.drop (j + 1)).length ≤ 256 ^ 7 := Nat.pow_le_pow_right (by omega) hlen
      have hb := (l[j]).toNat_lt
      have ej : (((j + 1 : Nat) : Int) - 1) = (j : Int) := by omega
      rw [ej]
      generalize l[j] = c at *
      generalize leN (l.drop (j + 1)) = z at *
      have HN := Lib.hid hnext
      have hz : z < 72057594037927936 := by omega
      clear hnext hlt hpow hlen ej
      go_wp2_with fail
      go_wp2_with fail
      exact ⟨⟨j, by omega, by rw [HN.out]; go_num, by go_num, n, rfl⟩, by simp [intOf]⟩
    · obtain rfl : k = 0 := by omega
      go_wp2_with fail
      go_ret
      exact ⟨rfl, n, rfl⟩
end Go.Proofs.Ytdgagpoeefbdjaa
