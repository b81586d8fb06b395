/- Contracts of codec.Reader's closures: fixed, getText. Condition: the reader is one that NewReader made. -/
import Derived.Test.YtdgagpoeefbdjaaRk
import Derived.Test.YtdgagpoeefbdjaaLay
namespace Go.Proofs.Ytdgagpoeefbdjaa
open Go.RowKit

/-- bytes as a number, the lowest first -/
def leN : List UInt8 → Nat
  | [] => 0
  | c :: cs => c.toNat + 256 * leN cs
theorem leN_append (l : List UInt8) (c : UInt8) : leN (l ++ [c]) = leN l + c.toNat * 256 ^ l.length := by
  induction l with
  | nil => simp [leN]
  | cons x l ih =>
    rw [List.cons_append, leN, leN, ih, List.length_cons, Nat.pow_succ, Nat.mul_add, Nat.add_assoc]
    congr 2
    rw [Nat.mul_comm 256, Nat.mul_assoc]
theorem leN_lt (l : List UInt8) : leN l < 256 ^ l.length := by
  induction l with
  | nil => simp [leN]
  | cons x l ih =>
    have := x.toNat_lt
    rw [leN, List.length_cons, Nat.pow_succ]
    omega

theorem or_byte (z k : Nat) (c : UInt8) (hk : k ≤ 7) (hz : z < 256 ^ k) :
    bits BinOp.or IntKind.u64 (z : Int) (IntKind.u64.wrap (IntKind.u64.wrap (c.toNat : Int) * 2 ^ (8 * k))) = ((z + c.toNat * 256 ^ k : Nat) : Int) := by
  have hc := c.toNat_lt
  have hp : (256 : Nat) ^ k ≤ 256 ^ 7 := Nat.pow_le_pow_right (by omega) hk
  have hlt : c.toNat * 256 ^ k < 18446744073709551616 :=
    calc c.toNat * 256 ^ k ≤ 255 * 256 ^ 7 := Nat.mul_le_mul (by omega) hp
      _ < _ := by omega
  have e : (2 : Int) ^ (8 * k) = ((256 ^ k : Nat) : Int) := by
    rw [Int.pow_mul]
    simp
  rw [e, u64_wrap _ (by omega), ← Int.natCast_mul, u64_wrap _ hlt, u64_or_nat z _ (Nat.lt_of_lt_of_le hz (Nat.le_trans hp (by omega))) hlt, or_mul z _ (8 * k) (256 ^ k) (by rw [Nat.pow_mul]) hz]

set_option maxRecDepth 20000 in
theorem fixed_clo (w : World) (p : Nat) (v : Value) (bs : List UInt8) (a : Nat) (h : RdAt w p v bs a 0) (rb nb c : Nat) (hb : Beside w p v rb c 37 (.int .u64 0)) (n : Nat) (hn : w.cell? ⟨nb, 0, none⟩ = some (.int .i64 n)) (hn8 : 0 < n ∧ n ≤ 8) (B : List UInt8) (hB : (bs.drop a).take n = B) (hl : B.length = n) (hnc : nb ≠ c) (hnp : nb ≠ p) :
    Calls Try.prog 200 #[.pointer (some ⟨rb, 0, none⟩), .pointer (some ⟨nb, 0, none⟩), .pointer (some ⟨c, 0, none⟩)] w (Clo w p c 37 v bs a 0 n (Just (.int .u64 (leN B)))) := by
  have b0 := hb.box
  have hal : a + n ≤ bs.length := by
    have := congrArg List.length hB
    simp at this
    omega
  have hclt := hb.cell.lt
  have ht := take_ok w p v bs a 0 h n hal
  rw [hB] at ht
  go_enter Try.func200, Try.ntmps200
  go_wp2_with fail
  refine ht.mono ?_
  rintro e w1 ⟨ao, cap, h1, h2, rfl, hBy, hap, hlt, hR, hX⟩
  have n1 := hX.cell hn hnp
  have hc1 := hb.cell.ext hX hb.cp
  have f1 := hc1.frozen 0
  have d1 := hc1.cell 0 rfl
  obtain ⟨ao', cap', e, _, _, hcs⟩ := hBy.open
  simp only [Value.slice.injEq] at e
  obtain ⟨rfl, _, rfl⟩ := e
  rw [hl] at h1 ⊢
  have hcap : n ≤ cap := by simpa [hl] using h1
  obtain ⟨b, off, rfl, hcl⟩ := hcs (by intro e; subst e; simp at hl; omega)
  have hbc : ¬ b = c := fun e => by
    subst e
    have h3 := hcl 0 (by omega)
    rw [Nat.add_zero] at h3
    have h4 : off = 0 := by
      obtain ⟨lo, hi, h5, -⟩ := hc1
      simp only [World.cell?, h5] at h3
      have h6 : off < 1 := by
        by_cases h7 : off < 1
        · exact h7
        · rw [Array.getElem?_eq_none (by simp; omega)] at h3
          cases h3
      omega
    subst h4
    rw [hc1.cell 0 rfl] at h3
    simp at h3
  clear hcs hap hlt
  go_wp2_with fail
  go_loopw [17] (fun i wr => ∃ k : Nat, k ≤ n ∧ i = .int .i64 k ∧ At wr c 37 [.int .u64 (leN (B.take k))] ∧ Ext (One c) w1 wr) (fun i _ => n - (intOf i).toNat)
  case atStart => exact ⟨0, Nat.zero_le _, rfl, hc1, Ext.refl _ _⟩
  case round =>
    obtain ⟨k, hk, rfl, hA, hx⟩ := hrel
    by_cases hlt : k < n
    · have gx := hx.cell (hcl k (by omega)) hbc
      have nr := hx.cell n1 hnc
      have dr := hA.cell 0 rfl
      have fr := hA.frozen 0
      have hz : leN (B.take k) < 256 ^ k := by
        have := leN_lt (B.take k)
        rwa [List.length_take, Nat.min_eq_left (by omega)] at this
      have hor := or_byte (leN (B.take k)) k (B[k]'(by omega)) (by omega) hz
      have hle : leN (B.take (k + 1)) = leN (B.take k) + B[k].toNat * 256 ^ k := by
        rw [List.take_succ_eq_append_getElem (by omega), leN_append, List.length_take, Nat.min_eq_left (by omega)]
      generalize hzz : leN (B.take k) = z at *
      have HL := Lib.hid hle
      have HO := Lib.hid hor
      clear hle hor hzz hz
      go_wp2
      go_region
      go_wp2
      rw [HO.out]
      refine ⟨⟨k + 1, by omega, by go_num, ?_, ?_⟩, by simp [intOf]; omega⟩
      · rw [HL.out]
        exact hA.set 0 _
      · exact (hx.setCell (p := ⟨c, 0, none⟩) (fun _ => (rfl : c = c)) _).drew
    · have nr := hx.cell n1 hnc
      have e : k = n := by omega
      subst e
      rw [List.take_of_length_le (by omega)] at hA
      go_wp2
      go_ret
      refine ⟨rfl, a + k, _, hR.ext hx fun i hi e => ?_, fun _ => rfl, hA, rfl, (hX.mono fun _ _ h => .inl h).trans hx fun i _ h => .inr h⟩
      have e : i = c := e
      subst e
      rcases hi with hi | hi
      · exact hb.cp hi
      · exact hb.cv hi

theorem fixed_cut (w : World) (p : Nat) (v : Value) (bs : List UInt8) (a : Nat) (h : RdAt w p v bs a 0) (rb nb c : Nat) (hb : Beside w p v rb c 37 (.int .u64 0)) (n : Nat) (hn : w.cell? ⟨nb, 0, none⟩ = some (.int .i64 n)) (hn8 : 0 < n ∧ n ≤ 8) (hl : bs.length < a + n) :
    Calls Try.prog 200 #[.pointer (some ⟨rb, 0, none⟩), .pointer (some ⟨nb, 0, none⟩), .pointer (some ⟨c, 0, none⟩)] w (Clo w p c 37 v bs a 10 0 (Just (.int .u64 0))) := by
  have b0 := hb.box
  have ht := take_cut w p v bs a 0 h n (by omega) (by omega) (by omega)
  go_enter Try.func200, Try.ntmps200
  go_wp2_with fail
  refine ht.mono ?_
  rintro e w1 ⟨ao, cap, h1, h2, rfl, hB, hap, hlt, hR, hX⟩
  go_wp2_with fail
  go_ret
  exact ⟨rfl, a, _, hR, by simp, hb.cell.ext hX hb.cp, rfl, hX.mono fun _ _ h => .inl h⟩
end Go.Proofs.Ytdgagpoeefbdjaa
