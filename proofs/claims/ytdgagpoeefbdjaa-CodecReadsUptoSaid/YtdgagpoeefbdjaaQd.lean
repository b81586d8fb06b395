/- Contracts of the document's reader: Var. Condition: the reader is one that New made. -/
import Derived.Test.YtdgagpoeefbdjaaQb
namespace Go.Proofs.Ytdgagpoeefbdjaa
open Go.RowKit

theorem pow_le9 {k : Nat} (hk : k ≤ 9) : 128 ^ k ≤ 9223372036854775808 := by
  have : 128 ^ k ≤ 128 ^ 9 := Nat.pow_le_pow_right (by omega) hk
  omega
theorem qgroup {z k c : Nat} (hk : k ≤ 9) (hz : z < 128 ^ k) (hc : c < 256) (h9 : k = 9 → c ≤ 1) : c % 128 * 128 ^ k < 18446744073709551616 ∧ z + c % 128 * 128 ^ k < 18446744073709551616 ∧ z + c % 128 * 128 ^ k < 128 ^ (k + 1) := by
  have hm : c % 128 ≤ 127 := by omega
  have h1 : c % 128 * 128 ^ k ≤ 127 * 128 ^ k := Nat.mul_le_mul_right _ hm
  have h2 : 128 ^ (k + 1) = 128 * 128 ^ k := by rw [Nat.pow_succ, Nat.mul_comm]
  by_cases h : k = 9
  · subst h
    have := h9 rfl
    have h3 : c % 128 * 128 ^ 9 ≤ 1 * 128 ^ 9 := Nat.mul_le_mul_right _ (by omega)
    omega
  · have h3 : 128 ^ (k + 1) ≤ 128 ^ 9 := Nat.pow_le_pow_right (by omega) (by omega)
    omega

theorem qwrap {z c T : Nat} (h1 : c % 128 * T < 18446744073709551616) (h2 : z + c % 128 * T < 18446744073709551616) : IntKind.u64.wrap ((z : Int) + IntKind.u64.wrap ((c : Int) % 128 * (T : Int))) = ((z + c % 128 * T : Nat) : Int) := by
  have e : ((c : Int) % 128 * (T : Int)) = ((c % 128 * T : Nat) : Int) := by rw [Int.natCast_mul]; rfl
  rw [e, wrap_u64 h1, ← Int.natCast_add, wrap_u64 h2]
theorem qtimes {T : Nat} (h : T * 128 < 18446744073709551616) : IntKind.u64.wrap ((T : Int) * 128) = ((128 * T : Nat) : Int) := by
  have e : ((T : Int) * 128) = ((T * 128 : Nat) : Int) := by rw [Int.natCast_mul]; rfl
  rw [e, wrap_u64 h, Nat.mul_comm]
theorem qvar_err {w : World} {q : Nat} {v : Value} {bs : List UInt8} {a : Nat} (h : QAt w q v bs a 0) (m : Nat) (er : Int) (u : Value) : QEnd w q v bs a (er, 0, 0, []) u (.returned u) ((w.drewN m).setCell ⟨q, 2, none⟩ (.int .i64 er)) :=
  ⟨rfl, (h.drewN m).setErr er, ((Ext.refl _ _).drewN m).trans (ext_set _ _ _ _) fun _ _ h => h⟩
theorem qvar_ok {w : World} {q : Nat} {v : Value} {bs : List UInt8} {a : Nat} (h : QAt w q v bs a 0) (m k z : Nat) (hk : a + (k + 1) ≤ bs.length) (u : Value) (x : Int) (hx : x = ((a + (k + 1) : Nat) : Int)) : QEnd w q v bs a (0, k + 1, z, []) u (.returned u) ((w.drewN m).setCell ⟨q, 1, none⟩ (.int .i64 x)) := by
  subst hx
  exact ⟨rfl, (h.drewN m).set _ hk, ((Ext.refl _ _).drewN m).trans (ext_set _ _ _ _) fun _ _ h => h⟩

set_option maxHeartbeats 1000000 in
set_option maxRecDepth 20000 in
theorem qvar (w : World) (q : Nat) (v : Value) (bs : List UInt8) (a : Nat) (h : QAt w q v bs a 0) :
    Calls Try.prog 130 #[.pointer (some ⟨q, 0, none⟩)] w (QEnd w q v bs a (rd4 (bs.drop a)) (.int .u64 ((rd4 (bs.drop a)).2.2.1 : Nat))) := by
  obtain ⟨ao, cap, rfl, hcap, hmax, hcell⟩ := h.row.open
  have c0 := h.cells.cell 0 rfl
  have c1 := h.cells.cell 1 rfl
  have c2 := h.cells.cell 2 rfl
  have f1 := h.cells.frozen 1
  have f2 := h.cells.frozen 2
  have hf : bs.length ≤ 1099511627776 := h.fits
  have hh := h.here
  unfold rd4
  generalize hfin : numL (bs.drop a) 0 0 = fin
  have HR := Lib.hid h
  clear h
  go_enter Try.func130, Try.ntmps130
  go_wp2
  go_loopw [3, 4, 5] (fun vz vt vk wr => ∃ z k n : Nat, vz = .int .u64 z ∧ vt = .int .u64 (128 ^ k : Nat) ∧ vk = .int .i64 k ∧ wr = w.drewN n ∧ k ≤ 9 ∧ z < 128 ^ k ∧ a + k ≤ bs.length ∧ numL (bs.drop (a + k)) k z = fin) (fun _ _ vk _ => 10 - (intOf vk).toNat)
  case atStart => exact ⟨0, 0, 0, rfl, rfl, rfl, rfl, by omega, by omega, by omega, hfin⟩
  case round =>
    obtain ⟨z, k, n, rfl, rfl, rfl, rfl, hk, hz, hak, hE⟩ := hrel
    clear hfin
    have HE := Lib.hid hE
    clear hE
    by_cases hlt : a + k < bs.length
    · obtain ⟨b, off, rfl, hcl⟩ := hcell (by intro e; subst e; simp at hlt)
      have gx := hcl (a + k) hlt
      generalize hc : bs[a + k] = c at gx
      have HC := Lib.hid hc
      clear hc hcl hcell
      have hc255 := c.toNat_lt
      have hnum := HE.out
      rw [List.drop_eq_getElem_cons hlt, HC.out, numL] at hnum
      generalize c.toNat = cn at *
      have HT := Lib.hid (pow_le9 hk)
      by_cases hbad : (k = 9 ∧ 1 < cn) ∨ (0 < k ∧ cn = 0)
      · rw [if_pos hbad] at hnum
        subst hnum
        have hT := HT.out
        have HZ := Lib.hid hz
        clear hz HE HC HT hT
        generalize 128 ^ k = T at *
        rcases hbad with ⟨hk9, hc1⟩ | ⟨hk0, hc0⟩
        · subst hk9
          have hci : (1 : Int) < (cn : Int) := by omega
          go_wp2
          go_quiet (fail)
          go_wp2
          go_quiet (fail)
          go_wp2
          go_ret
          exact qvar_err HR.out _ 11 _
        · subst hc0
          have hki : (0 : Int) < (k : Int) := by omega
          go_wp2
          go_quiet (fail)
          go_wp2
          go_quiet (fail)
          go_wp2
          all_goals (go_ret; exact qvar_err HR.out _ 11 _)
      · rw [if_neg hbad] at hnum
        obtain ⟨hg1, hg2, hg3⟩ := qgroup hk hz hc255 (by omega)
        have h9 : k = 9 → cn ≤ 1 := by omega
        have h00 : 0 < k → cn ≠ 0 := by omega
        have hT := HT.out
        have hTT : 128 ^ (k + 1) = 128 * 128 ^ k := by rw [Nat.pow_succ, Nat.mul_comm]
        have HZ := Lib.hid hz
        have HG := Lib.hid hg3
        have HTT := Lib.hid hTT
        clear hz HE HC HT hg3 hTT
        by_cases hl : cn < 128
        · rw [if_pos hl] at hnum
          subst hnum
          generalize 128 ^ k = T at *
          have h0 : (((cn : Int) == 0) = true ∧ Hid (cn = 0)) ∨ (((cn : Int) == 0) = false ∧ Hid (0 < cn)) := by
            rcases Nat.eq_zero_or_pos cn with h | h
            · exact .inl ⟨by simp [h], Lib.hid h⟩
            · exact .inr ⟨by simp; omega, Lib.hid h⟩
          have HW := Lib.hid (qwrap hg1 hg2)
          clear hg1 hg2
          rcases h0 with ⟨hq, HZ0⟩ | ⟨hq, HZ0⟩
          all_goals
            go_wp2
            go_quiet (fail)
            go_wp2
            go_quiet (fail)
            go_wp2
          all_goals (have H0 := HZ0.out)
          all_goals first
            | (exfalso; omega)
            | (rw [HW.out]
               go_ret
               exact qvar_ok HR.out _ k _ (by omega) _ _ (by omega))
        · rw [if_neg hl] at hnum
          have hk8 : k ≤ 8 := by omega
          have hT8 : 128 ^ k * 128 < 18446744073709551616 := by
            have h1 : 128 ^ k ≤ 128 ^ 8 := Nat.pow_le_pow_right (by omega) hk8
            omega
          have hc0 : ((cn : Int) == 0) = false := by simp; omega
          have HW := Lib.hid (qwrap hg1 hg2)
          have HQ := Lib.hid (qtimes hT8)
          have HN := Lib.hid hnum
          clear hg1 hg2 hT8 hnum
          generalize 128 ^ k = T at *
          go_wp2
          go_quiet (fail)
          go_wp2
          go_quiet (fail)
          go_wp2
          all_goals first
            | (exfalso; omega)
            | (rw [HW.out, HQ.out]
               exact ⟨⟨_, k + 1, _, rfl, by rw [HTT.out], by go_num, rfl, by omega, HG.out, by omega, HN.out⟩, by simp [intOf]; omega⟩)
    · go_wp2
      go_quiet (fail)
      go_wp2
      go_ret
      have e : fin = (10, 0, 0) := by
        have h := HE.out
        rw [List.drop_of_length_le (by omega), numL] at h
        exact h.symm
      subst e
      exact qvar_err HR.out _ 10 _
end Go.Proofs.Ytdgagpoeefbdjaa
