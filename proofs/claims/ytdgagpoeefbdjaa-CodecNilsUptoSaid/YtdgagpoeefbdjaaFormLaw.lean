/- Plain laws: what was read without an error, laid down again, is what was read (no program in sight). -/
import Derived.Test.YtdgagpoeefbdjaaBackLaw
namespace Go.Proofs.Ytdgagpoeefbdjaa
open Go.RowKit

theorem ofNat_toNat8 (x : UInt8) {n : Nat} (h : n = x.toNat) : UInt8.ofNat n = x := by
  subst h
  exact UInt8.ofNat_toNat

/-- a number that was read has one form -/
theorem numL_inv : ∀ (l : List UInt8) (k z : Nat), (numL l k z).1 = 0 → ∃ m j, (numL l k z).2.1 = z + m * 128 ^ k ∧ (numL l k z).2.2 = k + j ∧ l.take j = varB m ∧ (0 < k → 0 < m) := by
  intro l
  induction l with
  | nil => intro k z h; simp [numL] at h
  | cons x t ih =>
    intro k z h
    rw [numL] at h ⊢
    by_cases hb : (k = 9 ∧ 1 < x.toNat) ∨ (0 < k ∧ x.toNat = 0)
    · rw [if_pos hb] at h; simp at h
    rw [if_neg hb] at h ⊢
    by_cases hl : x.toNat < 128
    · rw [if_pos hl]
      refine ⟨x.toNat, 1, by rw [Nat.mod_eq_of_lt hl], rfl, ?_, by omega⟩
      rw [varB_lt hl, UInt8.ofNat_toNat]
      rfl
    · rw [if_neg hl] at h ⊢
      obtain ⟨m, j, h1, h2, h3, h4⟩ := ih (k + 1) _ h
      have hm := h4 (by omega)
      have hx := x.toNat_lt
      have e1 : (x.toNat % 128 + 128 * m) % 128 = x.toNat % 128 := by omega
      have e2 : (x.toNat % 128 + 128 * m) / 128 = m := by omega
      refine ⟨x.toNat % 128 + 128 * m, j + 1, ?_, by rw [h2]; omega, ?_, by omega⟩
      · rw [h1, Nat.pow_succ, Nat.add_mul, Nat.add_assoc]
        congr 2
        rw [Nat.mul_comm (128 ^ k) 128, ← Nat.mul_assoc, Nat.mul_comm m 128]
      · rw [List.take_succ_cons, h3, varB_ge (n := x.toNat % 128 + 128 * m) (by omega), e1, e2, ofNat_toNat8 x (by omega)]

theorem num_form (l : List UInt8) (h : (numL l 0 0).1 = 0) : varB (numL l 0 0).2.1 = l.take (numL l 0 0).2.2 := by
  obtain ⟨m, j, h1, h2, h3, -⟩ := numL_inv l 0 0 h
  rw [h1, h2, Nat.zero_add, Nat.zero_add, Nat.pow_zero, Nat.mul_one, h3]

theorem leN_snoc (l : List UInt8) (c : UInt8) : leN (l ++ [c]) = leN l + c.toNat * 256 ^ l.length := leN_append l c
theorem le_leN : ∀ (k : Nat) (l : List UInt8), l.length = k → le k (leN l) = l := by
  intro k
  induction k with
  | zero => intro l h; obtain rfl := List.eq_nil_of_length_eq_zero h; rfl
  | succ k ih =>
    intro l h
    have hne : l ≠ [] := by intro e; subst e; simp at h
    obtain ⟨d, c, rfl⟩ : ∃ d c, l = d ++ [c] := ⟨l.dropLast, l.getLast hne, (List.dropLast_concat_getLast hne).symm⟩
    have hd : d.length = k := by simpa using h
    have hlt := leN_lt d
    have hc := c.toNat_lt
    rw [hd] at hlt
    rw [le_succ, leN_append, hd]
    have hlow : le k (leN d + c.toNat * 256 ^ k) = le k (leN d) := by
      unfold le
      apply List.map_congr_left
      intro i hi
      have hi : i < k := List.mem_range.1 hi
      congr 1
      obtain ⟨j, rfl⟩ : ∃ j, k = i + 1 + j := ⟨k - (i + 1), by omega⟩
      have e : c.toNat * 256 ^ (i + 1 + j) = (256 * (c.toNat * 256 ^ j)) * 256 ^ i := by
        rw [Nat.pow_add, Nat.pow_succ]
        ac_rfl
      rw [e, Nat.add_mul_div_right _ _ (Nat.pow_pos (by omega)), Nat.add_mul_mod_self_left]
    have hhi : (leN d + c.toNat * 256 ^ k) / 256 ^ k % 256 = c.toNat := by
      rw [Nat.add_mul_div_right _ _ (Nat.pow_pos (by omega)), Nat.div_eq_of_lt hlt, Nat.zero_add, Nat.mod_eq_of_lt hc]
    rw [hlow, hhi, ih d hd, UInt8.ofNat_toNat]

theorem take_split (l : List UInt8) (k n : Nat) : l.take k ++ (l.drop k).take n = l.take (k + n) := by
  rw [List.take_add]

theorem cnt_pos (pre : List UInt8) (n : Nat) (h : (n : Int) ≤ 9223372036854775807) : cntB 0 pre (wrap64 (n : Int)) = pre ++ varB n ∧ cntE 0 (wrap64 (n : Int)) = 0 := by
  have hw : wrap64 (n : Int) = (n : Int) := by unfold wrap64; omega
  have hn0 : ¬ (n : Int) < 0 := by omega
  rw [hw]
  unfold cntB cntE
  rw [if_neg hn0, if_neg (fun h => hn0 h.2), Int.toNat_natCast]
  exact ⟨if_pos rfl, rfl⟩

/-- THE LAW: what was read without an error, laid down again, is what was read. -/
theorem form_any (K A B : Int) (hA : A ≤ 9223372036854775807) (rest pre : List UInt8) (h : (rdD (K % 9) A B rest).1 = 0) :
    layB 0 pre (K % 9) (rdD (K % 9) A B rest).2.2.1 (rdD (K % 9) A B rest).2.2.2 = pre ++ rest.take (rdD (K % 9) A B rest).2.1 ∧ layE 0 (K % 9) (rdD (K % 9) A B rest).2.2.1 = 0 := by
  have hnum := num_form rest
  obtain ⟨hfr, -, -⟩ := numL_front rest
  have happ : ∀ ys, app 0 pre ys = pre ++ ys := fun ys => if_pos rfl
  have hKK : K % 9 % 9 = K % 9 := by omega
  unfold layB layE
  rw [hKK]
  have h9 : K % 9 = 0 ∨ K % 9 = 1 ∨ K % 9 = 2 ∨ K % 9 = 3 ∨ K % 9 = 4 ∨ K % 9 = 5 ∨ K % 9 = 6 ∨ K % 9 = 7 ∨ K % 9 = 8 := by omega
  rcases h9 with hk | hk | hk | hk | hk | hk | hk | hk | hk
  · rw [hk] at h ⊢
    rw [if_neg (by omega), if_neg (by omega), happ]
    refine ⟨?_, rfl⟩
    congr 1
    have h : (rd0 rest).1 = 0 := h
    show [toB (((rd0 rest).2.2.1 : Int) % 256)] = rest.take (rd0 rest).2.1
    unfold rd0 at h ⊢
    cases rest with
    | nil => simp at h
    | cons x t =>
      have hx := x.toNat_lt
      simp only
      have e : toB ((x.toNat : Int) % 256) = x := by
        unfold toB
        exact ofNat_toNat8 x (by omega)
      rw [e]
      rfl
  · rw [hk] at h ⊢
    rw [if_neg (by omega), if_neg (by omega), happ]
    refine ⟨?_, rfl⟩
    congr 1
    have h : (rd1 rest).1 = 0 := h
    show bitB (rd1 rest).2.2.1 = rest.take (rd1 rest).2.1
    unfold rd1 at h ⊢
    cases rest with
    | nil => simp at h
    | cons x t =>
      simp only at h ⊢
      by_cases hx : x.toNat ≤ 1
      · rw [if_pos hx]
        simp only [List.take_succ_cons, List.take_zero]
        unfold bitB
        congr 1
        have h01 : x.toNat = 0 ∨ x.toNat = 1 := by omega
        rcases h01 with h0 | h0
        · rw [h0]; exact UInt8.toNat_inj.1 (by rw [h0]; rfl)
        · rw [h0]; exact UInt8.toNat_inj.1 (by rw [h0]; rfl)
      · rw [if_neg hx] at h; simp at h
  · rw [hk] at h ⊢
    rw [if_neg (by omega), if_neg (by omega), happ]
    refine ⟨?_, rfl⟩
    congr 1
    have h : (rdF 4 rest).1 = 0 := h
    show le 4 ((rdF 4 rest).2.2.1 % 4294967296) = rest.take (rdF 4 rest).2.1
    unfold rdF at h ⊢
    by_cases hl : 4 ≤ rest.length
    · rw [if_pos hl]
      simp only
      have := leN_lt (rest.take 4)
      rw [List.length_take, Nat.min_eq_left hl] at this
      rw [Nat.mod_eq_of_lt (by omega), le_leN 4 _ (by simp; omega)]
    · rw [if_neg hl] at h; simp at h
  · rw [hk] at h ⊢
    rw [if_neg (by omega), if_neg (by omega), happ]
    refine ⟨?_, rfl⟩
    congr 1
    have h : (rdF 8 rest).1 = 0 := h
    show le 8 (rdF 8 rest).2.2.1 = rest.take (rdF 8 rest).2.1
    unfold rdF at h ⊢
    by_cases hl : 8 ≤ rest.length
    · rw [if_pos hl]
      simp only
      rw [le_leN 8 _ (by simp; omega)]
    · rw [if_neg hl] at h; simp at h
  · rw [hk] at h ⊢
    rw [if_neg (by omega), if_neg (by omega), happ]
    refine ⟨?_, rfl⟩
    congr 1
    exact hnum h
  · rw [hk] at h ⊢
    rw [if_neg (by omega), if_neg (by omega), happ]
    refine ⟨?_, rfl⟩
    congr 1
    have h : (rd5 A rest).1 = 0 := h
    show (rd5 A rest).2.2.2 = rest.take (rd5 A rest).2.1
    unfold rd5 at h ⊢
    repeat' split
    all_goals first | rfl | simp_all
  · have h6 : (rd6 A rest).1 = 0 → enc 6 0 (rd6 A rest).2.2.2 = rest.take (rd6 A rest).2.1 := by
      intro h
      show varB (rd6 A rest).2.2.2.length ++ (rd6 A rest).2.2.2 = rest.take (rd6 A rest).2.1
      unfold rd6 at h ⊢
      by_cases h1 : A < 0
      · rw [if_pos h1] at h; simp at h
      rw [if_neg h1] at h ⊢
      by_cases h2 : (numL rest 0 0).1 ≠ 0
      · rw [if_pos h2] at h; exact absurd h h2
      rw [if_neg h2] at h ⊢
      have h2 : (numL rest 0 0).1 = 0 := by simpa using h2
      by_cases h3 : A < ((numL rest 0 0).2.1 : Int)
      · rw [if_pos h3] at h; simp at h
      rw [if_neg h3] at h ⊢
      by_cases h4 : rest.length - (numL rest 0 0).2.2 < (numL rest 0 0).2.1
      · rw [if_pos h4] at h; simp at h
      rw [if_neg h4]
      simp only
      have hl : ((rest.drop (numL rest 0 0).2.2).take (numL rest 0 0).2.1).length = (numL rest 0 0).2.1 := by simp; omega
      rw [hl, hnum h2, take_split]
    rw [hk] at h ⊢
    rw [if_neg (by omega), if_neg (by omega), happ]
    exact ⟨congrArg _ (h6 h), rfl⟩
  · have h6 : (rd6 A rest).1 = 0 → enc 6 0 (rd6 A rest).2.2.2 = rest.take (rd6 A rest).2.1 := by
      intro h
      show varB (rd6 A rest).2.2.2.length ++ (rd6 A rest).2.2.2 = rest.take (rd6 A rest).2.1
      unfold rd6 at h ⊢
      by_cases h1 : A < 0
      · rw [if_pos h1] at h; simp at h
      rw [if_neg h1] at h ⊢
      by_cases h2 : (numL rest 0 0).1 ≠ 0
      · rw [if_pos h2] at h; exact absurd h h2
      rw [if_neg h2] at h ⊢
      have h2 : (numL rest 0 0).1 = 0 := by simpa using h2
      by_cases h3 : A < ((numL rest 0 0).2.1 : Int)
      · rw [if_pos h3] at h; simp at h
      rw [if_neg h3] at h ⊢
      by_cases h4 : rest.length - (numL rest 0 0).2.2 < (numL rest 0 0).2.1
      · rw [if_pos h4] at h; simp at h
      rw [if_neg h4]
      simp only
      have hl : ((rest.drop (numL rest 0 0).2.2).take (numL rest 0 0).2.1).length = (numL rest 0 0).2.1 := by simp; omega
      rw [hl, hnum h2, take_split]
    rw [hk] at h ⊢
    rw [if_neg (by omega), if_neg (by omega), happ]
    exact ⟨congrArg _ (h6 h), rfl⟩
  · rw [hk] at h ⊢
    rw [if_pos rfl, if_pos rfl]
    have h : (rd8 A B rest).1 = 0 := h
    show cntB 0 pre (wrap64 ((rd8 A B rest).2.2.1 : Int)) = pre ++ rest.take (rd8 A B rest).2.1 ∧ cntE 0 (wrap64 ((rd8 A B rest).2.2.1 : Int)) = 0
    unfold rd8 at h ⊢
    by_cases h1 : A < 0 ∨ B < 0
    · rw [if_pos h1] at h; simp at h
    rw [if_neg h1] at h ⊢
    by_cases h2 : (numL rest 0 0).1 ≠ 0
    · rw [if_pos h2] at h; exact absurd h h2
    rw [if_neg h2] at h ⊢
    have h2 : (numL rest 0 0).1 = 0 := by simpa using h2
    by_cases h3 : A < ((numL rest 0 0).2.1 : Int)
    · rw [if_pos h3] at h; simp at h
    rw [if_neg h3] at h ⊢
    by_cases h4 : rest.length - (numL rest 0 0).2.2 < (numL rest 0 0).2.1 * B.toNat
    · rw [if_pos h4] at h; simp at h
    rw [if_neg h4]
    simp only
    have hc := cnt_pos pre (numL rest 0 0).2.1 (by omega)
    rw [hc.1, hc.2, hnum h2]
    exact ⟨rfl, rfl⟩
end Go.Proofs.Ytdgagpoeefbdjaa
