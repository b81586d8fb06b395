/- Plain law: unlike lists of values of the same kinds are laid down as texts of which none is a beginning of the other. No program in it. -/
import Derived.Test.YtdgagpoeefbdjaaAll
namespace Go.Proofs.Ytdgagpoeefbdjaa

/-- one is a beginning of the other -/
def Cmp (c d : List UInt8) : Prop := (∃ r, c ++ r = d) ∨ (∃ r, d ++ r = c)

theorem Cmp.of_take {c d : List UInt8} (h : c.take (min c.length d.length) = d.take (min c.length d.length)) : Cmp c d := by
  by_cases hl : c.length ≤ d.length
  · left
    rw [Nat.min_eq_left hl, List.take_length] at h
    exact ⟨d.drop c.length, by rw [h]; simp [Nat.min_eq_left hl]⟩
  · right
    rw [Nat.min_eq_right (by omega), List.take_length] at h
    exact ⟨c.drop d.length, by rw [← h]; simp [Nat.min_eq_left (show d.length ≤ c.length by omega)]⟩
theorem Cmp.cons {x y : UInt8} {c d : List UInt8} (h : Cmp (x :: c) (y :: d)) : x = y ∧ Cmp c d := by
  rcases h with ⟨r, h⟩ | ⟨r, h⟩
  · simp only [List.cons_append, List.cons.injEq] at h
    exact ⟨h.1, .inl ⟨r, h.2⟩⟩
  · simp only [List.cons_append, List.cons.injEq] at h
    exact ⟨h.1.symm, .inr ⟨r, h.2⟩⟩
theorem Cmp.app {a b s t : List UInt8} (hl : a.length = b.length) (h : Cmp (a ++ s) (b ++ t)) : a = b ∧ Cmp s t := by
  rcases h with ⟨r, h⟩ | ⟨r, h⟩
  · rw [List.append_assoc] at h
    have := List.append_inj h hl
    exact ⟨this.1, .inl ⟨r, this.2⟩⟩
  · rw [List.append_assoc] at h
    have := List.append_inj h hl.symm
    exact ⟨this.1.symm, .inr ⟨r, this.2⟩⟩

theorem ofNat_inj {m n : Nat} (hm : m < 256) (hn : n < 256) (h : UInt8.ofNat m = UInt8.ofNat n) : m = n := by
  have := congrArg UInt8.toNat h
  rw [UInt8.toNat_ofNat', UInt8.toNat_ofNat'] at this
  omega

theorem varB_cmp : ∀ (m n : Nat) (s t : List UInt8), Cmp (varB m ++ s) (varB n ++ t) → m = n ∧ Cmp s t := by
  intro m
  induction m using Nat.strongRecOn with
  | _ m ih =>
    intro n s t h
    by_cases hm : m < 128
    · by_cases hn : n < 128
      · rw [varB_lt hm, varB_lt hn] at h
        have := h.cons
        exact ⟨ofNat_inj (by omega) (by omega) this.1, this.2⟩
      · rw [varB_lt hm, varB_ge (by omega)] at h
        have := ofNat_inj (by omega) (by omega) h.cons.1
        omega
    · by_cases hn : n < 128
      · rw [varB_ge (by omega), varB_lt hn] at h
        have := ofNat_inj (by omega) (by omega) h.cons.1
        omega
      · rw [varB_ge (by omega), varB_ge (show 128 ≤ n by omega)] at h
        have h1 := ofNat_inj (by omega) (by omega) h.cons.1
        have h2 := ih (m / 128) (by omega) (n / 128) s t h.cons.2
        exact ⟨by omega, h2.2⟩

theorem le_inj : ∀ (n v u : Nat), le n v = le n u → v % 256 ^ n = u % 256 ^ n := by
  intro n
  induction n with
  | zero => intro v u _; simp [Nat.mod_one]
  | succ n ih =>
    intro v u h
    rw [le_succ, le_succ] at h
    have h1 := List.append_inj h (by rw [le_length, le_length])
    have h2 := ih v u h1.1
    have h3 := ofNat_inj (by omega) (by omega) (List.cons.inj h1.2).1
    rw [Nat.mod_pow_succ, Nat.mod_pow_succ, h2, h3]

/-- a value's bytes tell the value, and where they end -/
theorem enc_cmp (d e : PutD) (hk : d.K % 9 = e.K % 9) (h5 : d.K % 9 = 5 → d.B.length = e.B.length) (hd : IsU64 d.N) (he : IsU64 e.N) (s t : List UInt8) (h : Cmp (d.enc ++ s) (e.enc ++ t)) :
    (valN d.K d.N = valN e.K e.N ∧ valB d.K d.B = valB e.K e.B) ∧ Cmp s t := by
  have h9 : d.K % 9 = 0 ∨ d.K % 9 = 1 ∨ d.K % 9 = 2 ∨ d.K % 9 = 3 ∨ d.K % 9 = 4 ∨ d.K % 9 = 5 ∨ d.K % 9 = 6 ∨ d.K % 9 = 7 ∨ d.K % 9 = 8 := by omega
  unfold PutD.enc at h
  unfold valN valB
  rw [← hk] at h ⊢
  unfold IsU64 at hd he
  rcases h9 with h0 | h0 | h0 | h0 | h0 | h0 | h0 | h0 | h0
  all_goals rw [h0] at h ⊢
  · have h := (Cmp.app (by simp [Go.Proofs.Ytdgagpoeefbdjaa.enc]) h)
    simp [Go.Proofs.Ytdgagpoeefbdjaa.enc, toB] at h
    have := ofNat_inj (by omega) (by omega) h.1
    simp
    exact ⟨by omega, h.2⟩
  · have h := (Cmp.app (by simp [Go.Proofs.Ytdgagpoeefbdjaa.enc, bitB]) h)
    simp [Go.Proofs.Ytdgagpoeefbdjaa.enc, bitB] at h
    simp
    refine ⟨?_, h.2⟩
    have h1 := h.1
    split at h1 <;> split at h1 <;> first | omega | (exfalso; revert h1; decide)
  · have h := (Cmp.app (by simp [Go.Proofs.Ytdgagpoeefbdjaa.enc, le_length]) h)
    simp [Go.Proofs.Ytdgagpoeefbdjaa.enc] at h
    have := le_inj _ _ _ h.1
    simp at this ⊢
    exact ⟨by omega, h.2⟩
  · have h := (Cmp.app (by simp [Go.Proofs.Ytdgagpoeefbdjaa.enc, le_length]) h)
    simp [Go.Proofs.Ytdgagpoeefbdjaa.enc] at h
    have := le_inj _ _ _ h.1
    simp at this ⊢
    exact ⟨by omega, h.2⟩
  · simp [Go.Proofs.Ytdgagpoeefbdjaa.enc] at h ⊢
    exact varB_cmp _ _ _ _ h
  · simp [Go.Proofs.Ytdgagpoeefbdjaa.enc] at h ⊢
    exact Cmp.app (h5 h0) h
  · simp only [Go.Proofs.Ytdgagpoeefbdjaa.enc] at h
    simp at h ⊢
    have h1 := varB_cmp _ _ _ _ h
    exact Cmp.app h1.1 h1.2
  · simp only [Go.Proofs.Ytdgagpoeefbdjaa.enc] at h
    simp at h ⊢
    have h1 := varB_cmp _ _ _ _ h
    exact Cmp.app h1.1 h1.2
  · simp at h ⊢
    exact varB_cmp _ _ _ _ h

/-- alike values have the same bytes -/
theorem enc_eq (d e : PutD) (hk : d.K % 9 = e.K % 9) (hn : valN d.K d.N = valN e.K e.N) (hb : valB d.K d.B = valB e.K e.B) : d.enc = e.enc := by
  have h9 : d.K % 9 = 0 ∨ d.K % 9 = 1 ∨ d.K % 9 = 2 ∨ d.K % 9 = 3 ∨ d.K % 9 = 4 ∨ d.K % 9 = 5 ∨ d.K % 9 = 6 ∨ d.K % 9 = 7 ∨ d.K % 9 = 8 := by omega
  unfold PutD.enc
  unfold valN at hn
  unfold valB at hb
  rw [← hk] at hn hb ⊢
  rcases h9 with h0 | h0 | h0 | h0 | h0 | h0 | h0 | h0 | h0
  all_goals rw [h0] at hn hb ⊢
  all_goals simp [Go.Proofs.Ytdgagpoeefbdjaa.enc] at hn hb ⊢
  all_goals first
    | (rw [hb]; done)
    | (rw [hn]; done)
    | (congr 1; omega)
    | (unfold bitB; rw [hn])
end Go.Proofs.Ytdgagpoeefbdjaa
