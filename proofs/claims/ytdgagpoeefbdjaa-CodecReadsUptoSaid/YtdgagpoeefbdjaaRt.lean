/- Contracts of codec.Reader's closures: getText at bytes and at strings. Condition: the reader is one that NewReader made. -/
import Derived.Test.YtdgagpoeefbdjaaRf
namespace Go.Proofs.Ytdgagpoeefbdjaa
open Go.RowKit

theorem numL_spec : ∀ (l : List UInt8) (k z : Nat), z < 128 ^ k → k ≤ 9 →
    ((numL l k z).1 = 0 → (numL l k z).2.1 < 18446744073709551616 ∧ k < (numL l k z).2.2 ∧ (numL l k z).2.2 ≤ k + l.length ∧ (numL l k z).2.2 ≤ 10) ∧ ((numL l k z).1 ≠ 0 → (numL l k z).2 = (0, 0)) ∧ ((numL l k z).1 = 0 ∨ (numL l k z).1 = 10 ∨ (numL l k z).1 = 11) := by
  intro l
  induction l with
  | nil => intro k z _ _; simp [numL]
  | cons c cs ih =>
    intro k z hz hk
    by_cases hb : (k = 9 ∧ 1 < c.toNat) ∨ (0 < k ∧ c.toNat = 0)
    · rw [numL, if_pos hb]; simp
    · by_cases hl : c.toNat < 128
      · rw [numL, if_neg hb, if_pos hl]
        refine ⟨fun _ => ⟨?_, by simp, by simp, by simp; omega⟩, by simp, by simp⟩
        simp only
        have hm : c.toNat % 128 = c.toNat := Nat.mod_eq_of_lt hl
        rw [hm]
        have hg := group_lt z k c hz
        rw [hm] at hg
        rcases Nat.lt_or_ge k 9 with h | h
        · have : (128 : Nat) ^ (k + 1) ≤ 128 ^ 9 := Nat.pow_le_pow_right (by omega) (by omega)
          omega
        · have e : k = 9 := by omega
          subst e
          have h1 : c.toNat ≤ 1 := by omega
          have : c.toNat * 128 ^ 9 ≤ 1 * 128 ^ 9 := Nat.mul_le_mul h1 (Nat.le_refl _)
          omega
      · rw [numL, if_neg hb, if_neg hl]
        have hk9 : k < 9 := by
          rcases Nat.lt_or_ge k 9 with h | h
          · exact h
          · have e : k = 9 := by omega
            subst e
            omega
        have h := ih (k + 1) _ (group_lt z k c hz) (by omega)
        refine ⟨fun he => ?_, h.2⟩
        have := h.1 he
        simp only [List.length_cons]
        omega

/-- the number at the front -/
theorem numL_front (l : List UInt8) : ((numL l 0 0).1 = 0 → (numL l 0 0).2.1 < 18446744073709551616 ∧ 0 < (numL l 0 0).2.2 ∧ (numL l 0 0).2.2 ≤ l.length ∧ (numL l 0 0).2.2 ≤ 10) ∧ ((numL l 0 0).1 ≠ 0 → (numL l 0 0).2 = (0, 0)) ∧ ((numL l 0 0).1 = 0 ∨ (numL l 0 0).1 = 10 ∨ (numL l 0 0).1 = 11) := by
  have h := numL_spec l 0 0 (by omega) (by omega)
  simpa using h

theorem bytes_neg (w : World) (p : Nat) (v : Value) (bs : List UInt8) (a : Nat) (h : RdAt w p v bs a 0) (rb mb c : Nat) (hb : Beside w p v rb c 29 (.slice none 0 0)) (m : Int) (hm : w.cell? ⟨mb, 0, none⟩ = some (.int .i64 m)) (h0 : m < 0) :
    Calls Try.prog 201 #[.pointer (some ⟨mb, 0, none⟩), .pointer (some ⟨rb, 0, none⟩), .pointer (some ⟨c, 0, none⟩)] w (Clo w p c 29 v bs a 2 0 (Fresh w.heap.size [])) := by
  go_enter Try.func201, Try.ntmps201
  go_wp2_with fail
  go_ret
  exact ⟨rfl, a, _, h, by simp, hb.cell, ⟨none, 0, Nat.le_refl _, by simp [maxLen], rfl, Own.nil _ _ _, fun k hk => by simp [inFoot, foot] at hk⟩, Ext.refl _ _⟩

set_option maxRecDepth 20000 in
theorem bytes_num (w : World) (p : Nat) (v : Value) (bs : List UInt8) (a : Nat) (h : RdAt w p v bs a 0) (rb mb c : Nat) (hb : Beside w p v rb c 29 (.slice none 0 0)) (m : Nat) (hm : w.cell? ⟨mb, 0, none⟩ = some (.int .i64 m)) (er : Int) (z k : Nat) (hr : numL (bs.drop a) 0 0 = (er, z, k)) (he : er ≠ 0) :
    Calls Try.prog 201 #[.pointer (some ⟨mb, 0, none⟩), .pointer (some ⟨rb, 0, none⟩), .pointer (some ⟨c, 0, none⟩)] w (Clo w p c 29 v bs a er 0 (Fresh w.heap.size [])) := by
  have b0 := hb.box
  have ht := number_any w p v bs a 0 h
  rw [hr] at ht
  clear hr
  have hne : (er != 0) = true := by rw [bne_iff_ne]; exact he
  have HE := Lib.hid he
  clear he
  go_enter Try.func201, Try.ntmps201
  go_wp2_with fail
  refine ht.mono ?_
  rintro e w1 ⟨rfl, hR, hX⟩
  simp only at hR ⊢
  go_wp2_with fail
  go_ret
  exact ⟨rfl, _, _, hR, fun e => absurd e HE.out, hb.cell.ext hX hb.cp, ⟨none, 0, Nat.le_refl _, by simp [maxLen], rfl, Own.nil _ _ _, fun k hk => by simp [inFoot, foot] at hk⟩, hX.mono fun _ _ h => .inl h⟩

set_option maxRecDepth 20000 in
theorem bytes_over (w : World) (p : Nat) (v : Value) (bs : List UInt8) (a : Nat) (h : RdAt w p v bs a 0) (rb mb c : Nat) (hb : Beside w p v rb c 29 (.slice none 0 0)) (m : Nat) (hm : w.cell? ⟨mb, 0, none⟩ = some (.int .i64 m)) (hm63 : m ≤ 9223372036854775807) (hmp : mb ≠ p) (z k : Nat) (hr : numL (bs.drop a) 0 0 = (0, z, k)) (hz : m < z) :
    Calls Try.prog 201 #[.pointer (some ⟨mb, 0, none⟩), .pointer (some ⟨rb, 0, none⟩), .pointer (some ⟨c, 0, none⟩)] w (Clo w p c 29 v bs a 12 0 (Fresh w.heap.size [])) := by
  have b0 := hb.box
  have ht := number_any w p v bs a 0 h
  rw [hr] at ht
  clear hr
  have hwm := u64_wrap m (by omega)
  go_enter Try.func201, Try.ntmps201
  go_wp2_with fail
  refine ht.mono ?_
  rintro e w1 ⟨rfl, hR, hX⟩
  simp only at hR ⊢
  have m1 := hX.cell hm hmp
  go_wp2_with fail
  go_ret
  exact ⟨rfl, _, _, hR, by simp, hb.cell.ext hX hb.cp, ⟨none, 0, Nat.le_refl _, by simp [maxLen], rfl, Own.nil _ _ _, fun k hk => by simp [inFoot, foot] at hk⟩, hX.mono fun _ _ h => .inl h⟩

set_option maxRecDepth 20000 in
theorem bytes_short (w : World) (p : Nat) (v : Value) (bs : List UInt8) (a : Nat) (h : RdAt w p v bs a 0) (rb mb c : Nat) (hb : Beside w p v rb c 29 (.slice none 0 0)) (m : Nat) (hm : w.cell? ⟨mb, 0, none⟩ = some (.int .i64 m)) (hm63 : m ≤ 9223372036854775807) (hmp : mb ≠ p) (z k : Nat) (hr : numL (bs.drop a) 0 0 = (0, z, k)) (hz : z ≤ m) (hs : bs.length - (a + k) < z) :
    Calls Try.prog 201 #[.pointer (some ⟨mb, 0, none⟩), .pointer (some ⟨rb, 0, none⟩), .pointer (some ⟨c, 0, none⟩)] w (Clo w p c 29 v bs a 10 0 (Fresh w.heap.size [])) := by
  have b0 := hb.box
  have hk := (numL_front (bs.drop a)).1 (by rw [hr])
  have ht := number_any w p v bs a 0 h
  rw [hr] at ht hk
  simp only [List.length_drop] at hk
  clear hr
  have hwm := u64_wrap m (by omega)
  have here := h.here
  have hf : bs.length ≤ 1099511627776 := h.fits
  obtain ⟨ao, cap, rfl, hcap, hmax, -⟩ := h.row.open
  go_enter Try.func201, Try.ntmps201
  go_wp2_with fail
  refine ht.mono ?_
  rintro e w1 ⟨rfl, hR, hX⟩
  simp only at hR ⊢
  have m1 := hX.cell hm hmp
  have b1 := hX.cell b0 hb.boxp
  have c1 := hR.cells.cell 1 rfl
  have c2 := hR.cells.cell 2 rfl
  have hw2 : IntKind.u64.wrap ((bs.length : Int) - ((a + k : Nat) : Int)) = ((bs.length - (a + k) : Nat) : Int) := by
    rw [show ((bs.length : Int) - ((a + k : Nat) : Int)) = ((bs.length - (a + k) : Nat) : Int) from by omega]
    exact u64_wrap _ (by omega)
  have hw3 : IntKind.u64.wrap ((bs.length : Int) - ((a : Int) + (k : Int))) = ((bs.length - (a + k) : Nat) : Int) := by
    rw [show ((bs.length : Int) - ((a : Int) + (k : Int))) = ((bs.length - (a + k) : Nat) : Int) from by omega]
    exact u64_wrap _ (by omega)
  go_wp2_with fail
  go_quiet (fail)
  go_wp2_with fail
  go_ret
  exact ⟨rfl, _, _, hR.drewN _, by simp, (hb.cell.ext hX hb.cp).ext (F := Nil) ((Ext.refl _ _).drewN _) fun h => h, ⟨none, 0, Nat.le_refl _, by simp [maxLen], rfl, Own.nil _ _ _, fun k hk => by simp [inFoot, foot] at hk⟩, (hX.drewN _).mono fun _ _ h => .inl h⟩

set_option maxRecDepth 20000 in
theorem bytes_ok (w : World) (p : Nat) (v : Value) (bs : List UInt8) (a : Nat) (h : RdAt w p v bs a 0) (rb mb c : Nat) (hb : Beside w p v rb c 29 (.slice none 0 0)) (m : Nat) (hm : w.cell? ⟨mb, 0, none⟩ = some (.int .i64 m)) (hm63 : m ≤ 9223372036854775807) (hmp : mb ≠ p) (z k : Nat) (hr : numL (bs.drop a) 0 0 = (0, z, k)) (hz : z ≤ m) (hs : z ≤ bs.length - (a + k)) (B : List UInt8) (hB : (bs.drop (a + k)).take z = B) :
    Calls Try.prog 201 #[.pointer (some ⟨mb, 0, none⟩), .pointer (some ⟨rb, 0, none⟩), .pointer (some ⟨c, 0, none⟩)] w (Clo w p c 29 v bs a 0 (k + z) (Fresh w.heap.size B)) := by
  have b0 := hb.box
  have hk := (numL_front (bs.drop a)).1 (by rw [hr])
  have ht := number_any w p v bs a 0 h
  rw [hr] at ht hk
  simp only [List.length_drop] at hk
  clear hr
  have hwm := u64_wrap m (by omega)
  have here := h.here
  have hf : bs.length ≤ 1099511627776 := h.fits
  obtain ⟨ao, cap, rfl, hcap, hmax, -⟩ := h.row.open
  have hBl : Fits B.length := by
    have : B.length ≤ bs.length := by
      rw [← hB]
      simp
      omega
    unfold Fits; omega
  have HB := Lib.hid hB
  clear hB
  go_enter Try.func201, Try.ntmps201
  go_wp2_with fail
  refine ht.mono ?_
  rintro e w1 ⟨rfl, hR, hX⟩
  simp only at hR ⊢
  have m1 := hX.cell hm hmp
  have b1 := hX.cell b0 hb.boxp
  have c1 := hR.cells.cell 1 rfl
  have c2 := hR.cells.cell 2 rfl
  have hw2 : IntKind.u64.wrap ((bs.length : Int) - ((a + k : Nat) : Int)) = ((bs.length - (a + k) : Nat) : Int) := by
    rw [show ((bs.length : Int) - ((a + k : Nat) : Int)) = ((bs.length - (a + k) : Nat) : Int) from by omega]
    exact u64_wrap _ (by omega)
  have hw3 : IntKind.u64.wrap ((bs.length : Int) - ((a : Int) + (k : Int))) = ((bs.length - (a + k) : Nat) : Int) := by
    rw [show ((bs.length : Int) - ((a : Int) + (k : Int))) = ((bs.length - (a + k) : Nat) : Int) from by omega]
    exact u64_wrap _ (by omega)
  have hz63 : (z : Int) ≤ 1099511627776 := by omega
  go_wp2_with fail
  go_quiet (fail)
  go_wp2_with fail
  have htk := fun nq => take_ok _ p _ bs (a + k) 0 (hR.drewN nq) z (by omega)
  simp only [HB.out] at htk
  refine (htk _).mono ?_
  rintro e w2 ⟨ao2, cap2, k1, k2, rfl, hBy, hap, hlt, hR3, hX3⟩
  go_wp2_with fail
  refine (clone_any w2 _ B hBy hBl).mono ?_
  rintro e w3 ⟨ao3, cap3, k3, k4, rfl, ho, hst⟩
  have hX4 := (hX.drewN _).same hX3
  have hc2 := (hb.cell.ext hX4 hb.cp).ext hst.1 (fun h => h)
  have f1 := hc2.frozen 0
  have d1 := hc2.cell 0 rfl
  go_wp2_with fail
  go_ret
  exact raw_tail hb.cell hb.cp hb.cv hR3 (fun _ => by omega) hX4 k3 k4 ho hst rfl

theorem text_neg (w : World) (p : Nat) (v : Value) (bs : List UInt8) (a : Nat) (h : RdAt w p v bs a 0) (rb mb c : Nat) (hb : Beside w p v rb c 9 (.string { data := #[] })) (m : Int) (hm : w.cell? ⟨mb, 0, none⟩ = some (.int .i64 m)) (h0 : m < 0) :
    Calls Try.prog 202 #[.pointer (some ⟨mb, 0, none⟩), .pointer (some ⟨rb, 0, none⟩), .pointer (some ⟨c, 0, none⟩)] w (Clo w p c 9 v bs a 2 0 (Just (.string { data := #[] }))) := by
  go_enter Try.func202, Try.ntmps202
  go_wp2_with fail
  go_ret
  exact ⟨rfl, a, _, h, by simp, hb.cell, rfl, Ext.refl _ _⟩

set_option maxRecDepth 20000 in
theorem text_num (w : World) (p : Nat) (v : Value) (bs : List UInt8) (a : Nat) (h : RdAt w p v bs a 0) (rb mb c : Nat) (hb : Beside w p v rb c 9 (.string { data := #[] })) (m : Nat) (hm : w.cell? ⟨mb, 0, none⟩ = some (.int .i64 m)) (er : Int) (z k : Nat) (hr : numL (bs.drop a) 0 0 = (er, z, k)) (he : er ≠ 0) :
    Calls Try.prog 202 #[.pointer (some ⟨mb, 0, none⟩), .pointer (some ⟨rb, 0, none⟩), .pointer (some ⟨c, 0, none⟩)] w (Clo w p c 9 v bs a er 0 (Just (.string { data := #[] }))) := by
  have b0 := hb.box
  have ht := number_any w p v bs a 0 h
  rw [hr] at ht
  clear hr
  have hne : (er != 0) = true := by rw [bne_iff_ne]; exact he
  have HE := Lib.hid he
  clear he
  go_enter Try.func202, Try.ntmps202
  go_wp2_with fail
  refine ht.mono ?_
  rintro e w1 ⟨rfl, hR, hX⟩
  simp only at hR ⊢
  go_wp2_with fail
  go_ret
  exact ⟨rfl, _, _, hR, fun e => absurd e HE.out, hb.cell.ext hX hb.cp, rfl, hX.mono fun _ _ h => .inl h⟩

set_option maxRecDepth 20000 in
theorem text_over (w : World) (p : Nat) (v : Value) (bs : List UInt8) (a : Nat) (h : RdAt w p v bs a 0) (rb mb c : Nat) (hb : Beside w p v rb c 9 (.string { data := #[] })) (m : Nat) (hm : w.cell? ⟨mb, 0, none⟩ = some (.int .i64 m)) (hm63 : m ≤ 9223372036854775807) (hmp : mb ≠ p) (z k : Nat) (hr : numL (bs.drop a) 0 0 = (0, z, k)) (hz : m < z) :
    Calls Try.prog 202 #[.pointer (some ⟨mb, 0, none⟩), .pointer (some ⟨rb, 0, none⟩), .pointer (some ⟨c, 0, none⟩)] w (Clo w p c 9 v bs a 12 0 (Just (.string { data := #[] }))) := by
  have b0 := hb.box
  have ht := number_any w p v bs a 0 h
  rw [hr] at ht
  clear hr
  have hwm := u64_wrap m (by omega)
  go_enter Try.func202, Try.ntmps202
  go_wp2_with fail
  refine ht.mono ?_
  rintro e w1 ⟨rfl, hR, hX⟩
  simp only at hR ⊢
  have m1 := hX.cell hm hmp
  go_wp2_with fail
  go_ret
  exact ⟨rfl, _, _, hR, by simp, hb.cell.ext hX hb.cp, rfl, hX.mono fun _ _ h => .inl h⟩

set_option maxRecDepth 20000 in
theorem text_short (w : World) (p : Nat) (v : Value) (bs : List UInt8) (a : Nat) (h : RdAt w p v bs a 0) (rb mb c : Nat) (hb : Beside w p v rb c 9 (.string { data := #[] })) (m : Nat) (hm : w.cell? ⟨mb, 0, none⟩ = some (.int .i64 m)) (hm63 : m ≤ 9223372036854775807) (hmp : mb ≠ p) (z k : Nat) (hr : numL (bs.drop a) 0 0 = (0, z, k)) (hz : z ≤ m) (hs : bs.length - (a + k) < z) :
    Calls Try.prog 202 #[.pointer (some ⟨mb, 0, none⟩), .pointer (some ⟨rb, 0, none⟩), .pointer (some ⟨c, 0, none⟩)] w (Clo w p c 9 v bs a 10 0 (Just (.string { data := #[] }))) := by
  have b0 := hb.box
  have hk := (numL_front (bs.drop a)).1 (by rw [hr])
  have ht := number_any w p v bs a 0 h
  rw [hr] at ht hk
  simp only [List.length_drop] at hk
  clear hr
  have hwm := u64_wrap m (by omega)
  have here := h.here
  have hf : bs.length ≤ 1099511627776 := h.fits
  obtain ⟨ao, cap, rfl, hcap, hmax, -⟩ := h.row.open
  go_enter Try.func202, Try.ntmps202
  go_wp2_with fail
  refine ht.mono ?_
  rintro e w1 ⟨rfl, hR, hX⟩
  simp only at hR ⊢
  have m1 := hX.cell hm hmp
  have b1 := hX.cell b0 hb.boxp
  have c1 := hR.cells.cell 1 rfl
  have c2 := hR.cells.cell 2 rfl
  have hw2 : IntKind.u64.wrap ((bs.length : Int) - ((a + k : Nat) : Int)) = ((bs.length - (a + k) : Nat) : Int) := by
    rw [show ((bs.length : Int) - ((a + k : Nat) : Int)) = ((bs.length - (a + k) : Nat) : Int) from by omega]
    exact u64_wrap _ (by omega)
  have hw3 : IntKind.u64.wrap ((bs.length : Int) - ((a : Int) + (k : Int))) = ((bs.length - (a + k) : Nat) : Int) := by
    rw [show ((bs.length : Int) - ((a : Int) + (k : Int))) = ((bs.length - (a + k) : Nat) : Int) from by omega]
    exact u64_wrap _ (by omega)
  go_wp2_with fail
  go_quiet (fail)
  go_wp2_with fail
  go_ret
  exact ⟨rfl, _, _, hR.drewN _, by simp, (hb.cell.ext hX hb.cp).ext (F := Nil) ((Ext.refl _ _).drewN _) fun h => h, rfl, (hX.drewN _).mono fun _ _ h => .inl h⟩

set_option maxRecDepth 20000 in
theorem text_ok (w : World) (p : Nat) (v : Value) (bs : List UInt8) (a : Nat) (h : RdAt w p v bs a 0) (rb mb c : Nat) (hb : Beside w p v rb c 9 (.string { data := #[] })) (m : Nat) (hm : w.cell? ⟨mb, 0, none⟩ = some (.int .i64 m)) (hm63 : m ≤ 9223372036854775807) (hmp : mb ≠ p) (z k : Nat) (hr : numL (bs.drop a) 0 0 = (0, z, k)) (hz : z ≤ m) (hs : z ≤ bs.length - (a + k)) (B : List UInt8) (hB : (bs.drop (a + k)).take z = B) :
    Calls Try.prog 202 #[.pointer (some ⟨mb, 0, none⟩), .pointer (some ⟨rb, 0, none⟩), .pointer (some ⟨c, 0, none⟩)] w (Clo w p c 9 v bs a 0 (k + z) (Just (.string ⟨B.toArray⟩))) := by
  have b0 := hb.box
  have hk := (numL_front (bs.drop a)).1 (by rw [hr])
  have ht := number_any w p v bs a 0 h
  rw [hr] at ht hk
  simp only [List.length_drop] at hk
  clear hr
  have hwm := u64_wrap m (by omega)
  have here := h.here
  have hf : bs.length ≤ 1099511627776 := h.fits
  obtain ⟨ao, cap, rfl, hcap, hmax, -⟩ := h.row.open
  have hBl : Fits B.length := by
    have : B.length ≤ bs.length := by
      rw [← hB]
      simp
      omega
    unfold Fits; omega
  have HB := Lib.hid hB
  clear hB
  go_enter Try.func202, Try.ntmps202
  go_wp2_with fail
  refine ht.mono ?_
  rintro e w1 ⟨rfl, hR, hX⟩
  simp only at hR ⊢
  have m1 := hX.cell hm hmp
  have b1 := hX.cell b0 hb.boxp
  have c1 := hR.cells.cell 1 rfl
  have c2 := hR.cells.cell 2 rfl
  have hw2 : IntKind.u64.wrap ((bs.length : Int) - ((a + k : Nat) : Int)) = ((bs.length - (a + k) : Nat) : Int) := by
    rw [show ((bs.length : Int) - ((a + k : Nat) : Int)) = ((bs.length - (a + k) : Nat) : Int) from by omega]
    exact u64_wrap _ (by omega)
  have hw3 : IntKind.u64.wrap ((bs.length : Int) - ((a : Int) + (k : Int))) = ((bs.length - (a + k) : Nat) : Int) := by
    rw [show ((bs.length : Int) - ((a : Int) + (k : Int))) = ((bs.length - (a + k) : Nat) : Int) from by omega]
    exact u64_wrap _ (by omega)
  have hz63 : (z : Int) ≤ 1099511627776 := by omega
  go_wp2_with fail
  go_quiet (fail)
  go_wp2_with fail
  have htk := fun nq => take_ok _ p _ bs (a + k) 0 (hR.drewN nq) z (by omega)
  simp only [HB.out] at htk
  refine (htk _).mono ?_
  rintro e w2 ⟨ao2, cap2, k1, k2, rfl, hBy, hap, hlt, hR3, hX3⟩
  go_wp2_with fail
  refine (clone_any w2 _ B hBy hBl).mono ?_
  rintro e w3 ⟨ao3, cap3, k3, k4, rfl, ho, hst⟩
  have hX4 := (hX.drewN _).same hX3
  have hc2 := (hb.cell.ext hX4 hb.cp).ext hst.1 (fun h => h)
  have f1 := hc2.frozen 0
  have d1 := hc2.cell 0 rfl
  have hcv := run_toStr w3 _ B ho.bytes
  go_wp2_with fail
  go_ret
  exact clo_end rfl (hR3.ext hst.1 fun _ _ h => h) (fun _ => by omega) (hc2.set 0 _) hb.cp hb.cv rfl (hX4.trans hst.1 fun _ _ h => h.elim)
end Go.Proofs.Ytdgagpoeefbdjaa
