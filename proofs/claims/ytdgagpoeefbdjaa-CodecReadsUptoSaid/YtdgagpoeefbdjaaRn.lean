/- Contracts of codec.Reader's closures: Count. Condition: the reader is one that NewReader made. -/
import Derived.Test.YtdgagpoeefbdjaaRt
import Derived.Lib.Mul64
import Derived.Laws.BitsAllLaws
namespace Go.Proofs.Ytdgagpoeefbdjaa
open Go.RowKit

theorem maskN (a : Nat) (ha : a < 18446744073709551616) : bits .and .u64 (a : Int) 4294967295 = ((a % 4294967296 : Nat) : Int) := by
  have h := u64_and_nat a 4294967295 ha (by omega)
  have e : a &&& 4294967295 = a % 4294967296 := Nat.and_two_pow_sub_one_eq_mod a 32
  rw [e] at h
  exact h
theorem divN (a : Nat) : (a : Int) / 4294967296 = ((a / 4294967296 : Nat) : Int) := by omega
theorem mulN (a b : Nat) : (a : Int) * (b : Int) = ((a * b : Nat) : Int) := (Int.natCast_mul a b).symm
theorem addN (a b : Nat) : (a : Int) + (b : Int) = ((a + b : Nat) : Int) := (Int.natCast_add a b).symm
theorem wrapM (a : Nat) : IntKind.u64.wrap (a : Int) = ((a % 18446744073709551616 : Nat) : Int) := by
  simp only [IntKind.wrap, IntKind.signed, IntKind.bits]
  simp

set_option maxHeartbeats 1000000 in
theorem mul64_any (x y : Nat) (hx : x < 18446744073709551616) (hy : y < 18446744073709551616) (w : World) :
    Calls Try.prog 185 #[.int .u64 x, .int .u64 y] w fun e w' => e = .returned (.tuple #[.int .u64 ((x * y / 18446744073709551616 : Nat) : Int), .int .u64 ((x * y % 18446744073709551616 : Nat) : Int)]) ∧ w' = w := by
  obtain ⟨bd, bt, bw, hhi⟩ := Lib.mul64_hi x y hx hy
  have ba := Lib.half_mul_le (a := x / 4294967296) (b := y / 4294967296) (by omega) (by omega)
  have bb := Lib.half_mul_le (a := x / 4294967296) (b := y % 4294967296) (by omega) (by omega)
  have bc := Lib.half_mul_le (a := x % 4294967296) (b := y / 4294967296) (by omega) (by omega)
  have ba' : x / 4294967296 * (y / 4294967296) < 18446744073709551616 := by omega
  have bb' : x / 4294967296 * (y % 4294967296) < 18446744073709551616 := by omega
  have bc' : x % 4294967296 * (y / 4294967296) < 18446744073709551616 := by omega
  have bh1 : x / 4294967296 * (y / 4294967296) + (x / 4294967296 * (y % 4294967296) + x % 4294967296 * (y % 4294967296) / 4294967296) / 4294967296 < 18446744073709551616 := by omega
  have bh : x / 4294967296 * (y / 4294967296) + (x / 4294967296 * (y % 4294967296) + x % 4294967296 * (y % 4294967296) / 4294967296) / 4294967296 + ((x / 4294967296 * (y % 4294967296) + x % 4294967296 * (y % 4294967296) / 4294967296) % 4294967296 + x % 4294967296 * (y / 4294967296)) / 4294967296 < 18446744073709551616 := by omega
  go_enter Try.func185, Try.ntmps185
  go_wp2
  simp only [maskN x hx, maskN y hy, divN, mulN, addN, u64_wrap _ bd, u64_wrap _ bb', u64_wrap _ bt, maskN _ bt, u64_wrap _ bc', u64_wrap _ bw, u64_wrap _ ba', u64_wrap _ bh1, u64_wrap _ bh, wrapM (x * y)]
  rw [hhi]
  go_ret2
  exact ⟨rfl, rfl⟩

theorem mul64_small (x y : Nat) (hx : x < 18446744073709551616) (hy : y < 18446744073709551616) (h : x * y < 18446744073709551616) (w : World) :
    Calls Try.prog 185 #[.int .u64 x, .int .u64 y] w fun e w' => e = .returned (.tuple #[.int .u64 0, .int .u64 ((x * y : Nat) : Int)]) ∧ w' = w := by
  have := mul64_any x y hx hy w
  rw [Nat.div_eq_of_lt h, Nat.mod_eq_of_lt h] at this
  exact this

theorem count_neg (w : World) (p : Nat) (v : Value) (bs : List UInt8) (a : Nat) (h : RdAt w p v bs a 0) (rb mb lb c : Nat) (hb : Beside w p v rb c 3 (.int .i64 0)) (m l : Int) (hm : w.cell? ⟨mb, 0, none⟩ = some (.int .i64 m)) (hl : w.cell? ⟨lb, 0, none⟩ = some (.int .i64 l)) (h0 : m < 0 ∨ l < 0) :
    Calls Try.prog 184 #[.pointer (some ⟨mb, 0, none⟩), .pointer (some ⟨lb, 0, none⟩), .pointer (some ⟨rb, 0, none⟩), .pointer (some ⟨c, 0, none⟩)] w (Clo w p c 3 v bs a 2 0 (Just (.int .i64 0))) := by
  by_cases hm0 : m < 0
  · clear h0
    go_enter Try.func184, Try.ntmps184
    go_wp2_with fail
    go_ret
    exact ⟨rfl, a, _, h, by simp, hb.cell, rfl, Ext.refl _ _⟩
  · have hl0 : l < 0 := h0.resolve_left hm0
    clear h0
    go_enter Try.func184, Try.ntmps184
    go_wp2_with fail
    go_ret
    exact ⟨rfl, a, _, h, by simp, hb.cell, rfl, Ext.refl _ _⟩

set_option maxRecDepth 20000 in
theorem count_num (w : World) (p : Nat) (v : Value) (bs : List UInt8) (a : Nat) (h : RdAt w p v bs a 0) (rb mb lb c : Nat) (hb : Beside w p v rb c 3 (.int .i64 0)) (m l : Nat) (hm : w.cell? ⟨mb, 0, none⟩ = some (.int .i64 m)) (hl : w.cell? ⟨lb, 0, none⟩ = some (.int .i64 l)) (er : Int) (z k : Nat) (hr : numL (bs.drop a) 0 0 = (er, z, k)) (he : er ≠ 0) :
    Calls Try.prog 184 #[.pointer (some ⟨mb, 0, none⟩), .pointer (some ⟨lb, 0, none⟩), .pointer (some ⟨rb, 0, none⟩), .pointer (some ⟨c, 0, none⟩)] w (Clo w p c 3 v bs a er 0 (Just (.int .i64 0))) := by
  have b0 := hb.box
  have ht := number_any w p v bs a 0 h
  rw [hr] at ht
  clear hr
  have hne : (er != 0) = true := by rw [bne_iff_ne]; exact he
  have HE := Lib.hid he
  clear he
  go_enter Try.func184, Try.ntmps184
  go_wp2_with fail
  refine ht.mono ?_
  rintro e w1 ⟨rfl, hR, hX⟩
  simp only at hR ⊢
  go_wp2_with fail
  go_ret
  exact ⟨rfl, _, _, hR, fun e => absurd e HE.out, hb.cell.ext hX hb.cp, rfl, hX.mono fun _ _ h => .inl h⟩

set_option maxRecDepth 20000 in
theorem count_over (w : World) (p : Nat) (v : Value) (bs : List UInt8) (a : Nat) (h : RdAt w p v bs a 0) (rb mb lb c : Nat) (hb : Beside w p v rb c 3 (.int .i64 0)) (m l : Nat) (hm : w.cell? ⟨mb, 0, none⟩ = some (.int .i64 m)) (hl : w.cell? ⟨lb, 0, none⟩ = some (.int .i64 l)) (hm63 : m ≤ 9223372036854775807) (hmp : mb ≠ p) (z k : Nat) (hr : numL (bs.drop a) 0 0 = (0, z, k)) (hz : m < z) :
    Calls Try.prog 184 #[.pointer (some ⟨mb, 0, none⟩), .pointer (some ⟨lb, 0, none⟩), .pointer (some ⟨rb, 0, none⟩), .pointer (some ⟨c, 0, none⟩)] w (Clo w p c 3 v bs a 12 0 (Just (.int .i64 0))) := by
  have b0 := hb.box
  have ht := number_any w p v bs a 0 h
  rw [hr] at ht
  clear hr
  have hwm := u64_wrap m (by omega)
  go_enter Try.func184, Try.ntmps184
  go_wp2_with fail
  refine ht.mono ?_
  rintro e w1 ⟨rfl, hR, hX⟩
  simp only at hR ⊢
  have m1 := hX.cell hm hmp
  go_wp2_with fail
  go_ret
  exact ⟨rfl, _, _, hR, by simp, hb.cell.ext hX hb.cp, rfl, hX.mono fun _ _ h => .inl h⟩

set_option maxRecDepth 20000 in
theorem count_big (w : World) (p : Nat) (v : Value) (bs : List UInt8) (a : Nat) (h : RdAt w p v bs a 0) (rb mb lb c : Nat) (hb : Beside w p v rb c 3 (.int .i64 0)) (m l : Nat) (hm : w.cell? ⟨mb, 0, none⟩ = some (.int .i64 m)) (hl : w.cell? ⟨lb, 0, none⟩ = some (.int .i64 l)) (hm63 : m ≤ 9223372036854775807) (hl63 : l ≤ 9223372036854775807) (hmp : mb ≠ p) (hlp : lb ≠ p) (z k : Nat) (hr : numL (bs.drop a) 0 0 = (0, z, k)) (hz : z ≤ m) (hs : 18446744073709551616 ≤ z * l) :
    Calls Try.prog 184 #[.pointer (some ⟨mb, 0, none⟩), .pointer (some ⟨lb, 0, none⟩), .pointer (some ⟨rb, 0, none⟩), .pointer (some ⟨c, 0, none⟩)] w (Clo w p c 3 v bs a 10 0 (Just (.int .i64 0))) := by
  have b0 := hb.box
  have ht := number_any w p v bs a 0 h
  rw [hr] at ht
  clear hr
  have hwm := u64_wrap m (by omega)
  have hwl := u64_wrap l (by omega)
  have hq : 0 < z * l / 18446744073709551616 := Nat.div_pos hs (by omega)
  have hmul := fun w => mul64_any z l (by omega) (by omega) w
  generalize z * l / 18446744073709551616 = q at hmul hq
  generalize z * l % 18446744073709551616 = q2 at hmul
  clear hs
  have hd : decide ((0 : Int) < (q : Int)) = true := decide_eq_true (by omega)
  go_enter Try.func184, Try.ntmps184
  go_wp2_with fail
  refine ht.mono ?_
  rintro e w1 ⟨rfl, hR, hX⟩
  simp only at hR ⊢
  have m1 := hX.cell hm hmp
  have l1 := hX.cell hl hlp
  have b1 := hX.cell b0 hb.boxp
  go_wp2_with fail
  refine (hmul _).mono ?_
  rintro e w2 ⟨rfl, rfl⟩
  go_wp2_with fail
  go_quiet (fail)
  go_wp2_with fail
  go_ret
  exact ⟨rfl, _, _, hR.drewN _, by simp, (hb.cell.ext hX hb.cp).ext (F := Nil) ((Ext.refl _ _).drewN _) fun h => h, rfl, (hX.drewN _).mono fun _ _ h => .inl h⟩

set_option maxRecDepth 20000 in
theorem count_short (w : World) (p : Nat) (v : Value) (bs : List UInt8) (a : Nat) (h : RdAt w p v bs a 0) (rb mb lb c : Nat) (hb : Beside w p v rb c 3 (.int .i64 0)) (m l : Nat) (hm : w.cell? ⟨mb, 0, none⟩ = some (.int .i64 m)) (hl : w.cell? ⟨lb, 0, none⟩ = some (.int .i64 l)) (hm63 : m ≤ 9223372036854775807) (hl63 : l ≤ 9223372036854775807) (hmp : mb ≠ p) (hlp : lb ≠ p) (z k : Nat) (hr : numL (bs.drop a) 0 0 = (0, z, k)) (hz : z ≤ m) (hq : z * l < 18446744073709551616) (hs : bs.length - (a + k) < z * l) :
    Calls Try.prog 184 #[.pointer (some ⟨mb, 0, none⟩), .pointer (some ⟨lb, 0, none⟩), .pointer (some ⟨rb, 0, none⟩), .pointer (some ⟨c, 0, none⟩)] w (Clo w p c 3 v bs a 10 0 (Just (.int .i64 0))) := by
  have b0 := hb.box
  have hk := (numL_front (bs.drop a)).1 (by rw [hr])
  have ht := number_any w p v bs a 0 h
  rw [hr] at ht hk
  simp only [List.length_drop] at hk
  clear hr
  have hwm := u64_wrap m (by omega)
  have hwl := u64_wrap l (by omega)
  have hmul := fun w => mul64_small z l (by omega) (by omega) hq w
  generalize z * l = q at hmul hq hs
  have here := h.here
  have hf : bs.length ≤ 1099511627776 := h.fits
  obtain ⟨ao, cap, rfl, hcap, hmax, -⟩ := h.row.open
  go_enter Try.func184, Try.ntmps184
  go_wp2_with fail
  refine ht.mono ?_
  rintro e w1 ⟨rfl, hR, hX⟩
  simp only at hR ⊢
  have m1 := hX.cell hm hmp
  have l1 := hX.cell hl hlp
  have b1 := hX.cell b0 hb.boxp
  have c1 := hR.cells.cell 1 rfl
  have c2 := hR.cells.cell 2 rfl
  have hw2 : IntKind.u64.wrap ((bs.length : Int) - ((a + k : Nat) : Int)) = ((bs.length - (a + k) : Nat) : Int) := by
    rw [show ((bs.length : Int) - ((a + k : Nat) : Int)) = ((bs.length - (a + k) : Nat) : Int) from by omega]
    exact u64_wrap _ (by omega)
  have hw3 : IntKind.u64.wrap ((bs.length : Int) - ((a : Int) + (k : Int))) = ((bs.length - (a + k) : Nat) : Int) := by
    rw [show ((bs.length : Int) - ((a : Int) + (k : Int))) = ((bs.length - (a + k) : Nat) : Int) from by omega]
    exact u64_wrap _ (by omega)
  go_wp2_with fail
  refine (hmul _).mono ?_
  rintro e w2 ⟨rfl, rfl⟩
  go_wp2_with fail
  go_quiet (fail)
  go_wp2_with fail
  go_ret
  exact ⟨rfl, _, _, hR.drewN _, by simp, (hb.cell.ext hX hb.cp).ext (F := Nil) ((Ext.refl _ _).drewN _) fun h => h, rfl, (hX.drewN _).mono fun _ _ h => .inl h⟩

set_option maxRecDepth 20000 in
theorem count_ok (w : World) (p : Nat) (v : Value) (bs : List UInt8) (a : Nat) (h : RdAt w p v bs a 0) (rb mb lb c : Nat) (hb : Beside w p v rb c 3 (.int .i64 0)) (m l : Nat) (hm : w.cell? ⟨mb, 0, none⟩ = some (.int .i64 m)) (hl : w.cell? ⟨lb, 0, none⟩ = some (.int .i64 l)) (hm63 : m ≤ 9223372036854775807) (hl63 : l ≤ 9223372036854775807) (hmp : mb ≠ p) (hlp : lb ≠ p) (z k : Nat) (hr : numL (bs.drop a) 0 0 = (0, z, k)) (hz : z ≤ m) (hq : z * l < 18446744073709551616) (hs : z * l ≤ bs.length - (a + k)) :
    Calls Try.prog 184 #[.pointer (some ⟨mb, 0, none⟩), .pointer (some ⟨lb, 0, none⟩), .pointer (some ⟨rb, 0, none⟩), .pointer (some ⟨c, 0, none⟩)] w (Clo w p c 3 v bs a 0 k (Just (.int .i64 z))) := by
  have b0 := hb.box
  have hk := (numL_front (bs.drop a)).1 (by rw [hr])
  have ht := number_any w p v bs a 0 h
  rw [hr] at ht hk
  simp only [List.length_drop] at hk
  clear hr
  have hwm := u64_wrap m (by omega)
  have hwl := u64_wrap l (by omega)
  have hmul := fun w => mul64_small z l (by omega) (by omega) hq w
  generalize z * l = q at hmul hq hs
  have here := h.here
  have hf : bs.length ≤ 1099511627776 := h.fits
  have hz63 : (z : Int) ≤ 9223372036854775807 := by omega
  obtain ⟨ao, cap, rfl, hcap, hmax, -⟩ := h.row.open
  go_enter Try.func184, Try.ntmps184
  go_wp2_with fail
  refine ht.mono ?_
  rintro e w1 ⟨rfl, hR, hX⟩
  simp only at hR ⊢
  have m1 := hX.cell hm hmp
  have l1 := hX.cell hl hlp
  have b1 := hX.cell b0 hb.boxp
  have c1 := hR.cells.cell 1 rfl
  have c2 := hR.cells.cell 2 rfl
  have hc2 := hb.cell.ext hX hb.cp
  have f1 := hc2.frozen 0
  have d1 := hc2.cell 0 rfl
  have hw2 : IntKind.u64.wrap ((bs.length : Int) - ((a + k : Nat) : Int)) = ((bs.length - (a + k) : Nat) : Int) := by
    rw [show ((bs.length : Int) - ((a + k : Nat) : Int)) = ((bs.length - (a + k) : Nat) : Int) from by omega]
    exact u64_wrap _ (by omega)
  have hw3 : IntKind.u64.wrap ((bs.length : Int) - ((a : Int) + (k : Int))) = ((bs.length - (a + k) : Nat) : Int) := by
    rw [show ((bs.length : Int) - ((a : Int) + (k : Int))) = ((bs.length - (a + k) : Nat) : Int) from by omega]
    exact u64_wrap _ (by omega)
  go_wp2_with fail
  refine (hmul _).mono ?_
  rintro e w2 ⟨rfl, rfl⟩
  go_wp2_with fail
  go_quiet (fail)
  go_wp2_with fail
  go_ret
  exact clo_end rfl (hR.drewN _) (fun _ => rfl) ((hc2.ext (F := Nil) ((Ext.refl _ _).drewN _) fun h => h).set 0 _) hb.cp hb.cv rfl (hX.drewN _)
end Go.Proofs.Ytdgagpoeefbdjaa
