/- Contracts of codec.Reader's inner functions. Condition: the reader is one that NewReader made. -/
import Derived.Test.YtdgagpoeefbdjaaLent
import Derived.Laws.ByValue
import Derived.Laws.BitsAllLaws
namespace Go.Proofs.Ytdgagpoeefbdjaa
open Go.RowKit

/-- At p stands a reader that New made: its bytes (in the slice v), its place, its error. -/
structure RdAt (w : World) (p : Nat) (v : Value) (bs : List UInt8) (at_ : Nat) (err : Int) : Prop where
  cells : At w p 75 [.bool true, v, .int .i64 at_, .int .i64 err]
  row : Bytes w v bs
  apart : ¬ inFoot v p
  here : at_ ≤ bs.length
  fits : Fits bs.length
  lt : ∀ k, inFoot v k → k < w.heap.size

theorem RdAt.ext {F : Nat → Prop} {w w' : World} {p : Nat} {v : Value} {bs : List UInt8} {a : Nat} {err : Int} (h : RdAt w p v bs a err) (e : Ext F w w') (hf : ∀ k, PF p v k → ¬ F k) : RdAt w' p v bs a err :=
  ⟨h.cells.ext e (hf p (.inl rfl)), h.row.ext e fun k hk => hf k (.inr hk), h.apart, h.here, h.fits, fun k hk => Nat.lt_of_lt_of_le (h.lt k hk) e.size⟩
theorem RdAt.alloc {w : World} {p : Nat} {v : Value} {bs : List UInt8} {a : Nat} {err : Int} (h : RdAt w p v bs a err) (o : Obj) : RdAt (w.alloc o) p v bs a err :=
  h.ext (F := Nil) ((Ext.refl _ _).alloc o) fun _ _ h => h
theorem RdAt.set {w : World} {p : Nat} {v : Value} {bs : List UInt8} {a : Nat} {err : Int} (h : RdAt w p v bs a err) (a' : Nat) (ha : a' ≤ bs.length) :
    RdAt (w.setCell ⟨p, 2, none⟩ (.int .i64 a')) p v bs a' err :=
  ⟨h.cells.set 2 _, h.row.ext (F := One p) ((Ext.refl (One p) w).setCell (p := ⟨p, 2, none⟩) (fun _ => (rfl : p = p)) _) (fun k hk e => h.apart (by have e : k = p := e; rwa [e] at hk)), h.apart, ha, h.fits, by simpa [World.setCell] using h.lt⟩
theorem RdAt.setErr {w : World} {p : Nat} {v : Value} {bs : List UInt8} {a : Nat} {err : Int} (h : RdAt w p v bs a err) (e' : Int) :
    RdAt (w.setCell ⟨p, 3, none⟩ (.int .i64 e')) p v bs a e' :=
  ⟨h.cells.set 3 _, h.row.ext (F := One p) ((Ext.refl (One p) w).setCell (p := ⟨p, 3, none⟩) (fun _ => (rfl : p = p)) _) (fun k hk e => h.apart (by have e : k = p := e; rwa [e] at hk)), h.apart, h.here, h.fits, by simpa [World.setCell] using h.lt⟩
theorem RdAt.drewN {w : World} {p : Nat} {v : Value} {bs : List UInt8} {a : Nat} {err : Int} (h : RdAt w p v bs a err) (n : Nat) : RdAt (w.drewN n) p v bs a err :=
  h.ext (F := Nil) ((Ext.refl _ _).drewN n) fun _ _ h => h

/-- The end of 'take': a piece, its error, the reader behind it. -/
def Took (w : World) (p : Nat) (v : Value) (bs : List UInt8) (err : Int) (er : Int) (piece : List UInt8) (a' : Nat) (e : Ending) (w' : World) : Prop :=
  ∃ ao cap, piece.length ≤ cap ∧ cap ≤ maxLen ∧ e = .returned (.tuple #[.slice ao piece.length cap, .int .i64 er]) ∧ Bytes w' (.slice ao piece.length cap) piece ∧ ¬ inFoot (.slice ao piece.length cap) p ∧
    (∀ k, inFoot (.slice ao piece.length cap) k → k < w.heap.size) ∧ RdAt w' p v bs a' err ∧ Ext (One p) w w'

theorem Bytes.nil (w : World) : Bytes w (.slice none 0 0) [] := Own.reads (t := 5) (Own.nil _ _ _)

theorem took_none {w w' : World} {p : Nat} {v : Value} {bs : List UInt8} {err er : Int} {a : Nat} (h : RdAt w' p v bs a err) (hx : Ext (One p) w w') : Took w p v bs err er [] a (.returned (.tuple #[.slice none 0 0, .int .i64 er])) w' :=
  ⟨none, 0, Nat.le_refl _, by simp [maxLen], rfl, Bytes.nil _, by simp [inFoot, foot], fun k hk => by simp [inFoot, foot] at hk, h, hx⟩

/-- a piece of a slice -/
theorem Bytes.sub {w : World} {ao : Option Addr} {cap a n : Nat} {bs : List UInt8} (h : Bytes w (.slice ao bs.length cap) bs) (hc : a + n ≤ bs.length) (ao' : Option Addr) (ho : cap = a ∨ ao' = ao.map (fun x => x.add a)) :
    Bytes w (.slice ao' n (cap - a)) ((bs.drop a).take n) ∧ (∀ k, inFoot (.slice ao' n (cap - a)) k → inFoot (.slice ao bs.length cap) k) := by
  obtain ⟨ao0, cap0, e, hcap, hmax, hcell⟩ := h.open
  simp only [Value.slice.injEq, true_and] at e
  obtain ⟨rfl, rfl⟩ := e
  have hl : ((bs.drop a).take n).length = n := by simp; omega
  constructor
  · refine ⟨by simp only [bvs, List.length_map, Nat.mul_one], ao', cap - a, by rw [hl], by omega, by omega, fun hne => ?_⟩
    have hn : 0 < n := by
      rcases Nat.eq_zero_or_pos n with h0 | h0
      · subst h0; simp [bvs] at hne
      · exact h0
    obtain ⟨b, off, rfl, hcl⟩ := hcell (by intro e; subst e; simp at hc; omega)
    rcases ho with ho | ho
    · omega
    subst ho
    refine ⟨b, off + a, ?_, fun j u hu => ?_⟩
    · simp [Addr.add]
    · have hj : j < n := by
        have := (List.getElem?_eq_some_iff.1 hu).1
        simp [bvs] at this
        omega
      have := hcl (a + j) (by omega)
      rw [Nat.add_assoc, this, ← hu]
      simp [bvs, hj, List.getElem?_eq_getElem (show a + j < bs.length by omega)]
      rfl
  · intro k hk
    rcases ho with ho | ho
    · subst ho
      simp [inFoot, foot] at hk
    · subst ho
      cases ao with
      | none => simp [inFoot, foot] at hk
      | some x =>
        cases hca : cap - a with
        | zero => rw [hca] at hk; simp [inFoot, foot] at hk
        | succ c =>
          obtain ⟨c', rfl⟩ : ∃ c', cap = c' + 1 := ⟨cap - 1, by omega⟩
          rw [hca] at hk
          simp only [inFoot, foot, Option.map_some, Option.some.injEq] at hk ⊢
          rw [← hk]
          unfold Addr.add
          split <;> rfl

theorem took_some {w : World} {p : Nat} {ao : Option Addr} {cap a n : Nat} {bs : List UInt8} {err : Int} (h : RdAt w p (.slice ao bs.length cap) bs a err) (i k : Nat)
    (hc : a + n ≤ bs.length) (ao' : Option Addr) (ho : cap = a ∨ ao' = ao.map (fun x => x.add a)) :
    Took w p (.slice ao bs.length cap) bs err 0 ((bs.drop a).take n) (a + n) (.returned (.tuple #[.slice ao' n (cap - a), .int .i64 0])) (((w.drewN i).setCell ⟨p, 2, none⟩ (.int .i64 ((a : Int) + (n : Int)))).drewN k) := by
  have hl : ((bs.drop a).take n).length = n := by simp; omega
  have hw := ((h.drewN i).set (a + n) hc).drewN k
  rw [Int.natCast_add] at hw
  have hb := hw.row.sub hc ao' ho
  obtain ⟨ao0, cap0, e, hcap, hmax, -⟩ := h.row.open
  simp only [Value.slice.injEq, true_and] at e
  obtain ⟨rfl, rfl⟩ := e
  exact ⟨ao', cap - a, by omega, by omega, by rw [hl], by rw [hl]; exact hb.1, by rw [hl]; exact fun hk => h.apart (hb.2 p hk), by rw [hl]; exact fun k hk => h.lt k (hb.2 k hk), hw,
    (((Ext.refl (One p) w).drewN i).setCell (p := ⟨p, 2, none⟩) (fun _ => (rfl : p = p)) _).drewN k⟩

theorem take_neg (w : World) (p : Nat) (v : Value) (bs : List UInt8) (a : Nat) (err : Int) (h : RdAt w p v bs a err) (n : Int) (hn : n < 0) :
    Calls Try.prog 176 #[.pointer (some ⟨p, 0, none⟩), .int .i64 n] w (Took w p v bs err 2 [] a) := by
  go_enter Try.func176, Try.ntmps176
  go_wp2
  go_ret2
  exact took_none h (Ext.refl _ _)

theorem take_cut (w : World) (p : Nat) (v : Value) (bs : List UInt8) (a : Nat) (err : Int) (h : RdAt w p v bs a err) (n : Int) (hn : ¬ n < 0) (hm : n ≤ 9223372036854775807) (hc : (bs.length : Int) - a < n) :
    Calls Try.prog 176 #[.pointer (some ⟨p, 0, none⟩), .int .i64 n] w (Took w p v bs err 10 [] a) := by
  obtain ⟨ao, cap, rfl, hcap, hmax, -⟩ := h.row.open
  have c1 := h.cells.cell 1 rfl
  have c2 := h.cells.cell 2 rfl
  have hh := h.here
  have hf : bs.length ≤ 1099511627776 := h.fits
  go_enter Try.func176, Try.ntmps176
  go_wp2
  go_quiet (fail)
  go_wp2
  go_ret2
  exact took_none (h.drewN _) ((Ext.refl _ _).drewN _)

theorem take_ok (w : World) (p : Nat) (v : Value) (bs : List UInt8) (a : Nat) (err : Int) (h : RdAt w p v bs a err) (n : Nat) (hc : a + n ≤ bs.length) :
    Calls Try.prog 176 #[.pointer (some ⟨p, 0, none⟩), .int .i64 n] w (Took w p v bs err 0 ((bs.drop a).take n) (a + n)) := by
  obtain ⟨ao, cap, rfl, hcap, hmax, hcell⟩ := h.row.open
  have c1 := h.cells.cell 1 rfl
  have c2 := h.cells.cell 2 rfl
  have f2 := h.cells.frozen 2
  have hR := h.set (a + n) hc
  have d1 := hR.cells.cell 1 rfl
  have d2 := hR.cells.cell 2 rfl
  have hf : bs.length ≤ 1099511627776 := h.fits
  have HR := Lib.hid h
  go_enter Try.func176, Try.ntmps176
  go_wp2
  go_quiet (fail)
  go_wp2
  go_quiet (fail)
  go_wp2
  · have e : cap = a := by assumption
    go_ret2
    have ht := fun i k => took_some HR.out i k hc ao (.inl e)
    simp only [e, Nat.sub_self] at ht
    exact ht _ _
  · go_ret2
    exact took_some HR.out _ _ hc _ (.inr rfl)

/-! ### a number in groups -/

/-- a Var at the front: its error, the number, its length (k groups with the value z are read) -/
def numL : List UInt8 → Nat → Nat → Int × Nat × Nat
  | [], _, _ => (10, 0, 0)
  | c :: cs, k, z =>
    if (k = 9 ∧ 1 < c.toNat) ∨ (0 < k ∧ c.toNat = 0) then (11, 0, 0)
    else if c.toNat < 128 then (0, z + c.toNat % 128 * 128 ^ k, k + 1)
    else numL cs (k + 1) (z + c.toNat % 128 * 128 ^ k)

/-- The end of 'number'. -/
def Numbered (w : World) (p : Nat) (v : Value) (bs : List UInt8) (err : Int) (a : Nat) (r : Int × Nat × Nat) (e : Ending) (w' : World) : Prop :=
  e = .returned (.tuple #[.int .u64 r.2.1, .int .i64 r.1]) ∧ RdAt w' p v bs (a + r.2.2) err ∧ Ext (One p) w w'

theorem and_127_all : ∀ m : Fin 256, bits BinOp.and IntKind.u8 (m.val : Int) 127 = ((m.val % 128 : Nat) : Int) := by decide +kernel
theorem or_mul (a b i m : Nat) (hm : m = 2 ^ i) (h : a < m) : a ||| (b * m) = a + b * m := by
  subst hm
  rw [Nat.or_comm, ← Nat.shiftLeft_eq, ← Nat.shiftLeft_add_eq_or_of_lt h, Nat.add_comm]
theorem u64_wrap (n : Nat) (h : n < 18446744073709551616) : IntKind.u64.wrap (n : Int) = (n : Int) := by
  simp only [IntKind.wrap, IntKind.signed, IntKind.bits]
  simp
  omega

/-- one group more -/
theorem or_group (z k : Nat) (c : UInt8) (hk : k ≤ 9) (hz : z < 128 ^ k) (h9 : k = 9 → c.toNat ≤ 1) (m : Int) (hm : m = ((128 ^ k : Nat) : Int)) :
    bits BinOp.or IntKind.u64 (z : Int) (IntKind.u64.wrap (IntKind.u64.wrap (bits BinOp.and IntKind.u8 (c.toNat : Int) 127) * m)) = ((z + c.toNat % 128 * 128 ^ k : Nat) : Int) := by
  have h := and_127_all ⟨c.toNat, c.toNat_lt⟩
  simp only at h
  subst hm
  have h128 : c.toNat % 128 < 128 := Nat.mod_lt _ (by omega)
  have hp : (128 : Nat) ^ k ≤ 128 ^ 9 := Nat.pow_le_pow_right (by omega) hk
  have hlt : c.toNat % 128 * 128 ^ k < 18446744073709551616 := by
    rcases Nat.lt_or_ge k 9 with h | h
    · have h8 : (128 : Nat) ^ k ≤ 128 ^ 8 := Nat.pow_le_pow_right (by omega) (by omega)
      calc c.toNat % 128 * 128 ^ k ≤ 127 * 128 ^ 8 := Nat.mul_le_mul (by omega) h8
        _ < _ := by omega
    · have e : k = 9 := by omega
      have := h9 e
      subst e
      calc c.toNat % 128 * 128 ^ 9 ≤ 1 * 128 ^ 9 := Nat.mul_le_mul (by omega) (Nat.le_refl _)
        _ < _ := by omega
  rw [h, u64_wrap _ (by omega), ← Int.natCast_mul, u64_wrap _ hlt, u64_or_nat z _ (Nat.lt_of_lt_of_le hz (Nat.le_trans hp (by omega))) hlt, or_mul z _ (7 * k) (128 ^ k) (by rw [Nat.pow_mul]) hz]
theorem group_lt (z k : Nat) (c : UInt8) (hz : z < 128 ^ k) : z + c.toNat % 128 * 128 ^ k < 128 ^ (k + 1) := by
  have h128 : c.toNat % 128 < 128 := Nat.mod_lt _ (by omega)
  rw [Nat.pow_succ]
  have : c.toNat % 128 * 128 ^ k ≤ 127 * 128 ^ k := Nat.mul_le_mul (by omega) (Nat.le_refl _)
  omega

theorem pow2_7 (k : Nat) : (2 : Int) ^ (7 * k) = ((128 ^ k : Nat) : Int) := by
  rw [Int.pow_mul]
  simp
theorem numbered_at {w : World} {p : Nat} {v : Value} {bs : List UInt8} {err : Int} {a : Nat} {er : Int} {fin : Int × Nat × Nat} (h : RdAt w p v bs a err) (hf : fin = (er, 0, 0)) (n : Nat) :
    Numbered w p v bs err a fin (.returned (.tuple #[.int .u64 0, .int .i64 er])) (w.drewN n) := by
  subst hf
  exact ⟨rfl, h.drewN _, (Ext.refl _ _).drewN _⟩
theorem numbered_ok {w : World} {p : Nat} {v : Value} {bs : List UInt8} {err : Int} {a z k : Nat} {fin : Int × Nat × Nat} (h : RdAt w p v bs a err) (hf : fin = (0, z, k + 1)) (hk : a + k < bs.length) (n : Nat) (q : Int) (hq : q = (a : Int) + (k : Int) + 1 := by omega) :
    Numbered w p v bs err a fin (.returned (.tuple #[.int .u64 z, .int .i64 0])) ((w.drewN n).setCell ⟨p, 2, none⟩ (.int .i64 q)) := by
  subst hf
  have e : q = ((a + (k + 1) : Nat) : Int) := by omega
  subst e
  exact ⟨rfl, (h.drewN n).set _ (by omega), ((Ext.refl (One p) w).drewN n).setCell (p := ⟨p, 2, none⟩) (fun _ => (rfl : p = p)) _⟩

set_option maxRecDepth 20000 in
theorem number_any (w : World) (p : Nat) (v : Value) (bs : List UInt8) (a : Nat) (err : Int) (h : RdAt w p v bs a err) :
    Calls Try.prog 180 #[.pointer (some ⟨p, 0, none⟩)] w (Numbered w p v bs err a (numL (bs.drop a) 0 0)) := by
  obtain ⟨ao, cap, rfl, hcap, hmax, hcell⟩ := h.row.open
  have c1 := h.cells.cell 1 rfl
  have c2 := h.cells.cell 2 rfl
  have f2 := h.cells.frozen 2
  have hf : bs.length ≤ 1099511627776 := h.fits
  have hh := h.here
  generalize hfin : numL (bs.drop a) 0 0 = fin
  have HR := Lib.hid h
  clear h
  go_enter Try.func180, Try.ntmps180
  go_wp2
  go_step3
  go_wp2
  go_step3
  go_wp2
  go_loopw [4, 5] (fun vz vk wr => ∃ z k n : Nat, vz = .int .u64 z ∧ vk = .int .i64 k ∧ wr = w.drewN n ∧ k ≤ 9 ∧ z < 128 ^ k ∧ a + k ≤ bs.length ∧ numL (bs.drop (a + k)) k z = fin) (fun _ vk _ => 10 - (intOf vk).toNat)
  case atStart => exact ⟨0, 0, 0, rfl, rfl, rfl, by omega, by omega, by omega, hfin⟩
  case round =>
    obtain ⟨z, k, n, rfl, rfl, rfl, hk, hz, hak, hE⟩ := hrel
    clear hfin
    have HE := Lib.hid hE
    clear hE
    have HZ := Lib.hid hz
    clear hz
    by_cases hlt : a + k < bs.length
    · obtain ⟨b, off, rfl, hcl⟩ := hcell (by intro e; subst e; simp at hlt)
      have gx := hcl (a + k) hlt
      generalize hc : bs[a + k] = c at gx
      have HC := Lib.hid hc
      clear hc hcl hcell
      have hc255 := c.toNat_lt
      have hbad : (k = 9 ∧ 1 < c.toNat) ∨ (0 < k ∧ c.toNat = 0) → fin = (11, 0, 0) := fun hb => by
        have h := HE.out
        rw [List.drop_eq_getElem_cons hlt, HC.out, numL, if_pos hb] at h
        exact h.symm
      have hok : ¬ ((k = 9 ∧ 1 < c.toNat) ∨ (0 < k ∧ c.toNat = 0)) → c.toNat < 128 → fin = (0, z + c.toNat % 128 * 128 ^ k, k + 1) := fun hb hl => by
        have h := HE.out
        rw [List.drop_eq_getElem_cons hlt, HC.out, numL, if_neg hb, if_pos hl] at h
        exact h.symm
      have hmore : ¬ ((k = 9 ∧ 1 < c.toNat) ∨ (0 < k ∧ c.toNat = 0)) → ¬ c.toNat < 128 → numL (bs.drop (a + (k + 1))) (k + 1) (z + c.toNat % 128 * 128 ^ k) = fin := fun hb hl => by
        have h := HE.out
        rw [List.drop_eq_getElem_cons hlt, HC.out, numL, if_neg hb, if_neg hl] at h
        exact h
      have HB := Lib.hid hbad
      have HO := Lib.hid hok
      have HM := Lib.hid hmore
      clear hbad hok hmore
      have h0 : (((c.toNat : Int) == 0) = true ∧ Hid (c.toNat = 0)) ∨ (((c.toNat : Int) == 0) = false ∧ Hid (0 < c.toNat)) := by
        rcases Nat.eq_zero_or_pos c.toNat with h | h
        · exact .inl ⟨by simp [h], Lib.hid h⟩
        · exact .inr ⟨by simp; omega, Lib.hid h⟩
      rcases h0 with ⟨hq, HZ0⟩ | ⟨hq, HZ0⟩
      all_goals
        go_wp2
        go_quiet (fail)
        go_wp2
        go_quiet (fail)
        go_wp2
      all_goals (try rw [Exit.noGoto_ret])
      all_goals (have H0 := HZ0.out)
      all_goals first
        | (go_ret2; exact numbered_at HR.out (HB.out (by omega)) _)
        | (have hk9 : k = 9 := by omega
           subst hk9
           go_ret2
           rw [or_group z 9 c (by omega) HZ.out (by omega) _ (by rfl)]
           exact numbered_ok HR.out (HO.out (by omega) (by omega)) (by omega) _ _)
        | (go_ret2
           rw [or_group z k c hk HZ.out (by omega) _ (pow2_7 k)]
           exact numbered_ok HR.out (HO.out (by omega) (by omega)) (by omega) _ _)
        | (rw [or_group z k c hk HZ.out (by omega) _ (pow2_7 k)]
           exact ⟨⟨_, k + 1, _, rfl, by go_num, rfl, by omega, group_lt z k c HZ.out, by omega, HM.out (by omega) (by omega)⟩, by simp [intOf]; omega⟩)
    · go_wp2
      go_quiet (fail)
      go_wp2
      all_goals (try rw [Exit.noGoto_ret])
      go_ret2
      have e : fin = (10, 0, 0) := by
        have h := HE.out
        rw [List.drop_of_length_le (by omega), numL] at h
        exact h.symm
      subst e
      exact ⟨rfl, (HR.out.drewN _).drewN _, ((Ext.refl _ _).drewN _).drewN _⟩
end Go.Proofs.Ytdgagpoeefbdjaa
