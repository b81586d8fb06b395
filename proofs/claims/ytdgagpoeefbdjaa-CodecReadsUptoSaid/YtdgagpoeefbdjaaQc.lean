/- Contracts of the document's reader: Byte, Bool, U32, U64, Raw. Condition: the reader is one that New made. -/
import Derived.Test.YtdgagpoeefbdjaaQb
import Derived.Test.YtdgagpoeefbdjaaRl
namespace Go.Proofs.Ytdgagpoeefbdjaa
open Go.RowKit

theorem qend_off {w w' : World} {q : Nat} {v : Value} {bs : List UInt8} {a : Nat} {err : Int} (h : QAt w q v bs a err) (he : err ≠ 0) (K A B : Int) (u : Value) (e : Ext Nil w w') : QEnd w q v bs a (rdE err K A B (bs.drop a)) u (.returned u) w' := by
  rw [show rdE err K A B (bs.drop a) = (err, 0, 0, []) from if_neg he]
  exact ⟨rfl, h.nil e, e.mono fun _ _ h => h.elim⟩
theorem rdE_on (K A B : Int) (rest : List UInt8) : rdE 0 K A B rest = rdD K A B rest := if_pos rfl
theorem rdE_off {err : Int} (he : err ≠ 0) (K A B : Int) (rest : List UInt8) : rdE err K A B rest = (err, 0, 0, []) := if_neg he

set_option maxRecDepth 20000 in
theorem qbyte (w : World) (q : Nat) (v : Value) (bs : List UInt8) (a : Nat) (err : Int) (h : QAt w q v bs a err) :
    Calls Try.prog 126 #[.pointer (some ⟨q, 0, none⟩)] w (QEnd w q v bs a (rdE err 0 0 0 (bs.drop a)) (.int .u8 ((rdE err 0 0 0 (bs.drop a)).2.2.1 : Nat))) := by
  by_cases he : err = 0
  · subst he
    rw [rdE_on]
    show Calls _ _ _ _ (QEnd w q v bs a (rd0 (bs.drop a)) (.int .u8 ((rd0 (bs.drop a)).2.2.1 : Nat)))
    rcases hr : bs.drop a with _ | ⟨x, t⟩
    · have hl := drop_nil' hr
      have hcut := qtake_cut w q v bs a h 1 (by omega) (by omega)
      go_enter Try.func126, Try.ntmps126
      go_wp2_with (go_at_call 186; refine hcut.mono ?_; rintro e w' ⟨rfl, h1, h2⟩)
      go_ret
      exact ⟨rfl, h1, h2⟩
    · have hp := drop_one hr
      have hl : a + 1 ≤ bs.length := by have := congrArg List.length hr; simp at this; omega
      have htk := qtake_ok w q v bs a h 1 hl
      rw [hp] at htk
      go_enter Try.func126, Try.ntmps126
      go_wp2_with fail
      refine htk.mono ?_
      rintro e w1 ⟨ao, cap, p1, p2, rfl, ho, hf, hq, hx⟩
      obtain ⟨g, c, cs, rfl, rfl, -, -, -⟩ := ho.head (by simp)
      have b0 := (ho.at 0 (by simp)).1
      simp only [List.getElem_cons_zero] at b0
      go_wp2_with fail
      go_ret
      exact ⟨rfl, hq, hx⟩
  · rw [rdE_off he]
    go_enter Try.func126, Try.ntmps126
    go_wp2_with (first
      | (go_at_call 186; refine (qtake_off w q v bs a err h he _).mono ?_; rintro e w' ⟨rfl, rfl⟩))
    go_ret
    exact ⟨rfl, h, Ext.refl _ _⟩

set_option maxRecDepth 20000 in
theorem qbool (w : World) (q : Nat) (v : Value) (bs : List UInt8) (a : Nat) (err : Int) (h : QAt w q v bs a err) :
    Calls Try.prog 127 #[.pointer (some ⟨q, 0, none⟩)] w (QEnd w q v bs a (rdE err 1 0 0 (bs.drop a)) (.bool ((rdE err 1 0 0 (bs.drop a)).2.2.1 == 1))) := by
  by_cases he : err = 0
  · subst he
    rw [rdE_on]
    show Calls _ _ _ _ (QEnd w q v bs a (rd1 (bs.drop a)) (.bool ((rd1 (bs.drop a)).2.2.1 == 1)))
    rcases hr : bs.drop a with _ | ⟨x, t⟩
    · have hl := drop_nil' hr
      have hcut := qtake_cut w q v bs a h 1 (by omega) (by omega)
      go_enter Try.func127, Try.ntmps127
      go_wp2_with (go_at_call 186; refine hcut.mono ?_; rintro e w' ⟨rfl, h1, h2⟩)
      go_ret
      exact ⟨rfl, h1, h2⟩
    · have hp := drop_one hr
      have hl : a + 1 ≤ bs.length := by have := congrArg List.length hr; simp at this; omega
      have htk := qtake_ok w q v bs a h 1 hl
      rw [hp] at htk
      by_cases hx1 : x.toNat ≤ 1
      · rw [show rd1 (x :: t) = (0, 1, x.toNat, []) from if_pos hx1]
        have hb1 : ¬ (1 : Int) < (x.toNat : Int) := by omega
        have hb2 : ((x.toNat : Int) == 1) = (x.toNat == 1) := by
          have : x.toNat = 0 ∨ x.toNat = 1 := by omega
          rcases this with h | h <;> rw [h] <;> rfl
        go_enter Try.func127, Try.ntmps127
        go_wp2_with fail
        refine htk.mono ?_
        rintro e w1 ⟨ao, cap, p1, p2, rfl, ho, hf, hq, hx⟩
        obtain ⟨g, c, cs, rfl, rfl, -, -, -⟩ := ho.head (by simp)
        have b0 := (ho.at 0 (by simp)).1
        simp only [List.getElem_cons_zero] at b0
        generalize x.toNat = xn at *
        go_wp2_with fail
        go_ret
        exact ⟨rfl, hq, hx⟩
      · rw [show rd1 (x :: t) = (11, 0, 0, []) from if_neg hx1]
        have hb1 : (1 : Int) < (x.toNat : Int) := by omega
        go_enter Try.func127, Try.ntmps127
        go_wp2_with fail
        refine htk.mono ?_
        rintro e w1 ⟨ao, cap, p1, p2, rfl, ho, hf, hq, hx⟩
        obtain ⟨g, c, cs, rfl, rfl, -, -, -⟩ := ho.head (by simp)
        have b0 := (ho.at 0 (by simp)).1
        simp only [List.getElem_cons_zero] at b0
        have c1 := hq.cells.cell 1 rfl
        have f1 := hq.cells.frozen 1
        have f2 := hq.cells.frozen 2
        have c2 := hq.cells.cell 2 rfl
        have hf0 : bs.length ≤ 1099511627776 := h.fits
        have hset := (hq.set a (by omega)).setErr 11
        have hX := (hx.trans (ext_set w1 q 1 (.int .i64 a)) fun _ _ h => h).trans (ext_set _ q 2 (.int .i64 11)) fun _ _ h => h
        have hsub : ((a + 1 : Nat) : Int) - 1 = (a : Int) := by omega
        generalize x.toNat = xn at *
        go_wp2_with fail
        go_ret
        exact ⟨rfl, hset, hX⟩
  · rw [rdE_off he]
    go_enter Try.func127, Try.ntmps127
    go_wp2_with (first
      | (go_at_call 186; refine (qtake_off w q v bs a err h he _).mono ?_; rintro e w' ⟨rfl, rfl⟩))
    go_ret
    exact ⟨rfl, h, Ext.refl _ _⟩

set_option maxRecDepth 20000 in
theorem qu32 (w : World) (q : Nat) (v : Value) (bs : List UInt8) (a : Nat) (err : Int) (h : QAt w q v bs a err) :
    Calls Try.prog 128 #[.pointer (some ⟨q, 0, none⟩)] w (QEnd w q v bs a (rdE err 2 0 0 (bs.drop a)) (.int .u32 ((rdE err 2 0 0 (bs.drop a)).2.2.1 : Nat))) := by
  by_cases he : err = 0
  · subst he
    rw [rdE_on]
    show Calls _ _ _ _ (QEnd w q v bs a (rdF 4 (bs.drop a)) (.int .u32 ((rdF 4 (bs.drop a)).2.2.1 : Nat)))
    by_cases hl : 4 ≤ (bs.drop a).length
    · rw [show rdF 4 (bs.drop a) = (0, 4, leN ((bs.drop a).take 4), []) from if_pos hl]
      have hl2 : a + 4 ≤ bs.length := by rw [drop_len] at hl; have := h.here; omega
      have htk := qtake_ok w q v bs a h 4 hl2
      have hlt := leN_lt ((bs.drop a).take 4)
      have hpl : ((bs.drop a).take 4).length = 4 := by simp; omega
      rw [hpl] at hlt
      generalize (bs.drop a).take 4 = P at *
      go_enter Try.func128, Try.ntmps128
      go_wp2_with fail
      refine htk.mono ?_
      rintro e w1 ⟨ao, cap, p1, p2, rfl, ho, hf, hq, hx⟩
      have hnum := qnumber_any w1 _ P (by rw [← hpl] at ho; exact ho.bytes) (by omega)
      rw [hpl] at hnum
      generalize leN P = z at *
      go_wp2_with (go_at_call 187; refine hnum.mono ?_; rintro e w' ⟨rfl, nn, rfl⟩)
      go_ret
      exact ⟨ret_int (by omega), hq.drewN _, hx.drewN _⟩
    · rw [show rdF 4 (bs.drop a) = (10, 0, 0, []) from if_neg hl]
      have hcut := qtake_cut w q v bs a h 4 (by omega) (by rw [drop_len] at hl; have := h.here; omega)
      go_enter Try.func128, Try.ntmps128
      go_wp2_with fail
      refine hcut.mono ?_
      rintro e w1 ⟨rfl, hq, hx⟩
      go_wp2_with (go_at_call 187; refine (qnumber_any w1 _ [] (Bytes.nil _) (by simp)).mono ?_; rintro e w' ⟨rfl, nn, rfl⟩)
      go_ret
      exact ⟨rfl, hq.drewN _, hx.drewN _⟩
  · rw [rdE_off he]
    go_enter Try.func128, Try.ntmps128
    go_wp2_with fail
    refine (qtake_off w q v bs a err h he _).mono ?_
    rintro e w' ⟨rfl, rfl⟩
    go_wp2_with (go_at_call 187; refine (qnumber_any w _ [] (Bytes.nil _) (by simp)).mono ?_; rintro e w' ⟨rfl, nn, rfl⟩)
    go_ret
    exact ⟨rfl, h.drewN _, (Ext.refl _ _).drewN _⟩

set_option maxRecDepth 20000 in
theorem qu64 (w : World) (q : Nat) (v : Value) (bs : List UInt8) (a : Nat) (err : Int) (h : QAt w q v bs a err) :
    Calls Try.prog 129 #[.pointer (some ⟨q, 0, none⟩)] w (QEnd w q v bs a (rdE err 3 0 0 (bs.drop a)) (.int .u64 ((rdE err 3 0 0 (bs.drop a)).2.2.1 : Nat))) := by
  by_cases he : err = 0
  · subst he
    rw [rdE_on]
    show Calls _ _ _ _ (QEnd w q v bs a (rdF 8 (bs.drop a)) (.int .u64 ((rdF 8 (bs.drop a)).2.2.1 : Nat)))
    by_cases hl : 8 ≤ (bs.drop a).length
    · rw [show rdF 8 (bs.drop a) = (0, 8, leN ((bs.drop a).take 8), []) from if_pos hl]
      have hl2 : a + 8 ≤ bs.length := by rw [drop_len] at hl; have := h.here; omega
      have htk := qtake_ok w q v bs a h 8 hl2
      have hlt := leN_lt ((bs.drop a).take 8)
      have hpl : ((bs.drop a).take 8).length = 8 := by simp; omega
      rw [hpl] at hlt
      generalize (bs.drop a).take 8 = P at *
      go_enter Try.func129, Try.ntmps129
      go_wp2_with fail
      refine htk.mono ?_
      rintro e w1 ⟨ao, cap, p1, p2, rfl, ho, hf, hq, hx⟩
      have hnum := qnumber_any w1 _ P (by rw [← hpl] at ho; exact ho.bytes) (by omega)
      rw [hpl] at hnum
      generalize leN P = z at *
      go_wp2_with (go_at_call 187; refine hnum.mono ?_; rintro e w' ⟨rfl, nn, rfl⟩)
      go_ret
      exact ⟨rfl, hq.drewN _, hx.drewN _⟩
    · rw [show rdF 8 (bs.drop a) = (10, 0, 0, []) from if_neg hl]
      have hcut := qtake_cut w q v bs a h 8 (by omega) (by rw [drop_len] at hl; have := h.here; omega)
      go_enter Try.func129, Try.ntmps129
      go_wp2_with fail
      refine hcut.mono ?_
      rintro e w1 ⟨rfl, hq, hx⟩
      go_wp2_with (go_at_call 187; refine (qnumber_any w1 _ [] (Bytes.nil _) (by simp)).mono ?_; rintro e w' ⟨rfl, nn, rfl⟩)
      go_ret
      exact ⟨rfl, hq.drewN _, hx.drewN _⟩
  · rw [rdE_off he]
    go_enter Try.func129, Try.ntmps129
    go_wp2_with fail
    refine (qtake_off w q v bs a err h he _).mono ?_
    rintro e w' ⟨rfl, rfl⟩
    go_wp2_with (go_at_call 187; refine (qnumber_any w _ [] (Bytes.nil _) (by simp)).mono ?_; rintro e w' ⟨rfl, nn, rfl⟩)
    go_ret
    exact ⟨rfl, h.drewN _, (Ext.refl _ _).drewN _⟩

/-- The end of a read of bytes. -/
def QEndB (w : World) (q : Nat) (v : Value) (bs : List UInt8) (a : Nat) (r : Rd) (e : Ending) (w' : World) : Prop := ∃ x, e = .returned x ∧ Fresh w.heap.size r.2.2.2 w' x ∧ QAt w' q v bs (a + r.2.1) r.1 ∧ Ext (One q) w w'

set_option maxRecDepth 20000 in
theorem qraw (w : World) (q : Nat) (v : Value) (bs : List UInt8) (a : Nat) (err : Int) (h : QAt w q v bs a err) (A : Int) (hA : A ≤ 9223372036854775807) :
    Calls Try.prog 131 #[.pointer (some ⟨q, 0, none⟩), .int .i64 A] w (QEndB w q v bs a (rdE err 5 A 0 (bs.drop a))) := by
  have c2 := h.cells.cell 2 rfl
  have f2 := h.cells.frozen 2
  have hh := h.here
  by_cases he : err = 0
  · subst he
    rw [rdE_on]
    show Calls _ _ _ _ (QEndB w q v bs a (rd5 A (bs.drop a)))
    by_cases h0 : A < 0
    · rw [show rd5 A (bs.drop a) = (2, 0, 0, []) from if_pos h0]
      have hoff := qtake_off (w.setCell ⟨q, 2, none⟩ (.int .i64 2)) q v bs a 2 (h.setErr 2) (by decide) A
      go_enter Try.func131, Try.ntmps131
      go_wp2_with fail
      refine hoff.mono ?_
      rintro e w1 ⟨rfl, rfl⟩
      go_wp2_with fail
      go_ret
      exact ⟨_, rfl, fresh_nil _ _, h.setErr 2, ext_set _ _ _ _⟩
    · obtain ⟨n, rfl⟩ := Int.eq_ofNat_of_zero_le (show 0 ≤ A by omega)
      by_cases hc : ((bs.drop a).length : Int) < n
      · rw [show rd5 (n : Int) (bs.drop a) = (10, 0, 0, []) from by rw [rd5, if_neg h0, if_pos hc]]
        have hcut := qtake_cut w q v bs a h n hA (by rw [drop_len] at hc; omega)
        clear h0
        have h0 : ¬ (n : Int) < 0 := by omega
        go_enter Try.func131, Try.ntmps131
        go_wp2_with fail
        refine hcut.mono ?_
        rintro e w1 ⟨rfl, hq, hx⟩
        go_wp2_with fail
        go_ret
        exact ⟨_, rfl, fresh_nil _ _, hq, hx⟩
      · rw [show rd5 (n : Int) (bs.drop a) = (0, n, 0, (bs.drop a).take n) from by rw [rd5, if_neg h0, if_neg hc]; rfl]
        have hl2 : a + n ≤ bs.length := by rw [drop_len] at hc; omega
        have hok := qtake_ok w q v bs a h n hl2
        have hpl : ((bs.drop a).take n).length = n := by simp; omega
        have hf0 : bs.length ≤ 1099511627776 := h.fits
        clear h0
        have h0 : ¬ (n : Int) < 0 := by omega
        go_enter Try.func131, Try.ntmps131
        go_wp2_with fail
        refine hok.mono ?_
        rintro e w1 ⟨ao, cap, p1, p2, rfl, ho, hf, hq, hx⟩
        go_wp2_with fail
        go_ret
        exact ⟨.slice ao n cap, rfl, ⟨ao, cap, by show ((bs.drop a).take n).length ≤ cap; omega, p2, by show _ = Value.slice ao ((bs.drop a).take n).length cap; rw [hpl], ho, hf⟩, hq, hx⟩
  · rw [rdE_off he]
    have hb : (err == 0) = false := by rw [beq_eq_false_iff_ne]; exact he
    go_enter Try.func131, Try.ntmps131
    go_wp2_with fail
    refine (qtake_off w q v bs a err h he _).mono ?_
    rintro e w' ⟨rfl, rfl⟩
    go_wp2_with fail
    go_ret
    exact ⟨_, rfl, fresh_nil _ _, h, Ext.refl _ _⟩
end Go.Proofs.Ytdgagpoeefbdjaa
