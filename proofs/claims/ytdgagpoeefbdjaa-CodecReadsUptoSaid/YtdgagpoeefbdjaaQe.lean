/- Contracts of the document's reader: Bytes, Text, Count. Condition: the reader is one that New made. -/
import Derived.Test.YtdgagpoeefbdjaaQc
import Derived.Test.YtdgagpoeefbdjaaQd
namespace Go.Proofs.Ytdgagpoeefbdjaa
open Go.RowKit

theorem qback {w1 : World} {q : Nat} {v : Value} {bs : List UInt8} {a b : Nat} (h : QAt w1 q v bs b 0) (ha : a ≤ bs.length) (er : Int) : QAt ((w1.setCell ⟨q, 2, none⟩ (.int .i64 er)).setCell ⟨q, 1, none⟩ (.int .i64 a)) q v bs a er := (h.setErr er).set a ha
theorem qback_ext (w1 : World) (q : Nat) (u x : Value) : Ext (One q) w1 ((w1.setCell ⟨q, 2, none⟩ u).setCell ⟨q, 1, none⟩ x) := (ext_set _ _ _ _).trans (ext_set _ _ _ _) fun _ _ h => h
theorem qback' {w1 : World} {q : Nat} {v : Value} {bs : List UInt8} {a b : Nat} (h : QAt w1 q v bs b 0) (ha : a ≤ bs.length) (er : Int) (m : Nat) : QAt (((w1.setCell ⟨q, 2, none⟩ (.int .i64 er)).setCell ⟨q, 1, none⟩ (.int .i64 a)).drewN m) q v bs a er := ((h.setErr er).set a ha).drewN m

set_option maxHeartbeats 1000000 in
set_option maxRecDepth 20000 in
theorem qbytes (w : World) (q : Nat) (v : Value) (bs : List UInt8) (a : Nat) (err : Int) (h : QAt w q v bs a err) (A : Int) (hA : A ≤ 9223372036854775807) :
    Calls Try.prog 132 #[.pointer (some ⟨q, 0, none⟩), .int .i64 A] w (QEndB w q v bs a (rdE err 6 A 0 (bs.drop a))) := by
  have c1 := h.cells.cell 1 rfl
  have c2 := h.cells.cell 2 rfl
  have f2 := h.cells.frozen 2
  have hh := h.here
  have hf0 : bs.length ≤ 1099511627776 := h.fits
  by_cases he : err = 0
  · subst he
    rw [rdE_on]
    show Calls _ _ _ _ (QEndB w q v bs a (rd6 A (bs.drop a)))
    by_cases h0 : A < 0
    · rw [show rd6 A (bs.drop a) = (2, 0, 0, []) from if_pos h0]
      go_enter Try.func132, Try.ntmps132
      go_wp2_with fail
      go_ret
      exact ⟨_, rfl, fresh_nil _ _, h.setErr 2, ext_set _ _ _ _⟩
    · obtain ⟨A, rfl⟩ := Int.eq_ofNat_of_zero_le (show 0 ≤ A by omega)
      have hvar := qvar w q v bs a h
      have hfr := numL_front (bs.drop a)
      unfold rd4 at hvar
      unfold rd6
      rw [if_neg h0]
      generalize numL (bs.drop a) 0 0 = r at *
      obtain ⟨er, n, kk⟩ := r
      simp only at hvar hfr ⊢
      obtain ⟨hfr1, hfr2, -⟩ := hfr
      clear h0
      have h0 : ¬ (A : Int) < 0 := by omega
      by_cases her : er ≠ 0
      · have hz := hfr2 her
        simp only [Prod.mk.injEq] at hz
        obtain ⟨rfl, rfl⟩ := hz
        rw [if_pos her]
        have hne : (er != 0) = true := by rw [bne_iff_ne]; exact her
        clear hfr1 hfr2
        go_enter Try.func132, Try.ntmps132
        go_wp2_with fail
        refine hvar.mono ?_
        rintro e w1 ⟨rfl, hq, hx⟩
        have d2 := hq.cells.cell 2 rfl
        have HER := Lib.hid her
        clear her
        go_wp2_with fail
        go_ret
        exact ⟨_, rfl, fresh_nil _ _, hq, hx⟩
      · obtain rfl : er = 0 := by simpa using her
        rw [if_neg her]
        obtain ⟨hn, hk0, hkl, -⟩ := hfr1 rfl
        rw [drop_len] at hkl
        have hdl : (bs.drop a).length = bs.length - a := drop_len _ _
        clear hfr2 her hfr1
        have hAw : IntKind.u64.wrap (A : Int) = (A : Int) := wrap_u64 (by unfold IsU64; omega)
        by_cases hov : (A : Int) < (n : Int)
        · rw [if_pos hov]
          go_enter Try.func132, Try.ntmps132
          go_wp2_with fail
          refine hvar.mono ?_
          rintro e w1 ⟨rfl, hq, hx⟩
          have d2 := hq.cells.cell 2 rfl
          have e2 := hq.cells.frozen 2
          have d1 := hq.cells.cell 1 rfl
          have e1 := hq.cells.frozen 1
          go_wp2_with fail
          go_ret
          exact ⟨_, rfl, fresh_nil _ _, qback hq hh 12, hx.trans (qback_ext _ _ _ _) fun _ _ h => h⟩
        · rw [if_neg hov]
          have hov' : (n : Int) ≤ (A : Int) := by omega
          by_cases hcut : (bs.drop a).length - kk < n
          · rw [if_pos hcut]
            rw [hdl] at hcut
            go_enter Try.func132, Try.ntmps132
            go_wp2_with fail
            refine hvar.mono ?_
            rintro e w1 ⟨rfl, hq, hx⟩
            obtain ⟨ao, cap, rfl, hcap, hmax, -⟩ := hq.row.open
            have d0 := hq.cells.cell 0 rfl
            have d2 := hq.cells.cell 2 rfl
            have e2 := hq.cells.frozen 2
            have d1 := hq.cells.cell 1 rfl
            have e1 := hq.cells.frozen 1
            have hsub : ((bs.length : Int) - ((a + kk : Nat) : Int)) = ((bs.length - a - kk : Nat) : Int) := by omega
            go_wp2_with fail
            go_quiet (fail)
            go_wp2_with fail
            go_ret
            exact ⟨_, rfl, fresh_nil _ _, qback (hq.drewN _) hh 10, (hx.drewN _).trans (qback_ext _ _ _ _) fun _ _ h => h⟩
          · rw [if_neg hcut]
            rw [hdl] at hcut
            have hl2 : a + kk + n ≤ bs.length := by omega
            have hpc : ((bs.drop a).drop kk).take n = (bs.drop (a + kk)).take n := by rw [List.drop_drop]
            rw [hpc]
            have hpl : ((bs.drop (a + kk)).take n).length = n := by simp; omega
            have htk := fun (w2 : World) (hq2 : QAt w2 q v bs (a + kk) 0) => qtake_ok w2 q v bs (a + kk) hq2 n hl2
            generalize (bs.drop (a + kk)).take n = P at *
            have HTK := Lib.hid htk
            clear htk hpc
            go_enter Try.func132, Try.ntmps132
            go_wp2_with fail
            refine hvar.mono ?_
            rintro e w1 ⟨rfl, hq, hx⟩
            obtain ⟨ao, cap, rfl, hcap, hmax, -⟩ := hq.row.open
            have d0 := hq.cells.cell 0 rfl
            have d2 := hq.cells.cell 2 rfl
            have d1 := hq.cells.cell 1 rfl
            have hsub : ((bs.length : Int) - ((a + kk : Nat) : Int)) = ((bs.length - a - kk : Nat) : Int) := by omega
            go_wp2_with fail
            go_quiet (fail)
            go_wp2_with fail
            refine (HTK.out _ (hq.drewN _)).mono ?_
            rintro e w2 ⟨ao2, cap2, p1, p2, rfl, ho, hf, hq2, hx2⟩
            go_wp2_with fail
            go_ret
            have hsz := hx.size
            refine ⟨.slice ao2 n cap2, rfl, ⟨ao2, cap2, by show P.length ≤ cap2; omega, p2, by show _ = Value.slice ao2 P.length cap2; rw [hpl], ho, fun k hk => Nat.le_trans hsz (hf k hk)⟩, ?_, (hx.drewN _).trans hx2 fun _ _ h => h⟩
            show QAt w2 q _ bs (a + (kk + n)) 0
            rw [← Nat.add_assoc]
            exact hq2
  · rw [rdE_off he]
    have hb : (err != 0) = true := by rw [bne_iff_ne]; exact he
    have HE := Lib.hid he
    clear he
    go_enter Try.func132, Try.ntmps132
    go_wp2_with fail
    go_ret
    exact ⟨_, rfl, fresh_nil _ _, h, Ext.refl _ _⟩

/-- The end of a read of a text. -/
def QEndS (w : World) (q : Nat) (v : Value) (bs : List UInt8) (a : Nat) (r : Rd) (e : Ending) (w' : World) : Prop := e = .returned (.string ⟨r.2.2.2.toArray⟩) ∧ QAt w' q v bs (a + r.2.1) r.1 ∧ Ext (One q) w w'
theorem qtext (w : World) (q : Nat) (v : Value) (bs : List UInt8) (a : Nat) (err : Int) (h : QAt w q v bs a err) (A : Int) (hA : A ≤ 9223372036854775807) :
    Calls Try.prog 133 #[.pointer (some ⟨q, 0, none⟩), .int .i64 A] w (QEndS w q v bs a (rdE err 6 A 0 (bs.drop a))) := by
  have hb := qbytes w q v bs a err h A hA
  generalize rdE err 6 A 0 (bs.drop a) = r at *
  go_enter Try.func133, Try.ntmps133
  go_wp2_with fail
  refine hb.mono ?_
  rintro e w1 ⟨x, rfl, ⟨ao, cap, h1, h2, rfl, ho, hf⟩, hq, hx⟩
  have hr := run_toStr w1 _ _ ho.bytes
  go_wp2_with fail
  go_ret
  exact ⟨rfl, hq, hx⟩

theorem quo_lt {L n B : Nat} (hn : 0 < n) : L / n < B ↔ L < n * B := by rw [Nat.div_lt_iff_lt_mul hn, Nat.mul_comm]

set_option maxHeartbeats 1000000 in
set_option maxRecDepth 20000 in
theorem qcount (w : World) (q : Nat) (v : Value) (bs : List UInt8) (a : Nat) (err : Int) (h : QAt w q v bs a err) (A B : Int) (hA : A ≤ 9223372036854775807) (hB : B ≤ 9223372036854775807) :
    Calls Try.prog 134 #[.pointer (some ⟨q, 0, none⟩), .int .i64 A, .int .i64 B] w (QEnd w q v bs a (rdE err 8 A B (bs.drop a)) (.int .i64 ((rdE err 8 A B (bs.drop a)).2.2.1 : Nat))) := by
  have c1 := h.cells.cell 1 rfl
  have c2 := h.cells.cell 2 rfl
  have f2 := h.cells.frozen 2
  have hh := h.here
  have hf0 : bs.length ≤ 1099511627776 := h.fits
  by_cases he : err = 0
  · subst he
    rw [rdE_on]
    show Calls _ _ _ _ (QEnd w q v bs a (rd8 A B (bs.drop a)) (.int .i64 ((rd8 A B (bs.drop a)).2.2.1 : Nat)))
    by_cases h0 : A < 0 ∨ B < 0
    · rw [show rd8 A B (bs.drop a) = (2, 0, 0, []) from if_pos h0]
      by_cases hA0 : A < 0
      · go_enter Try.func134, Try.ntmps134
        go_wp2_with fail
        go_ret
        exact ⟨rfl, h.setErr 2, ext_set _ _ _ _⟩
      · have hB0 : B < 0 := by omega
        go_enter Try.func134, Try.ntmps134
        go_wp2_with fail
        go_ret
        exact ⟨rfl, h.setErr 2, ext_set _ _ _ _⟩
    · obtain ⟨A, rfl⟩ := Int.eq_ofNat_of_zero_le (show 0 ≤ A by omega)
      obtain ⟨B, rfl⟩ := Int.eq_ofNat_of_zero_le (show 0 ≤ B by omega)
      have hvar := qvar w q v bs a h
      have hfr := numL_front (bs.drop a)
      unfold rd4 at hvar
      unfold rd8
      rw [if_neg h0]
      generalize numL (bs.drop a) 0 0 = r at *
      obtain ⟨er, n, kk⟩ := r
      simp only [Int.toNat_natCast] at hvar hfr ⊢
      obtain ⟨hfr1, hfr2, -⟩ := hfr
      clear h0
      have h0 : ¬ (A : Int) < 0 := by omega
      have h0' : ¬ (B : Int) < 0 := by omega
      by_cases her : er ≠ 0
      · have hz := hfr2 her
        simp only [Prod.mk.injEq] at hz
        obtain ⟨rfl, rfl⟩ := hz
        rw [if_pos her]
        have hne : (er != 0) = true := by rw [bne_iff_ne]; exact her
        clear hfr1 hfr2
        go_enter Try.func134, Try.ntmps134
        go_wp2_with fail
        refine hvar.mono ?_
        rintro e w1 ⟨rfl, hq, hx⟩
        have d2 := hq.cells.cell 2 rfl
        have HER := Lib.hid her
        clear her
        go_wp2_with fail
        go_ret
        exact ⟨rfl, hq, hx⟩
      · obtain rfl : er = 0 := by simpa using her
        rw [if_neg her]
        obtain ⟨hn, hk0, hkl, -⟩ := hfr1 rfl
        rw [drop_len] at hkl
        have hdl : (bs.drop a).length = bs.length - a := drop_len _ _
        clear hfr2 her hfr1
        have hAw : IntKind.u64.wrap (A : Int) = (A : Int) := wrap_u64 (by unfold IsU64; omega)
        by_cases hov : (A : Int) < (n : Int)
        · rw [if_pos hov]
          go_enter Try.func134, Try.ntmps134
          go_wp2_with fail
          refine hvar.mono ?_
          rintro e w1 ⟨rfl, hq, hx⟩
          obtain ⟨ao, cap, rfl, hcap, hmax, -⟩ := hq.row.open
          have d0 := hq.cells.cell 0 rfl
          have d2 := hq.cells.cell 2 rfl
          have e2 := hq.cells.frozen 2
          have d1 := hq.cells.cell 1 rfl
          have e1 := hq.cells.frozen 1
          go_wp2_with fail
          go_quiet (fail)
          go_wp2_with fail
          go_ret
          exact ⟨rfl, qback (hq.drewN _) hh 12, (hx.drewN _).trans (qback_ext _ _ _ _) fun _ _ h => h⟩
        · rw [if_neg hov]
          have hov' : (n : Int) ≤ (A : Int) := by omega
          rw [hdl]
          rcases Nat.eq_zero_or_pos n with hn0 | hn0
          · subst hn0
            rw [if_neg (by omega)]
            go_enter Try.func134, Try.ntmps134
            go_wp2_with fail
            refine hvar.mono ?_
            rintro e w1 ⟨rfl, hq, hx⟩
            obtain ⟨ao, cap, rfl, hcap, hmax, -⟩ := hq.row.open
            have d0 := hq.cells.cell 0 rfl
            have d2 := hq.cells.cell 2 rfl
            have e2 := hq.cells.frozen 2
            have d1 := hq.cells.cell 1 rfl
            have e1 := hq.cells.frozen 1
            have hsub : ((bs.length : Int) - ((a + kk : Nat) : Int)) = ((bs.length - a - kk : Nat) : Int) := by omega
            have hw1 : IntKind.u64.wrap ((bs.length : Int) - ((a : Int) + (kk : Int))) = (bs.length : Int) - ((a : Int) + (kk : Int)) := by rw [show ((bs.length : Int) - ((a : Int) + (kk : Int))) = ((bs.length - a - kk : Nat) : Int) from by omega]; exact wrap_u64 (by unfold IsU64; omega)
            go_wp2_with fail
            go_quiet (fail)
            go_wp2_with fail
            go_ret
            exact ⟨rfl, hq.drewN _, hx.drewN _⟩
          rcases Nat.eq_zero_or_pos B with hB0 | hB0
          · subst hB0
            rw [if_neg (by omega)]
            have hb0 : ¬ (0 : Int) < ((0 : Nat) : Int) := by omega
            go_enter Try.func134, Try.ntmps134
            go_wp2_with fail
            refine hvar.mono ?_
            rintro e w1 ⟨rfl, hq, hx⟩
            obtain ⟨ao, cap, rfl, hcap, hmax, -⟩ := hq.row.open
            have d0 := hq.cells.cell 0 rfl
            have d2 := hq.cells.cell 2 rfl
            have e2 := hq.cells.frozen 2
            have d1 := hq.cells.cell 1 rfl
            have e1 := hq.cells.frozen 1
            have hsub : ((bs.length : Int) - ((a + kk : Nat) : Int)) = ((bs.length - a - kk : Nat) : Int) := by omega
            have hw1 : IntKind.u64.wrap ((bs.length : Int) - ((a : Int) + (kk : Int))) = (bs.length : Int) - ((a : Int) + (kk : Int)) := by rw [show ((bs.length : Int) - ((a : Int) + (kk : Int))) = ((bs.length - a - kk : Nat) : Int) from by omega]; exact wrap_u64 (by unfold IsU64; omega)
            go_wp2_with fail
            go_quiet (fail)
            go_wp2_with fail
            go_ret
            exact ⟨rfl, hq.drewN _, hx.drewN _⟩
          have hq1 := quo_lt (L := bs.length - a - kk) (B := B) hn0
          have hnz : ((n : Int) == 0) = false := by simp; omega
          have hBw : IntKind.u64.wrap (B : Int) = (B : Int) := wrap_u64 (by unfold IsU64; omega)
          by_cases hcut : bs.length - a - kk < n * B
          · rw [if_pos hcut]
            have hd : ((bs.length : Int) - ((a : Int) + (kk : Int))) / (n : Int) < (B : Int) := by
              have := hq1.2 hcut
              have hsu : ((bs.length : Int) - ((a : Int) + (kk : Int))) = ((bs.length - a - kk : Nat) : Int) := by omega
              rw [hsu]
              rw [← Int.natCast_ediv]
              omega
            clear hq1 hcut
            go_enter Try.func134, Try.ntmps134
            go_wp2_with fail
            refine hvar.mono ?_
            rintro e w1 ⟨rfl, hq, hx⟩
            obtain ⟨ao, cap, rfl, hcap, hmax, -⟩ := hq.row.open
            have d0 := hq.cells.cell 0 rfl
            have d2 := hq.cells.cell 2 rfl
            have e2 := hq.cells.frozen 2
            have d1 := hq.cells.cell 1 rfl
            have e1 := hq.cells.frozen 1
            have hsub : ((bs.length : Int) - ((a + kk : Nat) : Int)) = ((bs.length - a - kk : Nat) : Int) := by omega
            have hw1 : IntKind.u64.wrap ((bs.length : Int) - ((a : Int) + (kk : Int))) = (bs.length : Int) - ((a : Int) + (kk : Int)) := by rw [show ((bs.length : Int) - ((a : Int) + (kk : Int))) = ((bs.length - a - kk : Nat) : Int) from by omega]; exact wrap_u64 (by unfold IsU64; omega)
            go_wp2_with fail
            go_quiet (fail)
            go_wp2_with fail
            go_ret
            exact ⟨rfl, qback (hq.drewN _) hh 10, (hx.drewN _).trans (qback_ext _ _ _ _) fun _ _ h => h⟩
          · rw [if_neg hcut]
            have hd : (B : Int) ≤ ((bs.length : Int) - ((a : Int) + (kk : Int))) / (n : Int) := by
              have := fun h => hcut (hq1.1 h)
              have hsu : ((bs.length : Int) - ((a : Int) + (kk : Int))) = ((bs.length - a - kk : Nat) : Int) := by omega
              rw [hsu]
              rw [← Int.natCast_ediv]
              omega
            clear hq1 hcut
            go_enter Try.func134, Try.ntmps134
            go_wp2_with fail
            refine hvar.mono ?_
            rintro e w1 ⟨rfl, hq, hx⟩
            obtain ⟨ao, cap, rfl, hcap, hmax, -⟩ := hq.row.open
            have d0 := hq.cells.cell 0 rfl
            have d2 := hq.cells.cell 2 rfl
            have e2 := hq.cells.frozen 2
            have d1 := hq.cells.cell 1 rfl
            have e1 := hq.cells.frozen 1
            have hsub : ((bs.length : Int) - ((a + kk : Nat) : Int)) = ((bs.length - a - kk : Nat) : Int) := by omega
            have hw1 : IntKind.u64.wrap ((bs.length : Int) - ((a : Int) + (kk : Int))) = (bs.length : Int) - ((a : Int) + (kk : Int)) := by rw [show ((bs.length : Int) - ((a : Int) + (kk : Int))) = ((bs.length - a - kk : Nat) : Int) from by omega]; exact wrap_u64 (by unfold IsU64; omega)
            go_wp2_with fail
            go_quiet (fail)
            go_wp2_with fail
            go_ret
            exact ⟨rfl, hq.drewN _, hx.drewN _⟩
  · rw [rdE_off he]
    have hb : (err != 0) = true := by rw [bne_iff_ne]; exact he
    have HE := Lib.hid he
    clear he
    go_enter Try.func134, Try.ntmps134
    go_wp2_with fail
    go_ret
    exact ⟨rfl, h, Ext.refl _ _⟩
end Go.Proofs.Ytdgagpoeefbdjaa
