/- Contracts: New, Left, End of the document's reader; the law's 'stands'. Condition: the readers stand alike. -/
import Derived.Test.YtdgagpoeefbdjaaTold
namespace Go.Proofs.Ytdgagpoeefbdjaa
open Go.RowKit

theorem left_q {w : World} {q : Nat} {v : Value} {bs : List UInt8} {a : Nat} {err : Int} (h : QAt w q v bs a err) : Calls Try.prog 114 #[.pointer (some ⟨q, 0, none⟩)] w fun e w' => e = .returned (.int .i64 ((bs.length - a : Nat) : Int)) ∧ ∃ n, w' = w.drewN n := by
  obtain ⟨ao, cap, rfl, hcap, hmax, -⟩ := h.row.open
  have c0 := h.cells.cell 0 rfl
  have c1 := h.cells.cell 1 rfl
  have here := h.here
  have hf : bs.length ≤ 1099511627776 := h.fits
  go_enter Try.func114, Try.ntmps114
  go_wp2
  go_quiet (fail)
  go_wp2
  go_ret
  exact ⟨ret_int (by omega), _, rfl⟩

theorem end_q {w : World} {q : Nat} {v : Value} {bs : List UInt8} {a : Nat} {err : Int} (h : QAt w q v bs a err) : Calls Try.prog 115 #[.pointer (some ⟨q, 0, none⟩)] w fun e w' => e = .returned (.int .i64 (endD err (bs.length - a))) ∧ ∃ n, w' = w.drewN n := by
  obtain ⟨ao, cap, rfl, hcap, hmax, -⟩ := h.row.open
  have c0 := h.cells.cell 0 rfl
  have c1 := h.cells.cell 1 rfl
  have c2 := h.cells.cell 2 rfl
  have here := h.here
  have hf : bs.length ≤ 1099511627776 := h.fits
  by_cases he : err = 0
  · subst he
    by_cases hl : a < bs.length
    · have e : endD 0 (bs.length - a) = 13 := by rw [endD, if_neg (by simp), if_pos (by omega)]
      rw [e]
      have hl' : (a : Int) < (bs.length : Int) := by omega
      go_enter Try.func115, Try.ntmps115
      go_wp2
      go_quiet (fail)
      go_wp2
      go_ret
      exact ⟨rfl, _, rfl⟩
    · have e : endD 0 (bs.length - a) = 0 := by rw [endD, if_neg (by simp), if_neg (by omega)]
      rw [e]
      have hl' : ¬ (a : Int) < (bs.length : Int) := by omega
      go_enter Try.func115, Try.ntmps115
      go_wp2
      go_quiet (fail)
      go_wp2
      go_ret
      exact ⟨rfl, _, rfl⟩
  · have e : endD err (bs.length - a) = err := if_pos he
    rw [e]
    have hb : (err == 0) = false := by rw [beq_eq_false_iff_ne]; exact he
    clear e
    go_enter Try.func115, Try.ntmps115
    go_wp2
    go_quiet (fail)
    go_wp2
    go_ret
    exact ⟨rfl, _, rfl⟩

theorem newQ_any (w : World) (x : Value) (ys : List UInt8) (hx : Bytes w x ys) (hfit : Fits ys.length) :
    Calls Try.prog 43 #[x] w fun e w' => ∃ q v, e = .returned (.pointer (some ⟨q, 0, none⟩)) ∧ QAt w' q v ys 0 0 ∧ Step Nil w (PF q v) w' := by
  obtain ⟨ao, cap, rfl, hcap, hmax, hc⟩ := hx.open
  have hsrc := Reads.src (P := Try.prog) (hx.alloc (.cells #[] 5 (0, 0))) Try.underlying29 (bvs_one ys)
  clear hc
  go_enter Try.func43, Try.ntmps43
  go_wp2_with (at_builtin; refine wpList_append_fresh hsrc hfit rfl _ _ rfl rfl rfl ?_; intro ao2 cap2 w2 hc1 hc2 hown hst)
  go_ret
  have hlt := hown.lt
  have hst2 : Step Nil w (inFoot (.slice ao2 ys.length cap2)) w2 := (step_alloc _ _ _).trans hst
  refine ⟨w2.heap.size, .slice ao2 ys.length cap2, rfl, ⟨At.new w2 [.slice ao2 ys.length cap2, .int .i64 0, .int .i64 0] _, Bytes.alloc hown.bytes _, fun hk => by have := hlt _ hk; omega, Nat.zero_le _, hfit, fun k hk => by have := hlt k hk; simp; omega⟩, hst2.1.alloc _, fun k hk => ?_⟩
  rcases hk with hk | hk
  · right; have := hst2.1.size; omega
  · exact hst2.2 k hk

set_option maxHeartbeats 1000000 in
theorem stands_any {w : World} {p q : Nat} {v u : Value} {bs : List UInt8} {a : Nat} {err : Int} (hR : RdAt w p v bs a err) (hQ : QAt w q u bs a err) :
    Calls Try.prog 44 #[.pointer (some ⟨p, 0, none⟩), .pointer (some ⟨q, 0, none⟩)] w fun e w' => e = .returned (.bool true) ∧ ∃ n, w' = w.drewN n := by
  have hend := fun (w' : World) (h : RdAt w' p v bs a err) => end_any h
  have hleft := fun (w' : World) (h : RdAt w' p v bs a err) => left_rd h
  have hendq := fun (w' : World) (h : QAt w' q u bs a err) => end_q h
  have hleftq := fun (w' : World) (h : QAt w' q u bs a err) => left_q h
  generalize bs.length - a = m at *
  generalize endD err m = ed at *
  have HE := Lib.hid hend
  have HL := Lib.hid hleft
  have HEQ := Lib.hid hendq
  have HLQ := Lib.hid hleftq
  clear hend hleft hendq hleftq
  go_enter Try.func44, Try.ntmps44
  go_wp2_with (first
    | (go_at_call 50; refine (at_any hR).mono ?_; rintro e w' ⟨rfl, rfl⟩)
    | (go_at_call 52; refine (HL.out _ hR).mono ?_; rintro e w' ⟨rfl, n1, rfl⟩)
    | (go_at_call 49; refine (err_any (hR.drewN _)).mono ?_; rintro e w' ⟨rfl, rfl⟩)
    | (go_at_call 51; refine (HE.out _ (hR.drewN _)).mono ?_; rintro e w' ⟨rfl, n2, rfl⟩))
  have hQ2 := hQ.drewN (n1 + n2)
  have hW : ∃ n, w.drewN (n1 + n2) = w.drewN n := ⟨_, rfl⟩
  generalize w.drewN (n1 + n2) = W at *
  have c1 := hQ2.cells.cell 1 rfl
  have c2 := hQ2.cells.cell 2 rfl
  have HW := Lib.hid hW
  clear hW
  go_quiet (first
    | (go_at_call 114; exact Calls.quiet_of (HLQ.out _ (hQ2.drewN _)))
    | (go_at_call 115; exact Calls.quiet_of (HEQ.out _ (hQ2.drewN _)))
    | (go_at_call 27; exact Calls.quiet_of ((num_any _ _).mono fun e w' h => ⟨h.1, 0, h.2.symm⟩)))
  go_wp2
  go_ret
  obtain ⟨n, hn⟩ := HW.out
  exact ⟨rfl, n + nq, by rw [hn, World.drewN_drewN]⟩
end Go.Proofs.Ytdgagpoeefbdjaa
