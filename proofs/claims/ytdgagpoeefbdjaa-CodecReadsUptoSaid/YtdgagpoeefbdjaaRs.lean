/- Contracts: codec.Reader's At, Left, Err, End; NewReader. No condition but what memory bears. -/
import Derived.Test.YtdgagpoeefbdjaaRl
import Derived.Test.YtdgagpoeefbdjaaAll
namespace Go.Proofs.Ytdgagpoeefbdjaa
open Go.RowKit

theorem at_any {w : World} {p : Nat} {v : Value} {bs : List UInt8} {a : Nat} {err : Int} (h : RdAt w p v bs a err) : Calls Try.prog 50 #[.pointer (some ⟨p, 0, none⟩)] w fun e w' => e = .returned (.int .i64 a) ∧ w = w' := by
  have c2 := h.cells.cell 2 rfl
  go_enter Try.func50, Try.ntmps50
  go_wp2
  go_ret
  exact ⟨rfl, rfl⟩

theorem err_any {w : World} {p : Nat} {v : Value} {bs : List UInt8} {a : Nat} {err : Int} (h : RdAt w p v bs a err) : Calls Try.prog 49 #[.pointer (some ⟨p, 0, none⟩)] w fun e w' => e = .returned (.int .i64 err) ∧ w = w' := by
  have c0 := h.cells.cell 0 rfl
  have c3 := h.cells.cell 3 rfl
  go_enter Try.func49, Try.ntmps49
  go_wp2
  go_ret
  exact ⟨rfl, rfl⟩

theorem left_rd {w : World} {p : Nat} {v : Value} {bs : List UInt8} {a : Nat} {err : Int} (h : RdAt w p v bs a err) : Calls Try.prog 52 #[.pointer (some ⟨p, 0, none⟩)] w fun e w' => e = .returned (.int .i64 ((bs.length - a : Nat) : Int)) ∧ ∃ n, w' = w.drewN n := by
  obtain ⟨ao, cap, rfl, hcap, hmax, -⟩ := h.row.open
  have c1 := h.cells.cell 1 rfl
  have c2 := h.cells.cell 2 rfl
  have here := h.here
  have hf : bs.length ≤ 1099511627776 := h.fits
  go_enter Try.func52, Try.ntmps52
  go_wp2
  go_quiet (fail)
  go_wp2
  go_ret
  exact ⟨ret_int (by omega), _, rfl⟩

/-- End's answer -/
def endD (err : Int) (left : Nat) : Int := if err ≠ 0 then err else if 0 < left then 13 else 0
theorem end_any {w : World} {p : Nat} {v : Value} {bs : List UInt8} {a : Nat} {err : Int} (h : RdAt w p v bs a err) : Calls Try.prog 51 #[.pointer (some ⟨p, 0, none⟩)] w fun e w' => e = .returned (.int .i64 (endD err (bs.length - a))) ∧ ∃ n, w' = w.drewN n := by
  by_cases he : err = 0
  · subst he
    by_cases hl : 0 < bs.length - a
    · have e : endD 0 (bs.length - a) = 13 := by rw [endD, if_neg (by simp), if_pos hl]
      rw [e]
      have hL := left_rd h
      generalize bs.length - a = m at hl hL
      have hl' : (0 : Int) < (m : Int) := by omega
      go_enter Try.func51, Try.ntmps51
      go_wp2_with (first
        | (go_at_call 49; refine (err_any h).mono ?_; rintro e w' ⟨rfl, rfl⟩)
        | (go_at_call 52; refine hL.mono ?_; rintro e w' ⟨rfl, n, rfl⟩))
      go_ret
      exact ⟨rfl, _, rfl⟩
    · have e : endD 0 (bs.length - a) = 0 := by rw [endD, if_neg (by simp), if_neg hl]
      rw [e]
      have hL := left_rd h
      have hz : bs.length - a = 0 := by omega
      rw [hz] at hL
      clear hz hl e
      go_enter Try.func51, Try.ntmps51
      go_wp2_with (first
        | (go_at_call 49; refine (err_any h).mono ?_; rintro e w' ⟨rfl, rfl⟩)
        | (go_at_call 52; refine hL.mono ?_; rintro e w' ⟨rfl, n, rfl⟩))
      go_ret
      exact ⟨rfl, _, rfl⟩
  · have e : endD err (bs.length - a) = err := if_pos he
    rw [e]
    have hb : (err != 0) = true := by rw [bne_iff_ne]; exact he
    clear he e
    go_enter Try.func51, Try.ntmps51
    go_wp2_with (go_at_call 49; refine (err_any h).mono ?_; rintro e w' ⟨rfl, rfl⟩)
    go_ret
    exact ⟨rfl, 0, rfl⟩

theorem newReader_any (w : World) (x : Value) (ys : List UInt8) (hx : Bytes w x ys) (hfit : Fits ys.length) :
    Calls Try.prog 41 #[x] w fun e w' => ∃ p v, e = .returned (.pointer (some ⟨p, 0, none⟩)) ∧ RdAt w' p v ys 0 0 ∧ Step Nil w (PF p v) w' := by
  go_enter Try.func41, Try.ntmps41
  go_wp2_with fail
  refine (clone_any w x ys hx hfit).mono ?_
  rintro e w1 ⟨ao, cap, h1, h2, rfl, ho, hs⟩
  have hlt := ho.lt
  go_wp2_with fail
  go_ret
  refine ⟨w1.heap.size, .slice ao ys.length cap, rfl, ⟨At.new w1 [.bool true, .slice ao ys.length cap, .int .i64 0, .int .i64 0] _, (Bytes.alloc ho.bytes _), fun hk => by have := hlt _ hk; omega, Nat.zero_le _, hfit, fun k hk => by have := hlt k hk; simp; omega⟩, (hs.1.alloc _), fun k hk => ?_⟩
  rcases hk with hk | hk
  · right; have := hs.1.size; omega
  · exact hs.2 k hk
end Go.Proofs.Ytdgagpoeefbdjaa
