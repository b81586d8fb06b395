/- Contracts of codec.Reader's reads: the frame ('read'), Byte, Bool, Var, Raw. Condition: the reader is one that NewReader made. -/
import Derived.Test.YtdgagpoeefbdjaaRd
import Derived.Test.YtdgagpoeefbdjaaOut
namespace Go.Proofs.Ytdgagpoeefbdjaa
open Go.RowKit

def Two (p c : Nat) : Nat → Prop := fun k => k = p ∨ k = c

/-- The end of a closure within a read: its error, how far it read, what it laid into c. -/
def Clo (w : World) (p c : Nat) (t : TypeId) (v : Value) (bs : List UInt8) (a : Nat) (er : Int) (k : Nat) (R : World → Value → Prop) (e : Ending) (w' : World) : Prop :=
  e = .returned (.int .i64 er) ∧ ∃ a' u, RdAt w' p v bs a' 0 ∧ (er = 0 → a' = a + k) ∧ At w' c t [u] ∧ R w' u ∧ Ext (Two p c) w w'

def IsClo (f : Nat) : Prop := f = 175 ∨ f = 177 ∨ f = 200 ∨ f = 179 ∨ f = 181 ∨ f = 201 ∨ f = 202 ∨ f = 184

/-- The end of 'read' -/
def ReadEnd (w : World) (p c : Nat) (t : TypeId) (v : Value) (bs : List UInt8) (a' : Nat) (er : Int) (R : World → Value → Prop) (e : Ending) (w' : World) : Prop :=
  e = .returned (.tuple #[]) ∧ ∃ u, At w' c t [u] ∧ R w' u ∧ RdAt w' p v bs a' er ∧ Ext (Two p c) w w'

set_option maxRecDepth 20000 in
set_option maxHeartbeats 4000000 in
theorem read_any (w : World) (p : Nat) (v : Value) (bs : List UInt8) (a : Nat) (h : RdAt w p v bs a 0) (f : Nat) (hf : IsClo f) (caps : Array Value) (er : Int) (k : Nat) (c : Nat) (t : TypeId) (R : World → Value → Prop)
    (hR : ∀ w1 w2 u, R w1 u → Ext (One p) w1 w2 → R w2 u) (hcp : c ≠ p) (hk : er ≠ 0 → k = 0) (H : Calls Try.prog f caps w (Clo w p c t v bs a er k R)) :
    Calls Try.prog 174 #[.pointer (some ⟨p, 0, none⟩), .func (.func f) #[] caps] w (ReadEnd w p c t v bs (a + k) er R) := by
  have c0 := h.cells.cell 0 rfl
  have c2 := h.cells.cell 2 rfl
  have c3 := h.cells.cell 3 rfl
  have here := h.here
  by_cases he : er = 0
  · subst he
    clear hk
    rcases hf with rfl | rfl | rfl | rfl | rfl | rfl | rfl | rfl
    all_goals
      go_enter Try.func174, Try.ntmps174
      go_wp2_with fail
      refine H.mono ?_
      rintro e w1 ⟨rfl, a', u, h1, h2, h3, h4, h5⟩
      have h2 := h2 rfl
      subst h2
      go_wp2_with fail
      go_end0
      exact ⟨rfl, u, h3, h4, h1, h5⟩
  · have hk0 := hk he
    subst hk0
    have hb : (er != 0) = true := by rw [bne_iff_ne]; exact he
    have HE := Lib.hid he
    clear he hk
    rcases hf with rfl | rfl | rfl | rfl | rfl | rfl | rfl | rfl
    all_goals
      go_enter Try.func174, Try.ntmps174
      go_wp2_with fail
      refine H.mono ?_
      rintro e w1 ⟨rfl, a', u, h1, h2, h3, h4, h5⟩
      clear h2
      have f2 := h1.cells.frozen 2
      have f3 := h1.cells.frozen 3
      have d2 := h1.cells.cell 2 rfl
      have d3 := h1.cells.cell 3 rfl
      go_wp2_with fail
      go_end0
      have hx : Ext (One p) w1 ((w1.setCell ⟨p, 2, none⟩ (.int .i64 a)).setCell ⟨p, 3, none⟩ (.int .i64 er)) :=
        ((Ext.refl (One p) w1).setCell (p := ⟨p, 2, none⟩) (fun _ => (rfl : p = p)) _).setCell (p := ⟨p, 3, none⟩) (fun _ => (rfl : p = p)) _
      exact ⟨rfl, u, h3.ext hx (fun e => hcp e), hR _ _ _ h4 hx, (h1.set a here).setErr er, h5.trans hx fun _ _ h => .inl h⟩

/-! ### readers at which nothing is read -/

/-- The reader is nil, or none that New made, or has an error. -/
def Off (w : World) (rv : Option Addr) : Prop :=
  rv = none ∨ ∃ p b x y z, rv = some ⟨p, 0, none⟩ ∧ w.cell? ⟨p, 0, none⟩ = some (.bool b) ∧ w.cell? ⟨p, 1, none⟩ = some x ∧ w.cell? ⟨p, 2, none⟩ = some y ∧ w.cell? ⟨p, 3, none⟩ = some (.int .i64 z) ∧ (b = false ∨ (b = true ∧ z ≠ 0))
theorem Off.ext {F : Nat → Prop} {w w' : World} {rv : Option Addr} (h : Off w rv) (e : Ext F w w') (hF : ∀ p, rv = some ⟨p, 0, none⟩ → ¬ F p) : Off w' rv := by
  rcases h with h | ⟨p, b, x, y, z, rfl, h0, h1, h2, h3, h4⟩
  · exact .inl h
  · exact .inr ⟨p, b, x, y, z, rfl, e.cell h0 (hF p rfl), e.cell h1 (hF p rfl), e.cell h2 (hF p rfl), e.cell h3 (hF p rfl), h4⟩

theorem read_off (w : World) (rv : Option Addr) (h : Off w rv) (fv : Value) : Calls Try.prog 174 #[.pointer rv, fv] w fun e w' => e = .returned (.tuple #[]) ∧ w = w' := by
  rcases h with rfl | ⟨p, b, x, y, z, rfl, h0, h1, h2, h3, rfl | ⟨rfl, h4⟩⟩
  · go_enter Try.func174, Try.ntmps174
    go_wp2_with fail
    all_goals first
      | (go_end0; exact ⟨rfl, rfl⟩)
      | (refine bodyPost_ret (results_none rfl _ _ _) rfl ?_; exact ⟨rfl, rfl⟩)
  · go_enter Try.func174, Try.ntmps174
    go_wp2_with fail
    all_goals first
      | (go_end0; exact ⟨rfl, rfl⟩)
      | (refine bodyPost_ret (results_none rfl _ _ _) rfl ?_; exact ⟨rfl, rfl⟩)
  · have hb : (z != 0) = true := by rw [bne_iff_ne]; exact h4
    clear h4
    go_enter Try.func174, Try.ntmps174
    go_wp2_with fail
    all_goals first
      | (go_end0; exact ⟨rfl, rfl⟩)
      | (refine bodyPost_ret (results_none rfl _ _ _) rfl ?_; exact ⟨rfl, rfl⟩)
end Go.Proofs.Ytdgagpoeefbdjaa
