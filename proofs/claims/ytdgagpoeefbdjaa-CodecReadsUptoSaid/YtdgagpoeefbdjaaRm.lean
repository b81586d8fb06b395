/- Contracts of codec.Reader's reads as methods, out of what 'read' does; at readers that New made and at others. -/
import Derived.Test.YtdgagpoeefbdjaaRk
namespace Go.Proofs.Ytdgagpoeefbdjaa
open Go.RowKit

/-- The end of a method that reads. -/
def RdEnd (w : World) (p : Nat) (v : Value) (bs : List UInt8) (a' : Nat) (er : Int) (R : World → Value → Prop) (e : Ending) (w' : World) : Prop :=
  ∃ u, e = .returned u ∧ R w' u ∧ RdAt w' p v bs a' er ∧ Ext (One p) w w'
/-- The end of one that reads nothing. -/
def OffEnd (w : World) (z : Value) (e : Ending) (w' : World) : Prop := e = .returned z ∧ Ext Nil w w'

/-- The end of a method, behind its 'read'. -/
def MEnd (c : Nat) (t : TypeId) (Q : World → Value → Prop) (e : Ending) (w' : World) : Prop :=
  ∃ u w1, e = .returned u ∧ At w1 c t [u] ∧ Q w1 u ∧ w' = w1.setCell ⟨c, 0, none⟩ u
def MRead (c : Nat) (t : TypeId) (Q : World → Value → Prop) (Sh : Value → Prop) (e : Ending) (w' : World) : Prop :=
  e = .returned (.tuple #[]) ∧ ∃ u, At w' c t [u] ∧ Q w' u ∧ Sh u
def IsInt (k : IntKind) (u : Value) : Prop := ∃ n, u = .int k n
def IsBool (u : Value) : Prop := ∃ b, u = .bool b
def IsSlice (u : Value) : Prop := ∃ x, ∃ a n c, x = ((a : Option Addr), (n : Nat), (c : Nat)) ∧ u = .slice a n c
def IsStr (u : Value) : Prop := ∃ s, u = .string s

/-- what stands behind a 'read' that reads -/
def OnQ (w2 : World) (p c : Nat) (v : Value) (bs : List UInt8) (a' : Nat) (er : Int) (R : World → Value → Prop) (w1 : World) (u : Value) : Prop := R w1 u ∧ RdAt w1 p v bs a' er ∧ Ext (Two p c) w2 w1
def OffQ (w2 : World) (z : Value) (w1 : World) (u : Value) : Prop := u = z ∧ w1 = w2

theorem on_end {w w2 w' : World} {p c : Nat} {t : TypeId} {v : Value} {bs : List UInt8} {a a' : Nat} {er : Int} {R : World → Value → Prop} {e : Ending} (h : RdAt w p v bs a 0) (h2 : Ext Nil w w2) (hc : w.heap.size ≤ c)
    (hRs : ∀ w1 u, R w1 u → R (w1.setCell ⟨c, 0, none⟩ u) u) (hm : MEnd c t (OnQ w2 p c v bs a' er R) e w') : RdEnd w p v bs a' er R e w' := by
  obtain ⟨u, w1, rfl, hA, ⟨hR, hd, hx⟩, rfl⟩ := hm
  refine ⟨u, rfl, hRs _ _ hR, hd.ext (F := One c) ((Ext.refl (One c) w1).setCell (p := ⟨c, 0, none⟩) (fun _ => (rfl : c = c)) u) (fun k hk e => ?_), ?_⟩
  · have e : k = c := e
    subst e
    rcases hk with hk | hk
    · have := h.cells.lt; omega
    · have := h.lt k hk; omega
  · have h1 : Ext (fun k => k = p ∨ w.heap.size ≤ k) w w1 := (h2.mono fun _ _ h => h.elim).trans hx fun i hi h => by
      rcases h with h | h
      · exact .inl h
      · exact .inr (by omega)
    exact (h1.setCell (p := ⟨c, 0, none⟩) (fun _ => .inr hc) u).mono fun k hk h => h.resolve_right (by omega)
theorem off_end {w w2 w' : World} {c : Nat} {t : TypeId} {z : Value} {e : Ending} (h2 : Ext Nil w w2) (hc : w.heap.size ≤ c) (hm : MEnd c t (OffQ w2 z) e w') : OffEnd w z e w' := by
  obtain ⟨u, w1, rfl, hA, ⟨rfl, rfl⟩, rfl⟩ := hm
  exact ⟨rfl, ((h2.mono (G := fun k => w.heap.size ≤ k) fun _ _ h => h.elim).setCell (p := ⟨c, 0, none⟩) (fun _ => hc) u).mono fun k hk h => by omega⟩

theorem read_on {w2 : World} {p : Nat} {v : Value} {bs : List UInt8} {a : Nat} (h : RdAt w2 p v bs a 0) {f : Nat} (hf : IsClo f) {caps : Array Value} {er : Int} {k : Nat} {c : Nat} {t : TypeId} {R : World → Value → Prop} {Sh : Value → Prop}
    (hR : ∀ w1 w2 u, R w1 u → Ext (One p) w1 w2 → R w2 u) (hcp : c ≠ p) (hk : er ≠ 0 → k = 0) (hsh : ∀ w u, R w u → Sh u) (H : Calls Try.prog f caps w2 (Clo w2 p c t v bs a er k R)) :
    Calls Try.prog 174 #[.pointer (some ⟨p, 0, none⟩), .func (.func f) #[] caps] w2 (MRead c t (OnQ w2 p c v bs (a + k) er R) Sh) := by
  refine (read_any w2 p v bs a h f hf caps er k c t R hR hcp hk H).mono ?_
  rintro e w' ⟨rfl, u, hA, h1, h2, h3⟩
  exact ⟨rfl, u, hA, ⟨h1, h2, h3⟩, hsh _ _ h1⟩
theorem read_off' {w2 : World} {rv : Option Addr} (h : Off w2 rv) (fv : Value) {c : Nat} {t : TypeId} {z : Value} {Sh : Value → Prop} (hA : At w2 c t [z]) (hs : Sh z) :
    Calls Try.prog 174 #[.pointer rv, fv] w2 (MRead c t (OffQ w2 z) Sh) := by
  refine (read_off w2 rv h fv).mono ?_
  rintro e w' ⟨rfl, rfl⟩
  exact ⟨rfl, z, hA, ⟨rfl, rfl⟩, hs⟩

theorem byte_meth (w : World) (rv : Option Addr) (Q : World → Value → Prop)
    (H : Calls Try.prog 174 #[.pointer rv, .func (.func 175) #[] #[.pointer (some ⟨w.heap.size, 0, none⟩), .pointer (some ⟨w.heap.size + 1, 0, none⟩)]] ((w.alloc (.cells #[.pointer rv] 57)).alloc (.cells #[.int .u8 0] 5)) (MRead (w.heap.size + 1) 5 Q (IsInt .u8))) :
    Calls Try.prog 116 #[.pointer rv] w (MEnd (w.heap.size + 1) 5 Q) := by
  go_enter Try.func116, Try.ntmps116
  go_wp2_with fail
  refine H.mono ?_
  rintro e w1 ⟨rfl, u, hA, hQ, n, rfl⟩
  have c0 := hA.cell 0 rfl
  have f0 := hA.frozen 0
  go_wp2_with fail
  have g := (hA.set 0 (.int .u8 n)).cell 0 rfl
  refine bodyPost_ret (v := .int .u8 n) (by simp [results, Try.results116, go_sem, g]) rfl ?_
  exact ⟨_, w1, rfl, hA, hQ, rfl⟩

theorem byte_methf (w : World) (rv : Option Addr) (h : Off w rv) : Calls Try.prog 116 #[.pointer rv] w (OffEnd w (.int .u8 0)) := by
  have h2 : Ext Nil w ((w.alloc (.cells #[.pointer rv] 57)).alloc (.cells #[.int .u8 0] 5)) := ((Ext.refl _ _).alloc _).alloc _
  refine (byte_meth w rv _ (read_off' (h.ext h2 fun _ _ h => h) _ ?_ ?_)).mono fun e w' hm => off_end h2 (by omega) hm
  · have e : (w.heap.size + 1) = ((w.alloc (.cells #[.pointer rv] 57))).heap.size := by simp
    rw [e]
    exact At.new _ [.int .u8 0] _
  · exact ⟨_, rfl⟩

theorem byte_on (w : World) (p : Nat) (v : Value) (bs : List UInt8) (a : Nat) (h : RdAt w p v bs a 0) (er : Int) (k : Nat) (R : World → Value → Prop)
    (hR : ∀ w1 w2 u, R w1 u → Ext (One p) w1 w2 → R w2 u) (hRs : ∀ w1 u, R w1 u → R (w1.setCell ⟨(w.heap.size + 1), 0, none⟩ u) u) (hk : er ≠ 0 → k = 0) (hsh : ∀ w u, R w u → (IsInt .u8) u)
    (H : Calls Try.prog 175 #[.pointer (some ⟨w.heap.size, 0, none⟩), .pointer (some ⟨w.heap.size + 1, 0, none⟩)] ((w.alloc (.cells #[.pointer (some ⟨p, 0, none⟩)] 57)).alloc (.cells #[.int .u8 0] 5)) (Clo ((w.alloc (.cells #[.pointer (some ⟨p, 0, none⟩)] 57)).alloc (.cells #[.int .u8 0] 5)) p (w.heap.size + 1) 5 v bs a er k R)) :
    Calls Try.prog 116 #[.pointer (some ⟨p, 0, none⟩)] w (RdEnd w p v bs (a + k) er R) := by
  have h2 : Ext Nil w ((w.alloc (.cells #[.pointer (some ⟨p, 0, none⟩)] 57)).alloc (.cells #[.int .u8 0] 5)) := ((Ext.refl _ _).alloc _).alloc _
  have hp := h.cells.lt
  exact (byte_meth w _ _ (read_on (h.ext h2 fun _ _ h => h) (by simp [IsClo]) hR (by omega) hk hsh H)).mono fun e w' hm => on_end h h2 (by omega) hRs hm

theorem bool_meth (w : World) (rv : Option Addr) (Q : World → Value → Prop)
    (H : Calls Try.prog 174 #[.pointer rv, .func (.func 177) #[] #[.pointer (some ⟨w.heap.size, 0, none⟩), .pointer (some ⟨w.heap.size + 1, 0, none⟩)]] ((w.alloc (.cells #[.pointer rv] 57)).alloc (.cells #[.bool false] 4)) (MRead (w.heap.size + 1) 4 Q IsBool)) :
    Calls Try.prog 118 #[.pointer rv] w (MEnd (w.heap.size + 1) 4 Q) := by
  go_enter Try.func118, Try.ntmps118
  go_wp2_with fail
  refine H.mono ?_
  rintro e w1 ⟨rfl, u, hA, hQ, n, rfl⟩
  have c0 := hA.cell 0 rfl
  have f0 := hA.frozen 0
  go_wp2_with fail
  have g := (hA.set 0 (.bool n)).cell 0 rfl
  refine bodyPost_ret (v := .bool n) (by simp [results, Try.results118, go_sem, g]) rfl ?_
  exact ⟨_, w1, rfl, hA, hQ, rfl⟩

theorem bool_methf (w : World) (rv : Option Addr) (h : Off w rv) : Calls Try.prog 118 #[.pointer rv] w (OffEnd w (.bool false)) := by
  have h2 : Ext Nil w ((w.alloc (.cells #[.pointer rv] 57)).alloc (.cells #[.bool false] 4)) := ((Ext.refl _ _).alloc _).alloc _
  refine (bool_meth w rv _ (read_off' (h.ext h2 fun _ _ h => h) _ ?_ ?_)).mono fun e w' hm => off_end h2 (by omega) hm
  · have e : (w.heap.size + 1) = ((w.alloc (.cells #[.pointer rv] 57))).heap.size := by simp
    rw [e]
    exact At.new _ [.bool false] _
  · exact ⟨_, rfl⟩

theorem bool_on (w : World) (p : Nat) (v : Value) (bs : List UInt8) (a : Nat) (h : RdAt w p v bs a 0) (er : Int) (k : Nat) (R : World → Value → Prop)
    (hR : ∀ w1 w2 u, R w1 u → Ext (One p) w1 w2 → R w2 u) (hRs : ∀ w1 u, R w1 u → R (w1.setCell ⟨(w.heap.size + 1), 0, none⟩ u) u) (hk : er ≠ 0 → k = 0) (hsh : ∀ w u, R w u → IsBool u)
    (H : Calls Try.prog 177 #[.pointer (some ⟨w.heap.size, 0, none⟩), .pointer (some ⟨w.heap.size + 1, 0, none⟩)] ((w.alloc (.cells #[.pointer (some ⟨p, 0, none⟩)] 57)).alloc (.cells #[.bool false] 4)) (Clo ((w.alloc (.cells #[.pointer (some ⟨p, 0, none⟩)] 57)).alloc (.cells #[.bool false] 4)) p (w.heap.size + 1) 4 v bs a er k R)) :
    Calls Try.prog 118 #[.pointer (some ⟨p, 0, none⟩)] w (RdEnd w p v bs (a + k) er R) := by
  have h2 : Ext Nil w ((w.alloc (.cells #[.pointer (some ⟨p, 0, none⟩)] 57)).alloc (.cells #[.bool false] 4)) := ((Ext.refl _ _).alloc _).alloc _
  have hp := h.cells.lt
  exact (bool_meth w _ _ (read_on (h.ext h2 fun _ _ h => h) (by simp [IsClo]) hR (by omega) hk hsh H)).mono fun e w' hm => on_end h h2 (by omega) hRs hm

theorem var_meth (w : World) (rv : Option Addr) (Q : World → Value → Prop)
    (H : Calls Try.prog 174 #[.pointer rv, .func (.func 179) #[] #[.pointer (some ⟨w.heap.size, 0, none⟩), .pointer (some ⟨w.heap.size + 1, 0, none⟩)]] ((w.alloc (.cells #[.pointer rv] 57)).alloc (.cells #[.int .u64 0] 37)) (MRead (w.heap.size + 1) 37 Q (IsInt .u64))) :
    Calls Try.prog 121 #[.pointer rv] w (MEnd (w.heap.size + 1) 37 Q) := by
  go_enter Try.func121, Try.ntmps121
  go_wp2_with fail
  refine H.mono ?_
  rintro e w1 ⟨rfl, u, hA, hQ, n, rfl⟩
  have c0 := hA.cell 0 rfl
  have f0 := hA.frozen 0
  go_wp2_with fail
  have g := (hA.set 0 (.int .u64 n)).cell 0 rfl
  refine bodyPost_ret (v := .int .u64 n) (by simp [results, Try.results121, go_sem, g]) rfl ?_
  exact ⟨_, w1, rfl, hA, hQ, rfl⟩

theorem var_methf (w : World) (rv : Option Addr) (h : Off w rv) : Calls Try.prog 121 #[.pointer rv] w (OffEnd w (.int .u64 0)) := by
  have h2 : Ext Nil w ((w.alloc (.cells #[.pointer rv] 57)).alloc (.cells #[.int .u64 0] 37)) := ((Ext.refl _ _).alloc _).alloc _
  refine (var_meth w rv _ (read_off' (h.ext h2 fun _ _ h => h) _ ?_ ?_)).mono fun e w' hm => off_end h2 (by omega) hm
  · have e : (w.heap.size + 1) = ((w.alloc (.cells #[.pointer rv] 57))).heap.size := by simp
    rw [e]
    exact At.new _ [.int .u64 0] _
  · exact ⟨_, rfl⟩

theorem var_on (w : World) (p : Nat) (v : Value) (bs : List UInt8) (a : Nat) (h : RdAt w p v bs a 0) (er : Int) (k : Nat) (R : World → Value → Prop)
    (hR : ∀ w1 w2 u, R w1 u → Ext (One p) w1 w2 → R w2 u) (hRs : ∀ w1 u, R w1 u → R (w1.setCell ⟨(w.heap.size + 1), 0, none⟩ u) u) (hk : er ≠ 0 → k = 0) (hsh : ∀ w u, R w u → (IsInt .u64) u)
    (H : Calls Try.prog 179 #[.pointer (some ⟨w.heap.size, 0, none⟩), .pointer (some ⟨w.heap.size + 1, 0, none⟩)] ((w.alloc (.cells #[.pointer (some ⟨p, 0, none⟩)] 57)).alloc (.cells #[.int .u64 0] 37)) (Clo ((w.alloc (.cells #[.pointer (some ⟨p, 0, none⟩)] 57)).alloc (.cells #[.int .u64 0] 37)) p (w.heap.size + 1) 37 v bs a er k R)) :
    Calls Try.prog 121 #[.pointer (some ⟨p, 0, none⟩)] w (RdEnd w p v bs (a + k) er R) := by
  have h2 : Ext Nil w ((w.alloc (.cells #[.pointer (some ⟨p, 0, none⟩)] 57)).alloc (.cells #[.int .u64 0] 37)) := ((Ext.refl _ _).alloc _).alloc _
  have hp := h.cells.lt
  exact (var_meth w _ _ (read_on (h.ext h2 fun _ _ h => h) (by simp [IsClo]) hR (by omega) hk hsh H)).mono fun e w' hm => on_end h h2 (by omega) hRs hm

theorem fixed_meth (w : World) (rv : Option Addr) (m : Int) (Q : World → Value → Prop)
    (H : Calls Try.prog 174 #[.pointer rv, .func (.func 200) #[] #[.pointer (some ⟨w.heap.size, 0, none⟩), .pointer (some ⟨w.heap.size + 1, 0, none⟩), .pointer (some ⟨w.heap.size + 2, 0, none⟩)]] (((w.alloc (.cells #[.pointer rv] 57)).alloc (.cells #[.int .i64 m] 3)).alloc (.cells #[.int .u64 0] 37)) (MRead (w.heap.size + 2) 37 Q (IsInt .u64))) :
    Calls Try.prog 178 #[.pointer rv, .int .i64 m] w (MEnd (w.heap.size + 2) 37 Q) := by
  go_enter Try.func178, Try.ntmps178
  go_wp2_with fail
  refine H.mono ?_
  rintro e w1 ⟨rfl, u, hA, hQ, n, rfl⟩
  have c0 := hA.cell 0 rfl
  have f0 := hA.frozen 0
  go_wp2_with fail
  have g := (hA.set 0 (.int .u64 n)).cell 0 rfl
  refine bodyPost_ret (v := .int .u64 n) (by simp [results, Try.results178, go_sem, g]) rfl ?_
  exact ⟨_, w1, rfl, hA, hQ, rfl⟩

theorem fixed_methf (w : World) (rv : Option Addr) (m : Int) (h : Off w rv) : Calls Try.prog 178 #[.pointer rv, .int .i64 m] w (OffEnd w (.int .u64 0)) := by
  have h2 : Ext Nil w (((w.alloc (.cells #[.pointer rv] 57)).alloc (.cells #[.int .i64 m] 3)).alloc (.cells #[.int .u64 0] 37)) := (((Ext.refl _ _).alloc _).alloc _).alloc _
  refine (fixed_meth w rv m _ (read_off' (h.ext h2 fun _ _ h => h) _ ?_ ?_)).mono fun e w' hm => off_end h2 (by omega) hm
  · have e : (w.heap.size + 2) = (((w.alloc (.cells #[.pointer rv] 57)).alloc (.cells #[.int .i64 m] 3))).heap.size := by simp
    rw [e]
    exact At.new _ [.int .u64 0] _
  · exact ⟨_, rfl⟩

theorem fixed_on (w : World) (p : Nat) (v : Value) (bs : List UInt8) (a : Nat) (h : RdAt w p v bs a 0) (m : Int) (er : Int) (k : Nat) (R : World → Value → Prop)
    (hR : ∀ w1 w2 u, R w1 u → Ext (One p) w1 w2 → R w2 u) (hRs : ∀ w1 u, R w1 u → R (w1.setCell ⟨(w.heap.size + 2), 0, none⟩ u) u) (hk : er ≠ 0 → k = 0) (hsh : ∀ w u, R w u → (IsInt .u64) u)
    (H : Calls Try.prog 200 #[.pointer (some ⟨w.heap.size, 0, none⟩), .pointer (some ⟨w.heap.size + 1, 0, none⟩), .pointer (some ⟨w.heap.size + 2, 0, none⟩)] (((w.alloc (.cells #[.pointer (some ⟨p, 0, none⟩)] 57)).alloc (.cells #[.int .i64 m] 3)).alloc (.cells #[.int .u64 0] 37)) (Clo (((w.alloc (.cells #[.pointer (some ⟨p, 0, none⟩)] 57)).alloc (.cells #[.int .i64 m] 3)).alloc (.cells #[.int .u64 0] 37)) p (w.heap.size + 2) 37 v bs a er k R)) :
    Calls Try.prog 178 #[.pointer (some ⟨p, 0, none⟩), .int .i64 m] w (RdEnd w p v bs (a + k) er R) := by
  have h2 : Ext Nil w (((w.alloc (.cells #[.pointer (some ⟨p, 0, none⟩)] 57)).alloc (.cells #[.int .i64 m] 3)).alloc (.cells #[.int .u64 0] 37)) := (((Ext.refl _ _).alloc _).alloc _).alloc _
  have hp := h.cells.lt
  exact (fixed_meth w _ m _ (read_on (h.ext h2 fun _ _ h => h) (by simp [IsClo]) hR (by omega) hk hsh H)).mono fun e w' hm => on_end h h2 (by omega) hRs hm

theorem raw_meth (w : World) (rv : Option Addr) (m : Int) (Q : World → Value → Prop)
    (H : Calls Try.prog 174 #[.pointer rv, .func (.func 181) #[] #[.pointer (some ⟨w.heap.size, 0, none⟩), .pointer (some ⟨w.heap.size + 1, 0, none⟩), .pointer (some ⟨w.heap.size + 2, 0, none⟩)]] (((w.alloc (.cells #[.pointer rv] 57)).alloc (.cells #[.int .i64 m] 3)).alloc (.cells #[.slice none 0 0] 29)) (MRead (w.heap.size + 2) 29 Q IsSlice)) :
    Calls Try.prog 122 #[.pointer rv, .int .i64 m] w (MEnd (w.heap.size + 2) 29 Q) := by
  go_enter Try.func122, Try.ntmps122
  go_wp2_with fail
  refine H.mono ?_
  rintro e w1 ⟨rfl, u, hA, hQ, n, x, y, z, rfl, rfl⟩
  have c0 := hA.cell 0 rfl
  have f0 := hA.frozen 0
  go_wp2_with fail
  have g := (hA.set 0 (.slice x y z)).cell 0 rfl
  refine bodyPost_ret (v := .slice x y z) (by simp [results, Try.results122, go_sem, g]) rfl ?_
  exact ⟨_, w1, rfl, hA, hQ, rfl⟩

theorem raw_methf (w : World) (rv : Option Addr) (m : Int) (h : Off w rv) : Calls Try.prog 122 #[.pointer rv, .int .i64 m] w (OffEnd w (.slice none 0 0)) := by
  have h2 : Ext Nil w (((w.alloc (.cells #[.pointer rv] 57)).alloc (.cells #[.int .i64 m] 3)).alloc (.cells #[.slice none 0 0] 29)) := (((Ext.refl _ _).alloc _).alloc _).alloc _
  refine (raw_meth w rv m _ (read_off' (h.ext h2 fun _ _ h => h) _ ?_ ?_)).mono fun e w' hm => off_end h2 (by omega) hm
  · have e : (w.heap.size + 2) = (((w.alloc (.cells #[.pointer rv] 57)).alloc (.cells #[.int .i64 m] 3))).heap.size := by simp
    rw [e]
    exact At.new _ [.slice none 0 0] _
  · exact ⟨(none, 0, 0), _, _, _, rfl, rfl⟩

theorem raw_on (w : World) (p : Nat) (v : Value) (bs : List UInt8) (a : Nat) (h : RdAt w p v bs a 0) (m : Int) (er : Int) (k : Nat) (R : World → Value → Prop)
    (hR : ∀ w1 w2 u, R w1 u → Ext (One p) w1 w2 → R w2 u) (hRs : ∀ w1 u, R w1 u → R (w1.setCell ⟨(w.heap.size + 2), 0, none⟩ u) u) (hk : er ≠ 0 → k = 0) (hsh : ∀ w u, R w u → IsSlice u)
    (H : Calls Try.prog 181 #[.pointer (some ⟨w.heap.size, 0, none⟩), .pointer (some ⟨w.heap.size + 1, 0, none⟩), .pointer (some ⟨w.heap.size + 2, 0, none⟩)] (((w.alloc (.cells #[.pointer (some ⟨p, 0, none⟩)] 57)).alloc (.cells #[.int .i64 m] 3)).alloc (.cells #[.slice none 0 0] 29)) (Clo (((w.alloc (.cells #[.pointer (some ⟨p, 0, none⟩)] 57)).alloc (.cells #[.int .i64 m] 3)).alloc (.cells #[.slice none 0 0] 29)) p (w.heap.size + 2) 29 v bs a er k R)) :
    Calls Try.prog 122 #[.pointer (some ⟨p, 0, none⟩), .int .i64 m] w (RdEnd w p v bs (a + k) er R) := by
  have h2 : Ext Nil w (((w.alloc (.cells #[.pointer (some ⟨p, 0, none⟩)] 57)).alloc (.cells #[.int .i64 m] 3)).alloc (.cells #[.slice none 0 0] 29)) := (((Ext.refl _ _).alloc _).alloc _).alloc _
  have hp := h.cells.lt
  exact (raw_meth w _ m _ (read_on (h.ext h2 fun _ _ h => h) (by simp [IsClo]) hR (by omega) hk hsh H)).mono fun e w' hm => on_end h h2 (by omega) hRs hm

theorem bytes_meth (w : World) (rv : Option Addr) (m : Int) (Q : World → Value → Prop)
    (H : Calls Try.prog 174 #[.pointer rv, .func (.func 201) #[] #[.pointer (some ⟨w.heap.size + 1, 0, none⟩), .pointer (some ⟨w.heap.size, 0, none⟩), .pointer (some ⟨w.heap.size + 2, 0, none⟩)]] (((w.alloc (.cells #[.pointer rv] 57)).alloc (.cells #[.int .i64 m] 3)).alloc (.cells #[.slice none 0 0] 29)) (MRead (w.heap.size + 2) 29 Q IsSlice)) :
    Calls Try.prog 182 #[.pointer rv, .int .i64 m] w (MEnd (w.heap.size + 2) 29 Q) := by
  go_enter Try.func182, Try.ntmps182
  go_wp2_with fail
  refine H.mono ?_
  rintro e w1 ⟨rfl, u, hA, hQ, n, x, y, z, rfl, rfl⟩
  have c0 := hA.cell 0 rfl
  have f0 := hA.frozen 0
  go_wp2_with fail
  have g := (hA.set 0 (.slice x y z)).cell 0 rfl
  refine bodyPost_ret (v := .slice x y z) (by simp [results, Try.results182, go_sem, g]) rfl ?_
  exact ⟨_, w1, rfl, hA, hQ, rfl⟩

theorem bytes_methf (w : World) (rv : Option Addr) (m : Int) (h : Off w rv) : Calls Try.prog 182 #[.pointer rv, .int .i64 m] w (OffEnd w (.slice none 0 0)) := by
  have h2 : Ext Nil w (((w.alloc (.cells #[.pointer rv] 57)).alloc (.cells #[.int .i64 m] 3)).alloc (.cells #[.slice none 0 0] 29)) := (((Ext.refl _ _).alloc _).alloc _).alloc _
  refine (bytes_meth w rv m _ (read_off' (h.ext h2 fun _ _ h => h) _ ?_ ?_)).mono fun e w' hm => off_end h2 (by omega) hm
  · have e : (w.heap.size + 2) = (((w.alloc (.cells #[.pointer rv] 57)).alloc (.cells #[.int .i64 m] 3))).heap.size := by simp
    rw [e]
    exact At.new _ [.slice none 0 0] _
  · exact ⟨(none, 0, 0), _, _, _, rfl, rfl⟩

theorem bytes_on (w : World) (p : Nat) (v : Value) (bs : List UInt8) (a : Nat) (h : RdAt w p v bs a 0) (m : Int) (er : Int) (k : Nat) (R : World → Value → Prop)
    (hR : ∀ w1 w2 u, R w1 u → Ext (One p) w1 w2 → R w2 u) (hRs : ∀ w1 u, R w1 u → R (w1.setCell ⟨(w.heap.size + 2), 0, none⟩ u) u) (hk : er ≠ 0 → k = 0) (hsh : ∀ w u, R w u → IsSlice u)
    (H : Calls Try.prog 201 #[.pointer (some ⟨w.heap.size + 1, 0, none⟩), .pointer (some ⟨w.heap.size, 0, none⟩), .pointer (some ⟨w.heap.size + 2, 0, none⟩)] (((w.alloc (.cells #[.pointer (some ⟨p, 0, none⟩)] 57)).alloc (.cells #[.int .i64 m] 3)).alloc (.cells #[.slice none 0 0] 29)) (Clo (((w.alloc (.cells #[.pointer (some ⟨p, 0, none⟩)] 57)).alloc (.cells #[.int .i64 m] 3)).alloc (.cells #[.slice none 0 0] 29)) p (w.heap.size + 2) 29 v bs a er k R)) :
    Calls Try.prog 182 #[.pointer (some ⟨p, 0, none⟩), .int .i64 m] w (RdEnd w p v bs (a + k) er R) := by
  have h2 : Ext Nil w (((w.alloc (.cells #[.pointer (some ⟨p, 0, none⟩)] 57)).alloc (.cells #[.int .i64 m] 3)).alloc (.cells #[.slice none 0 0] 29)) := (((Ext.refl _ _).alloc _).alloc _).alloc _
  have hp := h.cells.lt
  exact (bytes_meth w _ m _ (read_on (h.ext h2 fun _ _ h => h) (by simp [IsClo]) hR (by omega) hk hsh H)).mono fun e w' hm => on_end h h2 (by omega) hRs hm

theorem text_meth (w : World) (rv : Option Addr) (m : Int) (Q : World → Value → Prop)
    (H : Calls Try.prog 174 #[.pointer rv, .func (.func 202) #[] #[.pointer (some ⟨w.heap.size + 1, 0, none⟩), .pointer (some ⟨w.heap.size, 0, none⟩), .pointer (some ⟨w.heap.size + 2, 0, none⟩)]] (((w.alloc (.cells #[.pointer rv] 57)).alloc (.cells #[.int .i64 m] 3)).alloc (.cells #[.string { data := #[] }] 9)) (MRead (w.heap.size + 2) 9 Q IsStr)) :
    Calls Try.prog 183 #[.pointer rv, .int .i64 m] w (MEnd (w.heap.size + 2) 9 Q) := by
  go_enter Try.func183, Try.ntmps183
  go_wp2_with fail
  refine H.mono ?_
  rintro e w1 ⟨rfl, u, hA, hQ, n, rfl⟩
  have c0 := hA.cell 0 rfl
  have f0 := hA.frozen 0
  go_wp2_with fail
  have g := (hA.set 0 (.string n)).cell 0 rfl
  refine bodyPost_ret (v := .string n) (by simp [results, Try.results183, go_sem, g]) rfl ?_
  exact ⟨_, w1, rfl, hA, hQ, rfl⟩

theorem text_methf (w : World) (rv : Option Addr) (m : Int) (h : Off w rv) : Calls Try.prog 183 #[.pointer rv, .int .i64 m] w (OffEnd w (.string { data := #[] })) := by
  have h2 : Ext Nil w (((w.alloc (.cells #[.pointer rv] 57)).alloc (.cells #[.int .i64 m] 3)).alloc (.cells #[.string { data := #[] }] 9)) := (((Ext.refl _ _).alloc _).alloc _).alloc _
  refine (text_meth w rv m _ (read_off' (h.ext h2 fun _ _ h => h) _ ?_ ?_)).mono fun e w' hm => off_end h2 (by omega) hm
  · have e : (w.heap.size + 2) = (((w.alloc (.cells #[.pointer rv] 57)).alloc (.cells #[.int .i64 m] 3))).heap.size := by simp
    rw [e]
    exact At.new _ [.string { data := #[] }] _
  · exact ⟨_, rfl⟩

theorem text_on (w : World) (p : Nat) (v : Value) (bs : List UInt8) (a : Nat) (h : RdAt w p v bs a 0) (m : Int) (er : Int) (k : Nat) (R : World → Value → Prop)
    (hR : ∀ w1 w2 u, R w1 u → Ext (One p) w1 w2 → R w2 u) (hRs : ∀ w1 u, R w1 u → R (w1.setCell ⟨(w.heap.size + 2), 0, none⟩ u) u) (hk : er ≠ 0 → k = 0) (hsh : ∀ w u, R w u → IsStr u)
    (H : Calls Try.prog 202 #[.pointer (some ⟨w.heap.size + 1, 0, none⟩), .pointer (some ⟨w.heap.size, 0, none⟩), .pointer (some ⟨w.heap.size + 2, 0, none⟩)] (((w.alloc (.cells #[.pointer (some ⟨p, 0, none⟩)] 57)).alloc (.cells #[.int .i64 m] 3)).alloc (.cells #[.string { data := #[] }] 9)) (Clo (((w.alloc (.cells #[.pointer (some ⟨p, 0, none⟩)] 57)).alloc (.cells #[.int .i64 m] 3)).alloc (.cells #[.string { data := #[] }] 9)) p (w.heap.size + 2) 9 v bs a er k R)) :
    Calls Try.prog 183 #[.pointer (some ⟨p, 0, none⟩), .int .i64 m] w (RdEnd w p v bs (a + k) er R) := by
  have h2 : Ext Nil w (((w.alloc (.cells #[.pointer (some ⟨p, 0, none⟩)] 57)).alloc (.cells #[.int .i64 m] 3)).alloc (.cells #[.string { data := #[] }] 9)) := (((Ext.refl _ _).alloc _).alloc _).alloc _
  have hp := h.cells.lt
  exact (text_meth w _ m _ (read_on (h.ext h2 fun _ _ h => h) (by simp [IsClo]) hR (by omega) hk hsh H)).mono fun e w' hm => on_end h h2 (by omega) hRs hm

theorem count_meth (w : World) (rv : Option Addr) (m : Int) (l : Int) (Q : World → Value → Prop)
    (H : Calls Try.prog 174 #[.pointer rv, .func (.func 184) #[] #[.pointer (some ⟨w.heap.size + 1, 0, none⟩), .pointer (some ⟨w.heap.size + 2, 0, none⟩), .pointer (some ⟨w.heap.size, 0, none⟩), .pointer (some ⟨w.heap.size + 3, 0, none⟩)]] ((((w.alloc (.cells #[.pointer rv] 57)).alloc (.cells #[.int .i64 m] 3)).alloc (.cells #[.int .i64 l] 3)).alloc (.cells #[.int .i64 0] 3)) (MRead (w.heap.size + 3) 3 Q (IsInt .i64))) :
    Calls Try.prog 125 #[.pointer rv, .int .i64 m, .int .i64 l] w (MEnd (w.heap.size + 3) 3 Q) := by
  go_enter Try.func125, Try.ntmps125
  go_wp2_with fail
  refine H.mono ?_
  rintro e w1 ⟨rfl, u, hA, hQ, n, rfl⟩
  have c0 := hA.cell 0 rfl
  have f0 := hA.frozen 0
  go_wp2_with fail
  have g := (hA.set 0 (.int .i64 n)).cell 0 rfl
  refine bodyPost_ret (v := .int .i64 n) (by simp [results, Try.results125, go_sem, g]) rfl ?_
  exact ⟨_, w1, rfl, hA, hQ, rfl⟩

theorem count_methf (w : World) (rv : Option Addr) (m : Int) (l : Int) (h : Off w rv) : Calls Try.prog 125 #[.pointer rv, .int .i64 m, .int .i64 l] w (OffEnd w (.int .i64 0)) := by
  have h2 : Ext Nil w ((((w.alloc (.cells #[.pointer rv] 57)).alloc (.cells #[.int .i64 m] 3)).alloc (.cells #[.int .i64 l] 3)).alloc (.cells #[.int .i64 0] 3)) := ((((Ext.refl _ _).alloc _).alloc _).alloc _).alloc _
  refine (count_meth w rv m l _ (read_off' (h.ext h2 fun _ _ h => h) _ ?_ ?_)).mono fun e w' hm => off_end h2 (by omega) hm
  · have e : (w.heap.size + 3) = ((((w.alloc (.cells #[.pointer rv] 57)).alloc (.cells #[.int .i64 m] 3)).alloc (.cells #[.int .i64 l] 3))).heap.size := by simp
    rw [e]
    exact At.new _ [.int .i64 0] _
  · exact ⟨_, rfl⟩

theorem count_on (w : World) (p : Nat) (v : Value) (bs : List UInt8) (a : Nat) (h : RdAt w p v bs a 0) (m : Int) (l : Int) (er : Int) (k : Nat) (R : World → Value → Prop)
    (hR : ∀ w1 w2 u, R w1 u → Ext (One p) w1 w2 → R w2 u) (hRs : ∀ w1 u, R w1 u → R (w1.setCell ⟨(w.heap.size + 3), 0, none⟩ u) u) (hk : er ≠ 0 → k = 0) (hsh : ∀ w u, R w u → (IsInt .i64) u)
    (H : Calls Try.prog 184 #[.pointer (some ⟨w.heap.size + 1, 0, none⟩), .pointer (some ⟨w.heap.size + 2, 0, none⟩), .pointer (some ⟨w.heap.size, 0, none⟩), .pointer (some ⟨w.heap.size + 3, 0, none⟩)] ((((w.alloc (.cells #[.pointer (some ⟨p, 0, none⟩)] 57)).alloc (.cells #[.int .i64 m] 3)).alloc (.cells #[.int .i64 l] 3)).alloc (.cells #[.int .i64 0] 3)) (Clo ((((w.alloc (.cells #[.pointer (some ⟨p, 0, none⟩)] 57)).alloc (.cells #[.int .i64 m] 3)).alloc (.cells #[.int .i64 l] 3)).alloc (.cells #[.int .i64 0] 3)) p (w.heap.size + 3) 3 v bs a er k R)) :
    Calls Try.prog 125 #[.pointer (some ⟨p, 0, none⟩), .int .i64 m, .int .i64 l] w (RdEnd w p v bs (a + k) er R) := by
  have h2 : Ext Nil w ((((w.alloc (.cells #[.pointer (some ⟨p, 0, none⟩)] 57)).alloc (.cells #[.int .i64 m] 3)).alloc (.cells #[.int .i64 l] 3)).alloc (.cells #[.int .i64 0] 3)) := ((((Ext.refl _ _).alloc _).alloc _).alloc _).alloc _
  have hp := h.cells.lt
  exact (count_meth w _ m l _ (read_on (h.ext h2 fun _ _ h => h) (by simp [IsClo]) hR (by omega) hk hsh H)).mono fun e w' hm => on_end h h2 (by omega) hRs hm
end Go.Proofs.Ytdgagpoeefbdjaa
