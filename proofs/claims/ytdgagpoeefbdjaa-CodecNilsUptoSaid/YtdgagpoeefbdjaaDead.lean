/- Contracts: a codec.Writer that is nil or that New did not make: nothing is laid down. -/
import Derived.Test.YtdgagpoeefbdjaaAll
namespace Go.Proofs.Ytdgagpoeefbdjaa
open Go.RowKit

/-- no writer, or none that New made -/
def DeadW (w : World) (rv : Option Addr) : Prop := rv = none ∨ ∃ p, rv = some ⟨p, 0, none⟩ ∧ w.cell? ⟨p, 0, none⟩ = some (.bool false)
theorem DeadW.ext {F : Nat → Prop} {w w' : World} {rv : Option Addr} (h : DeadW w rv) (e : Ext F w w') (hF : ∀ p, rv = some ⟨p, 0, none⟩ → ¬ F p) : DeadW w' rv := by
  rcases h with h | ⟨p, rfl, h0⟩
  · exact .inl h
  · exact .inr ⟨p, rfl, e.cell h0 (hF p rfl)⟩
theorem DeadW.nil {w w' : World} {rv : Option Addr} (h : DeadW w rv) (e : Ext Nil w w') : DeadW w' rv := h.ext e fun _ _ h => h
theorem DeadW.alloc {w : World} {rv : Option Addr} (h : DeadW w rv) (o : Obj) : DeadW (w.alloc o) rv := h.nil ((Ext.refl _ _).alloc o)
/-- a call that does nothing to what was there -/
def Still (w : World) (e : Ending) (w' : World) : Prop := e = .returned (.tuple #[]) ∧ Ext Nil w w'

theorem live_dead (w : World) (rv : Option Addr) (h : DeadW w rv) : Calls Try.prog 172 #[.pointer rv] w fun e w' => e = .returned (.bool false) ∧ w = w' := by
  rcases h with rfl | ⟨p, rfl, c0⟩
  · go_enter Try.func172, Try.ntmps172
    go_wp2
    go_ret
    exact ⟨rfl, rfl⟩
  · go_enter Try.func172, Try.ntmps172
    go_wp2
    go_ret
    exact ⟨rfl, rfl⟩

theorem put_dead (w : World) (rv : Option Addr) (h : DeadW w rv) (ao : Option Addr) (n cap : Nat) : Calls Try.prog 168 #[.pointer rv, .slice ao n cap] w (Still w) := by
  go_enter Try.func168, Try.ntmps168
  go_wp2_with (first
    | (go_at_call 172; refine (live_dead w rv h).mono ?_; rintro e w' ⟨rfl, rfl⟩))
  go_end0
  exact ⟨rfl, Ext.refl _ _⟩

theorem byte_dead (w : World) (rv : Option Addr) (h : DeadW w rv) (n : Int) : Calls Try.prog 95 #[.pointer rv, .int .u8 n] w (Still w) := by
  go_enter Try.func95, Try.ntmps95
  go_wp2_with fail
  refine (put_dead _ rv (h.alloc _) _ _ _).mono ?_
  rintro e w' ⟨rfl, h1⟩
  go_wp2_with fail
  go_end0
  exact ⟨rfl, ((Ext.refl _ _).alloc _).same h1⟩

theorem bool_dead (w : World) (rv : Option Addr) (h : DeadW w rv) (b : Bool) : Calls Try.prog 96 #[.pointer rv, .bool b] w (Still w) := by
  cases b
  all_goals
    go_enter Try.func96, Try.ntmps96
    go_wp2_with fail
    refine (put_dead _ rv (h.alloc _) _ _ _).mono ?_
    rintro e w' ⟨rfl, h1⟩
    go_wp2_with fail
    go_end0
    exact ⟨rfl, ((Ext.refl _ _).alloc _).same h1⟩

theorem raw_dead (w : World) (rv : Option Addr) (h : DeadW w rv) (ao : Option Addr) (n cap : Nat) : Calls Try.prog 100 #[.pointer rv, .slice ao n cap] w (Still w) := by
  go_enter Try.func100, Try.ntmps100
  go_wp2_with fail
  refine (put_dead _ rv h _ _ _).mono ?_
  rintro e w' ⟨rfl, h1⟩
  go_wp2_with fail
  go_end0
  exact ⟨rfl, h1⟩

set_option maxRecDepth 20000 in
theorem var_dead (w : World) (rv : Option Addr) (h : DeadW w rv) (n : Nat) (hn : IsU64 n) : Calls Try.prog 99 #[.pointer rv, .int .u64 n] w (Still w) := by
  go_enter Try.func99, Try.ntmps99
  go_wp2_with fail
  go_loopw [1] (fun x wr => ∃ z : Nat, IsU64 z ∧ x = .int .u64 z ∧ Ext Nil w wr) (fun x _ => (intOf x).toNat)
  case atStart => exact ⟨n, hn, rfl, Ext.refl _ _⟩
  case round =>
    obtain ⟨z, hz, rfl, hX⟩ := hrel
    have hD := h.nil hX
    by_cases hge : 128 ≤ z
    · go_wp2_with fail
      rw [or_128 z]
      refine (put_dead _ rv (hD.alloc _) _ _ _).mono ?_
      rintro e w1 ⟨rfl, h3⟩
      go_wp2_with fail
      refine ⟨⟨z / 128, ?_, by go_num, (hX.alloc _).same h3⟩, ?_⟩
      · unfold IsU64 at *; omega
      · simp [intOf]; omega
    · go_wp2_with fail
      refine (put_dead _ rv (hD.alloc _) _ _ _).mono ?_
      rintro e w1 ⟨rfl, h3⟩
      go_wp2_with fail
      go_end0
      exact ⟨rfl, (hX.alloc _).same h3⟩

theorem fixed_dead (w : World) (rv : Option Addr) (h : DeadW w rv) (x : Nat) (n : Nat) (hn : n ≤ 8) : Calls Try.prog 169 #[.pointer rv, .int .u64 x, .int .i64 n] w (Still w) := by
  go_enter Try.func169, Try.ntmps169
  go_wp2_with fail
  go_loopw [8] (fun c wr => ∃ k : Nat, k ≤ n ∧ c = .int .i64 k ∧ Ext Nil w wr) (fun c _ => n - (intOf c).toNat)
  case atStart => exact ⟨0, Nat.zero_le _, rfl, Ext.refl _ _⟩
  case round =>
    obtain ⟨k, hk, rfl, hX⟩ := hrel
    have hD := h.nil hX
    by_cases hlt : k < n
    · go_wp2_with fail
      refine (put_dead _ rv (hD.alloc _) _ _ _).mono ?_
      rintro e w1 ⟨rfl, h3⟩
      go_wp2_with fail
      exact ⟨⟨k + 1, by omega, by go_num, (hX.alloc _).same h3⟩, by simp [intOf]; omega⟩
    · go_wp2_with fail
      go_end0
      exact ⟨rfl, hX⟩

theorem u32_dead (w : World) (rv : Option Addr) (h : DeadW w rv) (x : Nat) (_hx : x < 4294967296) : Calls Try.prog 97 #[.pointer rv, .int .u32 x] w (Still w) := by
  go_enter Try.func97, Try.ntmps97
  go_wp2_with fail
  refine (fixed_dead _ rv h x 4 (by omega)).mono ?_
  rintro e w1 ⟨rfl, h1⟩
  go_wp2_with fail
  go_end0
  exact ⟨rfl, h1⟩

theorem u64_dead (w : World) (rv : Option Addr) (h : DeadW w rv) (x : Nat) (_hx : x < 18446744073709551616) : Calls Try.prog 98 #[.pointer rv, .int .u64 x] w (Still w) := by
  go_enter Try.func98, Try.ntmps98
  go_wp2_with fail
  refine (fixed_dead _ rv h x 8 (by omega)).mono ?_
  rintro e w1 ⟨rfl, h1⟩
  go_wp2_with fail
  go_end0
  exact ⟨rfl, h1⟩

theorem putBytes_dead (w : World) (rv : Option Addr) (h : DeadW w rv) (ao : Option Addr) (n cap : Nat) (hn : n ≤ 1099511627776) : Calls Try.prog 170 #[.pointer rv, .slice ao n cap] w (Still w) := by
  go_enter Try.func170, Try.ntmps170
  go_wp2_with fail
  refine (var_dead w rv h n (by unfold IsU64; omega)).mono ?_
  rintro e w1 ⟨rfl, h1⟩
  go_wp2_with (first
    | (go_at_call 172; refine (live_dead w1 rv (h.nil h1)).mono ?_; rintro e w' ⟨rfl, rfl⟩))
  go_end0
  exact ⟨rfl, h1⟩

theorem putString_dead (w : World) (rv : Option Addr) (h : DeadW w rv) (s : ByteArray) (hn : s.size ≤ 1099511627776) : Calls Try.prog 171 #[.pointer rv, .string s] w (Still w) := by
  go_enter Try.func171, Try.ntmps171
  go_wp2_with fail
  refine (var_dead w rv h s.size (by unfold IsU64; omega)).mono ?_
  rintro e w1 ⟨rfl, h1⟩
  go_wp2_with (first
    | (go_at_call 172; refine (live_dead w1 rv (h.nil h1)).mono ?_; rintro e w' ⟨rfl, rfl⟩))
  go_end0
  exact ⟨rfl, h1⟩

theorem bytes_dead (w : World) (rv : Option Addr) (h : DeadW w rv) (ao : Option Addr) (n cap : Nat) (hn : n ≤ 1099511627776) : Calls Try.prog 101 #[.pointer rv, .slice ao n cap] w (Still w) := by
  go_enter Try.func101, Try.ntmps101
  go_wp2_with fail
  refine (putBytes_dead _ rv h _ _ _ hn).mono ?_
  rintro e w1 ⟨rfl, h1⟩
  go_wp2_with fail
  go_end0
  exact ⟨rfl, h1⟩

theorem text_dead (w : World) (rv : Option Addr) (h : DeadW w rv) (s : ByteArray) (hn : s.size ≤ 1099511627776) : Calls Try.prog 102 #[.pointer rv, .string s] w (Still w) := by
  go_enter Try.func102, Try.ntmps102
  go_wp2_with fail
  refine (putString_dead _ rv h _ hn).mono ?_
  rintro e w1 ⟨rfl, h1⟩
  go_wp2_with fail
  go_end0
  exact ⟨rfl, h1⟩

theorem count_dead (w : World) (rv : Option Addr) (h : DeadW w rv) (n : Int) : Calls Try.prog 103 #[.pointer rv, .int .i64 n] w (Still w) := by
  go_enter Try.func103, Try.ntmps103
  go_wp2_with (first
    | (go_at_call 172; refine (live_dead w rv h).mono ?_; rintro e w' ⟨rfl, rfl⟩))
  refine bodyPost_ret (results_none rfl _ _ _) rfl ?_
  exact ⟨rfl, Ext.refl _ _⟩

theorem out_dead (w : World) (rv : Option Addr) (h : DeadW w rv) : Calls Try.prog 55 #[.pointer rv] w fun e w' => e = .returned (.tuple #[.slice none 0 0, .int .i64 1]) ∧ w = w' := by
  rcases h with rfl | ⟨p, rfl, c0⟩
  · go_enter Try.func55, Try.ntmps55
    go_wp2
    go_ret2
    exact ⟨rfl, rfl⟩
  · go_enter Try.func55, Try.ntmps55
    go_wp2
    go_ret2
    exact ⟨rfl, rfl⟩

def DidLay (w : World) (e : Ending) (w' : World) : Prop := e = .returned (.bool true) ∧ Ext Nil w w'

set_option maxRecDepth 20000 in
theorem lay0_dead (w : World) (rv : Option Addr) (h : DeadW w rv) (K : Int) (N : Nat) (x : Value) (B : List UInt8) (hp : PutOk w K N x B) (hk : K % 9 = 0) :
    Calls Try.prog 31 #[.pointer rv, put K N x] w (DidLay w) := by
  unfold put
  have hN := hp.n
  have hk0 := hp.k0
  have hk1 := hp.k1
  go_enter Try.func31, Try.ntmps31
  go_wp2_with (first
    | (go_at_call 35; refine (kind_any _ K hk0 hk1).mono ?_; rintro e w' ⟨rfl, rfl⟩)
    | (go_at_call 95; refine (byte_dead _ rv (h.alloc _) _).mono ?_; rintro e w1 ⟨rfl, h1⟩))
  go_ret
  exact ⟨rfl, ((Ext.refl _ _).alloc _).same h1⟩

set_option maxRecDepth 20000 in
theorem lay1_dead (w : World) (rv : Option Addr) (h : DeadW w rv) (K : Int) (N : Nat) (x : Value) (B : List UInt8) (hp : PutOk w K N x B) (hk : K % 9 = 1) :
    Calls Try.prog 31 #[.pointer rv, put K N x] w (DidLay w) := by
  unfold put
  have hN := hp.n
  have hk0 := hp.k0
  have hk1 := hp.k1
  go_enter Try.func31, Try.ntmps31
  go_wp2_with (first
    | (go_at_call 35; refine (kind_any _ K hk0 hk1).mono ?_; rintro e w' ⟨rfl, rfl⟩)
    | (go_at_call 96; refine (bool_dead _ rv (h.alloc _) _).mono ?_; rintro e w1 ⟨rfl, h1⟩))
  go_ret
  exact ⟨rfl, ((Ext.refl _ _).alloc _).same h1⟩

set_option maxRecDepth 20000 in
theorem lay2_dead (w : World) (rv : Option Addr) (h : DeadW w rv) (K : Int) (N : Nat) (x : Value) (B : List UInt8) (hp : PutOk w K N x B) (hk : K % 9 = 2) :
    Calls Try.prog 31 #[.pointer rv, put K N x] w (DidLay w) := by
  unfold put
  have hN := hp.n
  have hk0 := hp.k0
  have hk1 := hp.k1
  go_enter Try.func31, Try.ntmps31
  go_wp2_with (first
    | (go_at_call 35; refine (kind_any _ K hk0 hk1).mono ?_; rintro e w' ⟨rfl, rfl⟩)
    | (go_at_call 97; rw [mod32 N]; refine (u32_dead _ rv (h.alloc _) (N % 4294967296) (Nat.mod_lt _ (by omega))).mono ?_; rintro e w1 ⟨rfl, h1⟩))
  go_ret
  exact ⟨rfl, ((Ext.refl _ _).alloc _).same h1⟩

set_option maxRecDepth 20000 in
theorem lay3_dead (w : World) (rv : Option Addr) (h : DeadW w rv) (K : Int) (N : Nat) (x : Value) (B : List UInt8) (hp : PutOk w K N x B) (hk : K % 9 = 3) :
    Calls Try.prog 31 #[.pointer rv, put K N x] w (DidLay w) := by
  unfold put
  have hN := hp.n
  have hk0 := hp.k0
  have hk1 := hp.k1
  go_enter Try.func31, Try.ntmps31
  go_wp2_with (first
    | (go_at_call 35; refine (kind_any _ K hk0 hk1).mono ?_; rintro e w' ⟨rfl, rfl⟩)
    | (go_at_call 98; refine (u64_dead _ rv (h.alloc _) N hN).mono ?_; rintro e w1 ⟨rfl, h1⟩))
  go_ret
  exact ⟨rfl, ((Ext.refl _ _).alloc _).same h1⟩

set_option maxRecDepth 20000 in
theorem lay4_dead (w : World) (rv : Option Addr) (h : DeadW w rv) (K : Int) (N : Nat) (x : Value) (B : List UInt8) (hp : PutOk w K N x B) (hk : K % 9 = 4) :
    Calls Try.prog 31 #[.pointer rv, put K N x] w (DidLay w) := by
  unfold put
  have hN := hp.n
  have hk0 := hp.k0
  have hk1 := hp.k1
  go_enter Try.func31, Try.ntmps31
  go_wp2_with (first
    | (go_at_call 35; refine (kind_any _ K hk0 hk1).mono ?_; rintro e w' ⟨rfl, rfl⟩)
    | (go_at_call 99; refine (var_dead _ rv (h.alloc _) N hN).mono ?_; rintro e w1 ⟨rfl, h1⟩))
  go_ret
  exact ⟨rfl, ((Ext.refl _ _).alloc _).same h1⟩

set_option maxRecDepth 20000 in
theorem lay5_dead (w : World) (rv : Option Addr) (h : DeadW w rv) (K : Int) (N : Nat) (x : Value) (B : List UInt8) (hp : PutOk w K N x B) (hfit : Fits (B.length + 3)) (hk : K % 9 = 5) :
    Calls Try.prog 31 #[.pointer rv, put K N x] w (DidLay w) := by
  unfold put
  have hN := hp.n
  have hk0 := hp.k0
  have hk1 := hp.k1
  have hfit' : B.length + 3 ≤ 1099511627776 := hfit
  have hW0 : DeadW (w.alloc (.cells #[.int .i64 K, .int .u64 N, x] 39 (0, 0))) rv := h.alloc _
  have hx0 : Bytes (w.alloc (.cells #[.int .i64 K, .int .u64 N, x] 39 (0, 0))) x B := hp.bytes.alloc _
  have hA0 := At.new w [.int .i64 K, .int .u64 N, x] 39
  go_enter Try.func31, Try.ntmps31
  go_wp2_with (first
    | (go_at_call 35; refine (kind_any _ K hk0 hk1).mono ?_; rintro e w' ⟨rfl, rfl⟩)
    | (go_at_call 40; refine (lent_any _ x B hx0 (by unfold Fits; omega)).mono ?_; rintro e w1 ⟨g, cap, g1, g2, rfl, p3, p4⟩; have hA1 := hA0.ext p4.1 (fun h => h); have hb1 := hA1.cell 2 rfl; have hW1 := hW0.ext p4.1 (fun _ _ h => h); have hx1 := hx0.ext p4.1 (fun _ _ h => h); have gf := lent_apart (F := Nil) (by omega) p3 p4 (fun _ h => h.elim))
    | (go_at_call 100; refine (raw_dead _ rv hW1 _ _ _).mono ?_; rintro e w2 ⟨rfl, h2⟩; have hA2 := hA1.ext h2 (fun h => h); have hb2 := hA2.cell 2 rfl; have hx2 := hx1.ext h2 (fun _ _ h => h); have hL2 := p3.ext h2 (fun _ _ h => h))
    | (go_at_call 42; refine (left_any _ g cap x B hL2 hx2 (by unfold Fits; omega)).mono ?_; rintro e w3 ⟨rfl, q3, q4⟩))
  go_ret
  refine ⟨rfl, (((step_alloc Nil _ _).trans (step_any_nil (p4.1.same h2))).tail q4 ?_).1⟩
  intro i hi
  have hi : i = g := hi
  have := gf.1
  omega

set_option maxRecDepth 20000 in
theorem lay6_dead (w : World) (rv : Option Addr) (h : DeadW w rv) (K : Int) (N : Nat) (x : Value) (B : List UInt8) (hp : PutOk w K N x B) (hfit : Fits (B.length + 3)) (hk : K % 9 = 6) :
    Calls Try.prog 31 #[.pointer rv, put K N x] w (DidLay w) := by
  unfold put
  have hN := hp.n
  have hk0 := hp.k0
  have hk1 := hp.k1
  have hfit' : B.length + 3 ≤ 1099511627776 := hfit
  have hW0 : DeadW (w.alloc (.cells #[.int .i64 K, .int .u64 N, x] 39 (0, 0))) rv := h.alloc _
  have hx0 : Bytes (w.alloc (.cells #[.int .i64 K, .int .u64 N, x] 39 (0, 0))) x B := hp.bytes.alloc _
  have hA0 := At.new w [.int .i64 K, .int .u64 N, x] 39
  go_enter Try.func31, Try.ntmps31
  go_wp2_with (first
    | (go_at_call 35; refine (kind_any _ K hk0 hk1).mono ?_; rintro e w' ⟨rfl, rfl⟩)
    | (go_at_call 40; refine (lent_any _ x B hx0 (by unfold Fits; omega)).mono ?_; rintro e w1 ⟨g, cap, g1, g2, rfl, p3, p4⟩; have hA1 := hA0.ext p4.1 (fun h => h); have hb1 := hA1.cell 2 rfl; have hW1 := hW0.ext p4.1 (fun _ _ h => h); have hx1 := hx0.ext p4.1 (fun _ _ h => h); have gf := lent_apart (F := Nil) (by omega) p3 p4 (fun _ h => h.elim))
    | (go_at_call 101; refine (bytes_dead _ rv hW1 _ _ _ (by omega)).mono ?_; rintro e w2 ⟨rfl, h2⟩; have hA2 := hA1.ext h2 (fun h => h); have hb2 := hA2.cell 2 rfl; have hx2 := hx1.ext h2 (fun _ _ h => h); have hL2 := p3.ext h2 (fun _ _ h => h))
    | (go_at_call 42; refine (left_any _ g cap x B hL2 hx2 (by unfold Fits; omega)).mono ?_; rintro e w3 ⟨rfl, q3, q4⟩))
  go_ret
  refine ⟨rfl, (((step_alloc Nil _ _).trans (step_any_nil (p4.1.same h2))).tail q4 ?_).1⟩
  intro i hi
  have hi : i = g := hi
  have := gf.1
  omega

set_option maxRecDepth 20000 in
theorem lay7_dead (w : World) (rv : Option Addr) (h : DeadW w rv) (K : Int) (N : Nat) (x : Value) (B : List UInt8) (hp : PutOk w K N x B) (hfit : Fits (B.length + 3)) (hk : K % 9 = 7) :
    Calls Try.prog 31 #[.pointer rv, put K N x] w (DidLay w) := by
  unfold put
  have hN := hp.n
  have hk0 := hp.k0
  have hk1 := hp.k1
  have hfit' : B.length + 3 ≤ 1099511627776 := hfit
  have hr := run_toStr (w.alloc (.cells #[.int .i64 K, .int .u64 N, x] 39 (0, 0))) x B (hp.bytes.alloc _)
  go_enter Try.func31, Try.ntmps31
  go_wp2_with (first
    | (go_at_call 35; refine (kind_any _ K hk0 hk1).mono ?_; rintro e w' ⟨rfl, rfl⟩)
    )
  refine (text_dead _ rv (h.alloc _) _ (by show B.toArray.size ≤ _; simp; omega)).mono ?_
  rintro e w1 ⟨rfl, h1⟩
  go_wp2_with fail
  go_ret
  exact ⟨rfl, ((Ext.refl _ _).alloc _).same h1⟩

set_option maxRecDepth 20000 in
theorem lay8_dead (w : World) (rv : Option Addr) (h : DeadW w rv) (K : Int) (N : Nat) (x : Value) (B : List UInt8) (hp : PutOk w K N x B) (hk : K % 9 = 8) :
    Calls Try.prog 31 #[.pointer rv, put K N x] w (DidLay w) := by
  unfold put
  have hN := hp.n
  have hk0 := hp.k0
  have hk1 := hp.k1
  go_enter Try.func31, Try.ntmps31
  go_wp2_with (first
    | (go_at_call 35; refine (kind_any _ K hk0 hk1).mono ?_; rintro e w' ⟨rfl, rfl⟩)
    | (go_at_call 103; refine (count_dead _ rv (h.alloc _) _).mono ?_; rintro e w1 ⟨rfl, h1⟩))
  go_ret
  exact ⟨rfl, ((Ext.refl _ _).alloc _).same h1⟩

theorem lay_dead (w : World) (rv : Option Addr) (h : DeadW w rv) (K : Int) (N : Nat) (x : Value) (B : List UInt8) (hp : PutOk w K N x B) (hfit : Fits (B.length + 3)) :
    Calls Try.prog 31 #[.pointer rv, put K N x] w (DidLay w) := by
  have h9 : K % 9 = 0 ∨ K % 9 = 1 ∨ K % 9 = 2 ∨ K % 9 = 3 ∨ K % 9 = 4 ∨ K % 9 = 5 ∨ K % 9 = 6 ∨ K % 9 = 7 ∨ K % 9 = 8 := by omega
  rcases h9 with h9 | h9 | h9 | h9 | h9 | h9 | h9 | h9 | h9
  · exact lay0_dead w rv h K N x B hp h9
  · exact lay1_dead w rv h K N x B hp h9
  · exact lay2_dead w rv h K N x B hp h9
  · exact lay3_dead w rv h K N x B hp h9
  · exact lay4_dead w rv h K N x B hp h9
  · exact lay5_dead w rv h K N x B hp hfit h9
  · exact lay6_dead w rv h K N x B hp hfit h9
  · exact lay7_dead w rv h K N x B hp hfit h9
  · exact lay8_dead w rv h K N x B hp h9
end Go.Proofs.Ytdgagpoeefbdjaa
