/- The walks of the law DiskNil: nothing, DiskNil. Condition: none. -/
import Derived.Test.YtnppneilbkmnfaaZd
import Derived.Test.YtnppneilbkmnfaaCw
namespace Go.Proofs.Ytnppneilbkmnfaa
open Go.RowKit

/-- no disk, or one that no call made -/
def Gone (w : World) (p : Value) : Prop := p = .pointer none ∨ ∃ z, p = .pointer (some ⟨z, 0, none⟩) ∧ Zd w z
theorem Gone.ext {w w' : World} {p : Value} (h : Gone w p) (e : Ext Nil w w') : Gone w' p := h.imp id fun ⟨z, h1, h2⟩ => ⟨z, h1, h2.ext e⟩
theorem append_gone (w : World) (p : Value) (h : Gone w p) (s : ByteArray) (ax : Option Addr) (n c : Nat) : Calls Try.prog 20 #[p, .string s, .slice ax n c] w fun e w' => e = .returned (.int .i64 1) ∧ Ext Nil w w' := by
  rcases h with rfl | ⟨z, rfl, hz⟩
  · exact append_nil_m w s ax n c
  · exact append_zd_m w z hz s ax n c
theorem replace_gone (w : World) (p : Value) (h : Gone w p) (s : ByteArray) (ax : Option Addr) (n c : Nat) : Calls Try.prog 52 #[p, .string s, .slice ax n c] w fun e w' => e = .returned (.int .i64 1) ∧ Ext Nil w w' := by
  rcases h with rfl | ⟨z, rfl, hz⟩
  · exact replace_nil_m w s ax n c
  · exact replace_zd_m w z hz s ax n c
theorem sync_gone (w : World) (p : Value) (h : Gone w p) (s : ByteArray) : Calls Try.prog 65 #[p, .string s] w fun e w' => e = .returned (.int .i64 1) ∧ Ext Nil w w' := by
  rcases h with rfl | ⟨z, rfl, hz⟩
  · exact sync_nil_m w s
  · exact sync_zd_m w z hz s
theorem remove_gone (w : World) (p : Value) (h : Gone w p) (s : ByteArray) : Calls Try.prog 67 #[p, .string s] w fun e w' => e = .returned (.int .i64 1) ∧ Ext Nil w w' := by
  rcases h with rfl | ⟨z, rfl, hz⟩
  · exact remove_nil_m w s
  · exact remove_zd_m w z hz s
theorem cut_gone (w : World) (p : Value) (h : Gone w p) (s : ByteArray) (n : Int) : Calls Try.prog 66 #[p, .string s, .int .i64 n] w fun e w' => e = .returned (.int .i64 1) ∧ Ext Nil w w' := by
  rcases h with rfl | ⟨z, rfl, hz⟩
  · exact cut_nil_m w s n
  · exact cut_zd_m w z hz s n
theorem read_gone (w : World) (p : Value) (h : Gone w p) (s : ByteArray) : Calls Try.prog 29 #[p, .string s] w fun e w' => e = .returned (.tuple #[.slice none 0 0, .int .i64 1]) ∧ w = w' := by
  rcases h with rfl | ⟨z, rfl, hz⟩
  · exact read_nil_m w s
  · exact read_zd_m w z hz s
theorem size_gone (w : World) (p : Value) (h : Gone w p) (s : ByteArray) : Calls Try.prog 68 #[p, .string s] w fun e w' => e = .returned (.tuple #[.int .i64 0, .int .i64 0, .int .i64 1]) ∧ w = w' := by
  rcases h with rfl | ⟨z, rfl, hz⟩
  · exact size_nil_m w s
  · exact size_zd_m w z hz s
theorem arm_gone (w : World) (p : Value) (h : Gone w p) (a k : Int) (b : Bool) : Calls Try.prog 19 #[p, .agg #[.int .i64 a, .int .i64 k, .bool b]] w fun e w' => e = .returned (.int .i64 1) ∧ Ext Nil w w' := by
  rcases h with rfl | ⟨z, rfl, hz⟩
  · exact arm_nil_m w a k b
  · exact arm_zd_m w z hz a k b
theorem names_gone (w : World) (p : Value) (h : Gone w p)  : Calls Try.prog 37 #[p] w fun e w' => e = .returned (.slice none 0 0) ∧ w = w' := by
  rcases h with rfl | ⟨z, rfl, hz⟩
  · exact names_nil_m w
  · exact names_zd_m w z hz
theorem crash_gone (w : World) (p : Value) (h : Gone w p) (kv : Value) (junk : Int) : Calls Try.prog 23 #[p, kv, .int .u8 junk] w fun e w' => e = .returned (.tuple #[.agg #[.slice none 0 0], .int .i64 1]) ∧ Ext Nil w w' := by
  rcases h with rfl | ⟨z, rfl, hz⟩
  · exact crash_nil_m w kv junk
  · exact crash_zd_m w z hz kv junk
theorem on_gone (w : World) (p : Value) (h : Gone w p)  : Calls Try.prog 21 #[p] w fun e w' => e = .returned (.bool false) ∧ w = w' := by
  rcases h with rfl | ⟨z, rfl, hz⟩
  · exact on_nil w
  · exact on_zd w z hz
theorem calls_gone (w : World) (p : Value) (h : Gone w p)  : Calls Try.prog 22 #[p] w fun e w' => e = .returned (.int .i64 0) ∧ w = w' := by
  rcases h with rfl | ⟨z, rfl, hz⟩
  · exact calls_nil w
  · exact calls_zd w z hz

/-- a call, as it lies in cells -/
structure OpD where
  K : Int
  who : Int
  s : ByteArray
  dx : Option Addr
  dn : Nat
  dc : Nat
  N : Int
  t0 : Int
  t1 : Int
  t2 : Bool
  kx : Option Addr
  kn : Nat
  kc : Nat
  junk : Int
def OpD.cells (o : OpD) : List Value := [.int .i64 o.K, .int .i64 o.who, .string o.s, .slice o.dx o.dn o.dc, .int .i64 o.N, .int .i64 o.t0, .int .i64 o.t1, .bool o.t2, .slice o.kx o.kn o.kc, .int .u8 o.junk]

set_option maxRecDepth 20000 in
theorem does_gone (w : World) (p : Value) (h : Gone w p) (o : OpD) (hk : o.K = 1 ∨ o.K = 2 ∨ o.K = 3 ∨ o.K = 4 ∨ o.K = 5) :
    Calls Try.prog 25 #[p, .agg o.cells.toArray] w fun e w' => e = .returned (.int .i64 1) ∧ Ext Nil w w' := by
  obtain ⟨K, who, s, dx, dn, dc, N, t0, t1, t2, kx, kn, kc, junk⟩ := o
  unfold OpD.cells
  simp only [] at hk ⊢
  have eW : Ext Nil w (w.alloc (.cells (OpD.cells ⟨K, who, s, dx, dn, dc, N, t0, t1, t2, kx, kn, kc, junk⟩).toArray 47 (0, 0))) := (Ext.refl _ _).alloc _
  have hg := h.ext eW
  unfold OpD.cells at eW hg
  simp only [] at eW hg
  have HG := Lib.hid hg; have EW := Lib.hid eW
  clear hg eW h
  rcases hk with rfl | rfl | rfl | rfl | rfl
  · go_enter Try.func25, Try.ntmps25
    go_wp2_with (go_at_call 20; refine (append_gone _ p HG.out s dx dn dc).mono ?_; rintro e w' ⟨rfl, e1⟩)
    go_ret
    exact ⟨rfl, EW.out.same e1⟩
  · go_enter Try.func25, Try.ntmps25
    go_wp2_with (go_at_call 65; refine (sync_gone _ p HG.out s).mono ?_; rintro e w' ⟨rfl, e1⟩)
    go_ret
    exact ⟨rfl, EW.out.same e1⟩
  · go_enter Try.func25, Try.ntmps25
    go_wp2_with (go_at_call 52; refine (replace_gone _ p HG.out s dx dn dc).mono ?_; rintro e w' ⟨rfl, e1⟩)
    go_ret
    exact ⟨rfl, EW.out.same e1⟩
  · go_enter Try.func25, Try.ntmps25
    go_wp2_with (go_at_call 66; refine (cut_gone _ p HG.out s N).mono ?_; rintro e w' ⟨rfl, e1⟩)
    go_ret
    exact ⟨rfl, EW.out.same e1⟩
  · go_enter Try.func25, Try.ntmps25
    go_wp2_with (go_at_call 67; refine (remove_gone _ p HG.out s).mono ?_; rintro e w' ⟨rfl, e1⟩)
    go_ret
    exact ⟨rfl, EW.out.same e1⟩

def OpD.at (o : OpD) (k : Int) : OpD := { o with K := k }
set_option maxRecDepth 20000 in
set_option maxHeartbeats 1000000 in
theorem nothing_gone (w : World) (p : Value) (h : Gone w p) (o : OpD) :
    Calls Try.prog 27 #[p, .agg o.cells.toArray] w fun e w' => e = .returned (.bool true) ∧ Ext Nil w w' := by
  obtain ⟨K, who, s, dx, dn, dc, N, t0, t1, t2, kx, kn, kc, junk⟩ := o
  unfold OpD.cells
  simp only []
  have hg := fun (w' : World) (e : Ext Nil w w') => h.ext e
  have HG := Lib.hid hg
  clear hg h
  have hA := At.new w [.int .i64 K, .int .i64 who, .string s, .slice dx dn dc, .int .i64 N, .int .i64 t0, .int .i64 t1, .bool t2, .slice kx kn kc, .int .u8 junk] 47
  have eA : Ext Nil w (w.alloc (.cells #[.int .i64 K, .int .i64 who, .string s, .slice dx dn dc, .int .i64 N, .int .i64 t0, .int .i64 t1, .bool t2, .slice kx kn kc, .int .u8 junk] 47 (0, 0))) := (Ext.refl _ _).alloc _
  have HA := Lib.hid hA; have EA := Lib.hid eA
  clear hA eA
  go_enter Try.func27, Try.ntmps27
  go_wp2_with fail
  go_loopw [5] (fun i wr => ∃ (j : Nat) (K : Int), i = .int .i64 (j : Int) ∧ 1 ≤ j ∧ j ≤ 6 ∧ At wr w.heap.size 47 [.int .i64 K, .int .i64 who, .string s, .slice dx dn dc, .int .i64 N, .int .i64 t0, .int .i64 t1, .bool t2, .slice kx kn kc, .int .u8 junk] ∧ Ext Nil w wr) (fun i _ => 6 - (intOf i).toNat)
  case atStart => exact ⟨1, K, rfl, by omega, by omega, HA.out, EA.out⟩
  case round =>
    obtain ⟨j, K2, rfl, h1, h2, hA, hE⟩ := hrel
    have c1 := hA.cell 1 rfl
    have c2 := hA.cell 2 rfl
    have c3 := hA.cell 3 rfl
    have c4 := hA.cell 4 rfl
    have c5 := hA.cell 5 rfl
    have c6 := hA.cell 6 rfl
    have c7 := hA.cell 7 rfl
    have c8 := hA.cell 8 rfl
    have c9 := hA.cell 9 rfl
    by_cases hj : j ≤ 5
    · have c0 := hA.cell 0 rfl
      have z0 := hA.frozen 0
      have hS := hA.set 0 (.int .i64 (j : Int))
      have eS : Ext Nil w (wr.setCell ⟨w.heap.size, 0, none⟩ (.int .i64 (j : Int))) := hE.setCell (p := ⟨w.heap.size, 0, none⟩) (fun h => by have h : w.heap.size < w.heap.size := h; omega) _
      have hD := does_gone _ p (HG.out _ eS) ⟨j, who, s, dx, dn, dc, N, t0, t1, t2, kx, kn, kc, junk⟩ (by show (j : Int) = 1 ∨ (j : Int) = 2 ∨ (j : Int) = 3 ∨ (j : Int) = 4 ∨ (j : Int) = 5; omega)
      unfold OpD.cells at hD
      simp only [] at hD
      have HD := Lib.hid hD; have HS := Lib.hid hS; have ES := Lib.hid eS
      clear hD hS eS hA hE
      go_wp2_with (first
        | (go_at_call 25; refine (HD.out).mono ?_; rintro e w3 ⟨rfl, e3⟩)
        | (go_at_call 18; refine (num_any _ _).mono ?_; rintro e w' ⟨rfl, rfl⟩))
      exact ⟨⟨j + 1, j, by simp, by omega, by omega, HS.out.ext e3 fun h => h, ES.out.same e3⟩, by simp [intOf]; omega⟩
    · obtain rfl : j = 6 := by omega
      have hR := read_gone wr p (HG.out _ hE) s
      have hZ := size_gone wr p (HG.out _ hE) s
      have hC := crash_gone wr p (HG.out _ hE) (.slice kx kn kc) junk
      have hlt := hA.lt
      have HR := Lib.hid hR; have HZ := Lib.hid hZ; have HC := Lib.hid hC; have HE := Lib.hid hE; have HA := Lib.hid hA
      clear hR hZ hC hE hA
      go_wp2_with (first
        | (go_at_call 29; refine (HR.out).mono ?_; rintro e w' ⟨rfl, rfl⟩)
        | (go_at_call 68; refine (HZ.out).mono ?_; rintro e w' ⟨rfl, rfl⟩)
        | (go_at_call 23; refine (HC.out).mono ?_; rintro e w2 ⟨rfl, e2⟩; have d5 := e2.cell c5 fun h => h; have d6 := e2.cell c6 fun h => h; have d7 := e2.cell c7 fun h => h; have hl2 := Nat.lt_of_lt_of_le hlt e2.size; have hi := At.new w2 [.slice none 0 0] 36; have eY := (HE.out.same e2).alloc (.cells #[.slice none 0 0] 36 (0, 0)); have HI := Lib.hid hi; have EY := Lib.hid eY; clear hi eY)
        | (go_at_call 19; refine (arm_gone _ p (HG.out _ EY.out) t0 t1 t2).mono ?_; rintro e w4 ⟨rfl, e4⟩; have i0 := (HI.out.ext e4 fun h => h).cell 0 rfl; have eZ := EY.out.same e4; have EZ := Lib.hid eZ; clear eZ)
        | (go_at_call 37; refine (names_gone _ p (HG.out _ EZ.out)).mono ?_; rintro e w' ⟨rfl, rfl⟩)
        | (go_at_call 22; refine (calls_gone _ p (HG.out _ EZ.out)).mono ?_; rintro e w' ⟨rfl, rfl⟩)
        | (go_at_call 21; refine (on_gone _ p (HG.out _ EZ.out)).mono ?_; rintro e w' ⟨rfl, rfl⟩)
        | (go_at_call 18; refine (num_any _ _).mono ?_; rintro e w' ⟨rfl, rfl⟩))
      go_ret
      exact ⟨rfl, EZ.out⟩

theorem fresh_append (n : Nat) : (Dk.fresh n).append [97] [] = (⟨n, [⟨[97], [], 0⟩], false, false, 1, []⟩, 0) := by
  have h1 : (Dk.fresh n).refuse [97] = 0 := by rfl
  have h2 : (Dk.fresh n).room [97] ((Dk.fresh n).size [97] + ([] : List UInt8).length) = true := Dk.room_spec.2 ⟨by simp [Dk.fresh, Dk.size, Dk.used, sumF, Dk.find, findK], .inr (by simp [Dk.fresh])⟩
  unfold Dk.append
  rw [if_neg (by rw [h1]; simp), if_pos h2]
  rfl
theorem life_append0 {w0 w : World} {d : Nat} (n : Nat) (hL : Life w0 w d (Dk.fresh n)) :
    Calls Try.prog 20 #[.pointer (some ⟨d, 0, none⟩), .string ⟨#[97]⟩, .slice none 0 0] w fun e w' => e = .returned (.int .i64 0) ∧ Life w0 w' d ⟨n, [⟨[97], [], 0⟩], false, false, 1, []⟩ := by
  obtain ⟨F, hD, hF, hE⟩ := hL
  have hA := append_m w d _ F hD (by simp [Dk.fresh]) ⟨#[97]⟩ (by decide) (.slice none 0 0) [] (OwnB.bytes (Own.nil _ _ _)) (fun q hq => by simp [inFoot, foot] at hq) (by simp)
  refine hA.mono ?_
  intro e w' h2
  have h2 := Life.acted hF hE h2
  have h2 : e = .returned (.int .i64 ((Dk.fresh n).append [97] []).2) ∧ Life w0 w' d ((Dk.fresh n).append [97] []).1 := h2
  rw [fresh_append n] at h2
  exact h2
set_option maxRecDepth 20000 in
set_option maxHeartbeats 1000000 in
theorem disknil_any (w : World) (o : OpD) (lim : Int) :
    Calls Try.prog 5 #[.agg o.cells.toArray, .int .i64 lim] w fun e w' => e = .returned (.bool true) ∧ Ext Nil w w' := by
  obtain ⟨K, who, s, dx, dn, dc, N, t0, t1, t2, kx, kn, kc, junk⟩ := o
  unfold OpD.cells
  simp only []
  have hn := fun (w' : World) (p : Value) (h : Gone w' p) => nothing_gone w' p h ⟨K, who, s, dx, dn, dc, N, t0, t1, t2, kx, kn, kc, junk⟩
  unfold OpD.cells at hn
  simp only [] at hn
  have hA := At.new w [.int .i64 K, .int .i64 who, .string s, .slice dx dn dc, .int .i64 N, .int .i64 t0, .int .i64 t1, .bool t2, .slice kx kn kc, .int .u8 junk] 47
  have eA : Ext Nil w (w.alloc (.cells #[.int .i64 K, .int .i64 who, .string s, .slice dx dn dc, .int .i64 N, .int .i64 t0, .int .i64 t1, .bool t2, .slice kx kn kc, .int .u8 junk] 47 (0, 0))) := (Ext.refl _ _).alloc _
  have HA := Lib.hid hA; have EA := Lib.hid eA; have HN := Lib.hid hn
  clear hA eA hn
  by_cases hb1 : lim < 1
  · have hb : lim < 1 ∨ 1073741824 < lim := .inl hb1
    have HB := Lib.hid hb
    clear hb
    go_enter Try.func5, Try.ntmps5
    go_wp2_with (first
      | (have hx1 := e1; go_at_call 27; clear hx1; refine (HN.out _ _ (.inr ⟨_, rfl, (At.new w1 [.int .i64 0, .int .i64 0, .map none, .bool false, .bool false, .int .i64 0, .slice none 0 0] 57).cell 2 rfl, by simp⟩)).mono ?_; rintro e w2 ⟨rfl, e2⟩; have ez := ((EA.out.same e1).alloc _).same e2; have EZ := Lib.hid ez; clear ez q0 q1 q2 q3 q4 q5 q6 q7 q8 q9 l1)
      | (go_at_call 27; refine (HN.out _ _ (.inl rfl)).mono ?_; rintro e w1 ⟨rfl, e1⟩; have a1 := HA.out.ext e1 fun h => h; have l1 := a1.lt; have q0 := a1.cell 0 rfl; have q1 := a1.cell 1 rfl; have q2 := a1.cell 2 rfl; have q3 := a1.cell 3 rfl; have q4 := a1.cell 4 rfl; have q5 := a1.cell 5 rfl; have q6 := a1.cell 6 rfl; have q7 := a1.cell 7 rfl; have q8 := a1.cell 8 rfl; have q9 := a1.cell 9 rfl; clear a1)
      | (go_at_call 17; refine (new_bad _ lim HB.out).mono ?_; rintro e w' ⟨rfl, rfl⟩)
      | (go_at_call 18; refine (num_any _ _).mono ?_; rintro e w' ⟨rfl, rfl⟩))
    go_ret
    exact ⟨rfl, EZ.out⟩
  by_cases hb2 : 1073741824 < lim
  · have hb : lim < 1 ∨ 1073741824 < lim := .inr hb2
    have hb3 : 1 ≤ lim := by omega
    clear hb1
    have HB := Lib.hid hb
    clear hb
    go_enter Try.func5, Try.ntmps5
    go_wp2_with (first
      | (have hx1 := e1; go_at_call 27; clear hx1; refine (HN.out _ _ (.inr ⟨_, rfl, (At.new w1 [.int .i64 0, .int .i64 0, .map none, .bool false, .bool false, .int .i64 0, .slice none 0 0] 57).cell 2 rfl, by simp⟩)).mono ?_; rintro e w2 ⟨rfl, e2⟩; have ez := ((EA.out.same e1).alloc _).same e2; have EZ := Lib.hid ez; clear ez q0 q1 q2 q3 q4 q5 q6 q7 q8 q9 l1)
      | (go_at_call 27; refine (HN.out _ _ (.inl rfl)).mono ?_; rintro e w1 ⟨rfl, e1⟩; have a1 := HA.out.ext e1 fun h => h; have l1 := a1.lt; have q0 := a1.cell 0 rfl; have q1 := a1.cell 1 rfl; have q2 := a1.cell 2 rfl; have q3 := a1.cell 3 rfl; have q4 := a1.cell 4 rfl; have q5 := a1.cell 5 rfl; have q6 := a1.cell 6 rfl; have q7 := a1.cell 7 rfl; have q8 := a1.cell 8 rfl; have q9 := a1.cell 9 rfl; clear a1)
      | (go_at_call 17; refine (new_bad _ lim HB.out).mono ?_; rintro e w' ⟨rfl, rfl⟩)
      | (go_at_call 18; refine (num_any _ _).mono ?_; rintro e w' ⟨rfl, rfl⟩))
    go_ret
    exact ⟨rfl, EZ.out⟩
  · obtain ⟨n, rfl⟩ := Int.eq_ofNat_of_zero_le (show 0 ≤ lim by omega)
    have g1 : 1 ≤ n := by omega
    have g2 : n ≤ 1073741824 := by omega
    have g3 : (1 : Int) ≤ (n : Int) := by omega
    have g4 : (n : Int) ≤ 1073741824 := by omega
    clear hb1 hb2
    go_enter Try.func5, Try.ntmps5
    go_wp2_with (first
      | (have hx1 := e1; go_at_call 27; clear hx1; refine (HN.out _ _ (.inr ⟨_, rfl, (At.new w1 [.int .i64 0, .int .i64 0, .map none, .bool false, .bool false, .int .i64 0, .slice none 0 0] 57).cell 2 rfl, by simp⟩)).mono ?_; rintro e w2 ⟨rfl, e2⟩; have ez := ((EA.out.same e1).alloc _).same e2; have EZ := Lib.hid ez; clear ez q0 q1 q2 q3 q4 q5 q6 q7 q8 q9 l1)
      | (go_at_call 27; refine (HN.out _ _ (.inl rfl)).mono ?_; rintro e w1 ⟨rfl, e1⟩; have a1 := HA.out.ext e1 fun h => h; have l1 := a1.lt; have q0 := a1.cell 0 rfl; have q1 := a1.cell 1 rfl; have q2 := a1.cell 2 rfl; have q3 := a1.cell 3 rfl; have q4 := a1.cell 4 rfl; have q5 := a1.cell 5 rfl; have q6 := a1.cell 6 rfl; have q7 := a1.cell 7 rfl; have q8 := a1.cell 8 rfl; have q9 := a1.cell 9 rfl; clear a1)
      | (go_at_call 17; refine (new_at _ n g1 g2).mono ?_; rintro e w3 ⟨rfl, h3, e3⟩; have L3 := Life.of_new (w0 := w) h3 (by intro q hq; have := EZ.out.size; simp [dbl, footL, foot] at hq; omega) (EZ.out.same e3); have HL3 := Lib.hid L3; clear L3 h3)
      | (go_at_call 21; refine (life_on HL3.out).mono ?_; rintro e w' ⟨rfl, rfl⟩)
      | (go_at_call 20; refine (life_append0 n HL3.out).mono ?_; rintro e w5 ⟨rfl, h5⟩)
      | (go_at_call 22; refine (life_calls h5).mono ?_; rintro e w' ⟨rfl, rfl⟩)
      | (go_at_call 18; refine (num_any _ _).mono ?_; rintro e w' ⟨rfl, rfl⟩))
    go_ret
    obtain ⟨F5, -, -, e5⟩ := h5
    exact ⟨rfl, e5⟩
end Go.Proofs.Ytnppneilbkmnfaa
