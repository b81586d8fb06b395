/- Contracts of codec.Reader's reads, each for itself. Condition: the reader is one that NewReader made. -/
import Derived.Test.YtdgagpoeefbdjaaRc
namespace Go.Proofs.Ytdgagpoeefbdjaa
open Go.RowKit

/-- The box with the reader, and the cell c, beside the reader. -/
structure Beside (w : World) (p : Nat) (v : Value) (rb c : Nat) (t : TypeId) (z : Value) : Prop where
  box : w.cell? ⟨rb, 0, none⟩ = some (.pointer (some ⟨p, 0, none⟩))
  boxp : rb ≠ p
  boxc : rb ≠ c
  cell : At w c t [z]
  cp : c ≠ p
  cv : ¬ inFoot v c

/-- What a read answers with: just x. -/
def Just (x : Value) : World → Value → Prop := fun _ u => u = x

/-- the one byte of a slice -/
theorem Bytes.one_cell {w : World} {ao : Option Addr} {cap : Nat} {x : UInt8} (h : Bytes w (.slice ao [x].length cap) [x]) : ∃ b off, ao = some ⟨b, off, none⟩ ∧ w.cell? ⟨b, off, none⟩ = some (.int .u8 (x.toNat : Int)) := by
  obtain ⟨ao', cap', e, _, _, hc⟩ := h.open
  simp only [Value.slice.injEq] at e
  obtain ⟨rfl, _, rfl⟩ := e
  obtain ⟨b, off, rfl, hcl⟩ := hc (by simp)
  exact ⟨b, off, rfl, by simpa using hcl 0 (by simp)⟩

theorem clo_end {w w1 : World} {p c : Nat} {t : TypeId} {v : Value} {bs : List UInt8} {a a' : Nat} {er : Int} {k : Nat} {R : World → Value → Prop} {u : Value} {e : Ending} (he : e = .returned (.int .i64 er)) (hR : RdAt w1 p v bs a' 0) (ha : er = 0 → a' = a + k)
    (hc : At (w1.setCell ⟨c, 0, none⟩ u) c t [u]) (hcp : c ≠ p) (hcv : ¬ inFoot v c) (hu : R (w1.setCell ⟨c, 0, none⟩ u) u) (hX : Ext (One p) w w1) : Clo w p c t v bs a er k R e (w1.setCell ⟨c, 0, none⟩ u) :=
  ⟨he, a', u, hR.ext (F := One c) ((Ext.refl (One c) w1).setCell (p := ⟨c, 0, none⟩) (fun _ => (rfl : c = c)) u) (fun k hk e => by
      have e : k = c := e
      subst e
      rcases hk with hk | hk
      · exact hcp hk
      · exact hcv hk), ha, hc, hu, (hX.mono fun _ _ h => .inl h).setCell (p := ⟨c, 0, none⟩) (fun _ => .inr rfl) u⟩

theorem byte_clo (w : World) (p : Nat) (v : Value) (bs : List UInt8) (a : Nat) (h : RdAt w p v bs a 0) (rb c : Nat) (hb : Beside w p v rb c 5 (.int .u8 0)) (x : UInt8) (hx : (bs.drop a).take 1 = [x]) :
    Calls Try.prog 175 #[.pointer (some ⟨rb, 0, none⟩), .pointer (some ⟨c, 0, none⟩)] w (Clo w p c 5 v bs a 0 1 (Just (.int .u8 x.toNat))) := by
  have b0 := hb.box
  have hl : a + 1 ≤ bs.length := by
    have := congrArg List.length hx
    simp at this
    omega
  have ht := take_ok w p v bs a 0 h 1 hl
  rw [hx] at ht
  go_enter Try.func175, Try.ntmps175
  go_wp2_with fail
  refine ht.mono ?_
  rintro e w1 ⟨ao, cap, h1, h2, rfl, hB, hap, hlt, hR, hX⟩
  obtain ⟨b, off, rfl, g⟩ := hB.one_cell
  have hc1 := hb.cell.ext hX hb.cp
  have f1 := hc1.frozen 0
  have d1 := hc1.cell 0 rfl
  clear hB hap hlt
  simp only [List.length_cons, List.length_nil, Nat.zero_add] at h1 ⊢
  go_wp2_with fail
  go_ret
  exact clo_end rfl hR (fun _ => rfl) (hc1.set 0 _) hb.cp hb.cv rfl hX

theorem byte_cut (w : World) (p : Nat) (v : Value) (bs : List UInt8) (a : Nat) (h : RdAt w p v bs a 0) (rb c : Nat) (hb : Beside w p v rb c 5 (.int .u8 0)) (hx : bs.length ≤ a) :
    Calls Try.prog 175 #[.pointer (some ⟨rb, 0, none⟩), .pointer (some ⟨c, 0, none⟩)] w (Clo w p c 5 v bs a 10 0 (Just (.int .u8 0))) := by
  have b0 := hb.box
  have ht := take_cut w p v bs a 0 h 1 (by omega) (by omega) (by omega)
  go_enter Try.func175, Try.ntmps175
  go_wp2_with fail
  refine ht.mono ?_
  rintro e w1 ⟨ao, cap, h1, h2, rfl, hB, hap, hlt, hR, hX⟩
  go_wp2_with fail
  go_ret
  exact ⟨rfl, a, _, hR, by simp, hb.cell.ext hX hb.cp, rfl, hX.mono fun _ _ h => .inl h⟩

theorem bool_clo (w : World) (p : Nat) (v : Value) (bs : List UInt8) (a : Nat) (h : RdAt w p v bs a 0) (rb c : Nat) (hb : Beside w p v rb c 4 (.bool false)) (x : UInt8) (hx : (bs.drop a).take 1 = [x]) (hx1 : x.toNat ≤ 1) :
    Calls Try.prog 177 #[.pointer (some ⟨rb, 0, none⟩), .pointer (some ⟨c, 0, none⟩)] w (Clo w p c 4 v bs a 0 1 (Just (.bool (x.toNat == 1)))) := by
  have b0 := hb.box
  have hl : a + 1 ≤ bs.length := by
    have := congrArg List.length hx
    simp at this
    omega
  have ht := take_ok w p v bs a 0 h 1 hl
  rw [hx] at ht
  go_enter Try.func177, Try.ntmps177
  go_wp2_with fail
  refine ht.mono ?_
  rintro e w1 ⟨ao, cap, h1, h2, rfl, hB, hap, hlt, hR, hX⟩
  obtain ⟨b, off, rfl, g⟩ := hB.one_cell
  have hc1 := hb.cell.ext hX hb.cp
  have f1 := hc1.frozen 0
  have d1 := hc1.cell 0 rfl
  clear hB hap hlt
  have e1 : ((x.toNat : Int) == 1) = (x.toNat == 1) := by
    rw [Bool.eq_iff_iff]
    simp
    omega
  simp only [List.length_cons, List.length_nil, Nat.zero_add] at h1 ⊢
  go_wp2_with fail
  go_ret
  try rw [e1]
  exact clo_end rfl hR (fun _ => rfl) (hc1.set 0 _) hb.cp hb.cv rfl hX

theorem bool_form (w : World) (p : Nat) (v : Value) (bs : List UInt8) (a : Nat) (h : RdAt w p v bs a 0) (rb c : Nat) (hb : Beside w p v rb c 4 (.bool false)) (x : UInt8) (hx : (bs.drop a).take 1 = [x]) (hx1 : ¬ x.toNat ≤ 1) :
    Calls Try.prog 177 #[.pointer (some ⟨rb, 0, none⟩), .pointer (some ⟨c, 0, none⟩)] w (Clo w p c 4 v bs a 11 0 (Just (.bool false))) := by
  have b0 := hb.box
  have hl : a + 1 ≤ bs.length := by
    have := congrArg List.length hx
    simp at this
    omega
  have ht := take_ok w p v bs a 0 h 1 hl
  rw [hx] at ht
  go_enter Try.func177, Try.ntmps177
  go_wp2_with fail
  refine ht.mono ?_
  rintro e w1 ⟨ao, cap, h1, h2, rfl, hB, hap, hlt, hR, hX⟩
  obtain ⟨b, off, rfl, g⟩ := hB.one_cell
  have hc1 := hb.cell.ext hX hb.cp
  clear hB hap hlt
  simp only [List.length_cons, List.length_nil, Nat.zero_add] at h1 ⊢
  go_wp2_with fail
  go_ret
  exact ⟨rfl, _, _, hR, by simp, hc1, rfl, hX.mono fun _ _ h => .inl h⟩

theorem bool_cut (w : World) (p : Nat) (v : Value) (bs : List UInt8) (a : Nat) (h : RdAt w p v bs a 0) (rb c : Nat) (hb : Beside w p v rb c 4 (.bool false)) (hx : bs.length ≤ a) :
    Calls Try.prog 177 #[.pointer (some ⟨rb, 0, none⟩), .pointer (some ⟨c, 0, none⟩)] w (Clo w p c 4 v bs a 10 0 (Just (.bool false))) := by
  have b0 := hb.box
  have ht := take_cut w p v bs a 0 h 1 (by omega) (by omega) (by omega)
  go_enter Try.func177, Try.ntmps177
  go_wp2_with fail
  refine ht.mono ?_
  rintro e w1 ⟨ao, cap, h1, h2, rfl, hB, hap, hlt, hR, hX⟩
  go_wp2_with fail
  go_ret
  exact ⟨rfl, a, _, hR, by simp, hb.cell.ext hX hb.cp, rfl, hX.mono fun _ _ h => .inl h⟩

theorem var_clo (w : World) (p : Nat) (v : Value) (bs : List UInt8) (a : Nat) (h : RdAt w p v bs a 0) (rb c : Nat) (hb : Beside w p v rb c 37 (.int .u64 0)) (r : Int × Nat × Nat) (hr : numL (bs.drop a) 0 0 = r) :
    Calls Try.prog 179 #[.pointer (some ⟨rb, 0, none⟩), .pointer (some ⟨c, 0, none⟩)] w (Clo w p c 37 v bs a r.1 r.2.2 (Just (.int .u64 r.2.1))) := by
  have b0 := hb.box
  have ht := number_any w p v bs a 0 h
  rw [hr] at ht
  clear hr
  obtain ⟨er, z, k⟩ := r
  go_enter Try.func179, Try.ntmps179
  go_wp2_with fail
  refine ht.mono ?_
  rintro e w1 ⟨rfl, hR, hX⟩
  simp only at hR ⊢
  have hc1 := hb.cell.ext hX hb.cp
  have f1 := hc1.frozen 0
  have d1 := hc1.cell 0 rfl
  go_wp2_with fail
  go_ret
  exact clo_end rfl hR (fun _ => rfl) (hc1.set 0 _) hb.cp hb.cv rfl hX

/-- What a read answers with: bytes of its own, in new blocks. -/
def Fresh (S : Nat) (B : List UInt8) : World → Value → Prop := fun w u => ∃ ao cap, B.length ≤ cap ∧ cap ≤ maxLen ∧ u = .slice ao B.length cap ∧ OwnB w u B ∧ ∀ k, inFoot u k → S ≤ k
theorem Fresh.ext {F : Nat → Prop} {S : Nat} {B : List UInt8} {w w' : World} {u : Value} (h : Fresh S B w u) (e : Ext F w w') (hF : ∀ k, F k → k < S) : Fresh S B w' u := by
  obtain ⟨ao, cap, h1, h2, rfl, h3, h4⟩ := h
  exact ⟨ao, cap, h1, h2, rfl, h3.ext e fun k hk hf => by have := h4 k hk; have := hF k hf; omega, h4⟩

theorem raw_tail {w : World} {p : Nat} {v : Value} {bs : List UInt8} {a : Nat} {c : Nat} (hc : At w c 29 [.slice none 0 0]) (hcp : c ≠ p) (hcv : ¬ inFoot v c) {w1 w2 : World} {a' : Nat} {er : Int} {k : Nat} {B : List UInt8}
    (hR : RdAt w1 p v bs a' 0) (ha : er = 0 → a' = a + k) (hX : Ext (One p) w w1) {ao : Option Addr} {cap : Nat} (h1 : B.length ≤ cap) (h2 : cap ≤ maxLen) (ho : OwnB w2 (.slice ao B.length cap) B) (hs : Step Nil w1 (inFoot (.slice ao B.length cap)) w2) {e : Ending} (he : e = .returned (.int .i64 er)) :
    Clo w p c 29 v bs a er k (Fresh w.heap.size B) e (w2.setCell ⟨c, 0, none⟩ (.slice ao B.length cap)) := by
  have hc2 := (hc.ext hX hcp).ext hs.1 (fun h => h)
  have hlt := hc.lt
  have hnew : ∀ k, inFoot (.slice ao B.length cap) k → w.heap.size ≤ k := fun k hk => by
    have := (hs.2 k hk).resolve_left (fun h => h)
    have := hX.size
    omega
  have hR2 : RdAt w2 p v bs a' 0 := hR.ext hs.1 fun _ _ h => h
  have hX2 : Ext (One p) w w2 := hX.trans hs.1 fun _ _ h => h.elim
  exact clo_end he hR2 ha (hc2.set 0 _) hcp hcv ⟨ao, cap, h1, h2, rfl, ho.ext (F := One c) ((Ext.refl (One c) w2).setCell (p := ⟨c, 0, none⟩) (fun _ => (rfl : c = c)) _) (fun k hk e => by
    have e : k = c := e
    have := hnew k hk
    omega), hnew⟩ hX2

theorem raw_of (w : World) (p : Nat) (v : Value) (bs : List UInt8) (a : Nat) (rb nb c : Nat) (hb : Beside w p v rb c 29 (.slice none 0 0)) (n : Int) (hn : w.cell? ⟨nb, 0, none⟩ = some (.int .i64 n)) (er : Int) (B : List UInt8) (a' k : Nat) (ha : er = 0 → a' = a + k)
    (hB : Fits B.length) (ht : Calls Try.prog 176 #[.pointer (some ⟨p, 0, none⟩), .int .i64 n] w (Took w p v bs 0 er B a')) :
    Calls Try.prog 181 #[.pointer (some ⟨rb, 0, none⟩), .pointer (some ⟨nb, 0, none⟩), .pointer (some ⟨c, 0, none⟩)] w (Clo w p c 29 v bs a er k (Fresh w.heap.size B)) := by
  have b0 := hb.box
  go_enter Try.func181, Try.ntmps181
  go_wp2_with fail
  refine ht.mono ?_
  rintro e w1 ⟨ao, cap, h1, h2, rfl, hBy, hap, hlt, hR, hX⟩
  go_wp2_with fail
  refine (clone_any w1 _ B hBy hB).mono ?_
  rintro e w2 ⟨ao2, cap2, k1, k2, rfl, ho, hs⟩
  have hc2 := (hb.cell.ext hX hb.cp).ext hs.1 (fun h => h)
  have f1 := hc2.frozen 0
  have d1 := hc2.cell 0 rfl
  go_wp2_with fail
  go_ret
  exact raw_tail hb.cell hb.cp hb.cv hR ha hX k1 k2 ho hs rfl
end Go.Proofs.Ytdgagpoeefbdjaa
