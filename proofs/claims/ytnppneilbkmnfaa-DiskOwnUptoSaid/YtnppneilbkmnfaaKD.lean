/- The laws' play, and with it DiskReads, DiskTells, DiskCrashes. Condition: the arguments can be read. | The law's told; the walk of DiskAll: it returns true, and no older memory turns. Condition: the arguments can be read. | The walk of DiskAll: it returns true, and no older memory turns. Condition: the arguments can be read. | The walk of DiskMakes: it returns true, and no older memory turns. Condition: the argument can be read. -/
import Derived.Test.YtnppneilbkmnfaaKC
namespace Go.Proofs.Ytnppneilbkmnfaa
open Go.RowKit

theorem steps_grows (D : Dk) (o : OpD) (B : List UInt8) : (D.steps o B).calls ≤ D.calls + 1 ∧ (D.steps o B).arms.length ≤ D.arms.length + 1 := by
  unfold Dk.steps
  split
  · unfold Dk.crash
    split <;> exact ⟨Nat.le_succ _, Nat.le_succ _⟩
  · have := does_grows D o B
    exact ⟨this.1, this.2.1⟩
/-- a pair of disks in memory of one's own, and the box in which the pair lies -/
structure Play (W w : World) (d q : Nat) (D : Dk) (K : Nat → Prop) (p : Nat) : Prop where
  pq : PQ w d q D D K
  new : ∀ k, K k → W.heap.size ≤ k ∧ k ≠ p
  ext : Ext Nil W w
  box : At w p 82 [.pointer (some ⟨d, 0, none⟩), .pointer (some ⟨q, 0, none⟩)]
theorem Play.ext0 {W w w' : World} {d q p : Nat} {D : Dk} {K : Nat → Prop} (h : Play W w d q D K p) (e : Ext Nil w w') : Play W w' d q D K p :=
  ⟨h.pq.ext0 e, h.new, h.ext.same e, h.box.ext e fun h => h⟩
theorem Play.start {W w : World} {d q : Nat} {D : Dk} {K : Nat → Prop} (h : PQ w d q D D K) (hK : ∀ k, K k → W.heap.size ≤ k) (e : Ext Nil W w) : Play W (w.alloc (.cells #[.pointer (some ⟨d, 0, none⟩), .pointer (some ⟨q, 0, none⟩)] 82 (0, 0))) d q D K w.heap.size :=
  ⟨h.ext0 ((Ext.refl _ _).alloc _), fun k hk => ⟨hK k hk, fun e => by have := h.lt k hk; omega⟩, e.alloc _, At.new w [.pointer (some ⟨d, 0, none⟩), .pointer (some ⟨q, 0, none⟩)] 82⟩
theorem Play.stepped {W w w' : World} {d q p : Nat} {D D' : Dk} {K : Nat → Prop} {e : Ending} (h : Play W w d q D K p) (hS : Stepped w d q K D' e w') : e = .returned (.bool true) ∧ ∃ K', Play W w' d q D' K' p := by
  obtain ⟨he, K', hP, hS⟩ := hS
  have hws := h.ext.size
  have hpl := h.box.lt
  refine ⟨he, K', hP, fun k hk => ?_, h.ext.trans hS.1 fun i hi hk => by have := (h.new i hk).1; omega, h.box.ext hS.1 fun hk => (h.new p hk).2 rfl⟩
  rcases hS.2 k hk with h1 | h1
  · exact h.new k h1
  · exact ⟨by omega, by omega⟩
theorem pl_step {W w : World} {d q p : Nat} {D : Dk} {K : Nat → Prop} (h : Play W w d q D K p) (x : OpI) (ho : OpOk W x.o x.B x.ks) (hs : x.B.length ≤ 1048576 ∧ x.ks.length ≤ 1048576) (hc : D.calls ≤ 1099511627776) (ha : D.arms.length ≤ 1099511627776) :
    Calls Try.prog 41 #[.agg #[.pointer (some ⟨d, 0, none⟩), .pointer (some ⟨q, 0, none⟩)], .agg #[.int .i64 x.o.K, .int .i64 x.o.who, .string x.o.s, .slice x.o.dx x.o.dn x.o.dc, .int .i64 x.o.N, .int .i64 x.o.t0, .int .i64 x.o.t1, .bool x.o.t2, .slice x.o.kx x.o.kn x.o.kc, .int .u8 x.o.junk]] w fun e w' =>
      e = .returned (.bool true) ∧ ∃ K', Play W w' d q (D.steps x.o x.B) K' p :=
  (step_m w d q D K h.pq x.o x.B x.ks (ho.ext0 h.ext) (fun k hk hK => by have := ho.dlt k hk; have := (h.new k hK).1; omega) (fun k hk hK => by have := ho.klt k hk; have := (h.new k hK).1; omega) hc ha (by omega) (by omega)).mono fun e w' hq => h.stepped hq

set_option maxRecDepth 20000 in
set_option maxHeartbeats 2000000 in
theorem play_m (w : World) (lim : Int) (m : Bool) (v : Value) (l : List FI) (hI : ImgR w v l) (hfew : l.length ≤ 1048576) (hbyt : ∀ x ∈ l, x.b.length ≤ 1073741824) (sv : Value) (L : List OpI) (hS : ScrR w sv L) (lo hi : Int) :
    Calls Try.prog 42 #[.agg #[.int .i64 lim, .bool m, v], sv, .int .i64 lo, .int .i64 hi] w fun e w' => e = .returned (.bool true) ∧ Ext Nil w w' := by
  obtain ⟨ao, cap, rfl, -, -⟩ := hI.see.shape
  obtain ⟨sa, sc, rfl, hs1, hs2⟩ := hS.shape
  have hLfew := hS.few
  have eW : Ext Nil w (w.alloc (.cells #[.int .i64 lim, .bool m, .slice ao l.length cap] 44 (0, 0))) := (Ext.refl _ _).alloc _
  have a1 := At.new w [.int .i64 lim, .bool m, .slice ao l.length cap] 44
  have b0 := a1.cell 0 rfl
  have b1 := a1.cell 1 rfl
  have b2 := a1.cell 2 rfl
  have HM := Lib.hid (made_m _ lim m _ l (hI.ext eW fun _ _ h => h) hfew hbyt)
  have HS := Lib.hid hS; have EW := Lib.hid eW; have HDC := Lib.hid (fun D (h : openD lim m l = some D) => openD_calm h)
  have HCS : Hid (openD lim m l = none ∨ ∃ D, openD lim m l = some D) := Lib.hid (by cases openD lim m l with | none => exact .inl rfl | some D => exact .inr ⟨D, rfl⟩)
  clear hI hS a1 eW
  unfold maxLen at hs2
  rcases HCS.out with hr | ⟨D0, hr⟩
  · have HR := Lib.hid hr
    clear hr
    go_enter Try.func42, Try.ntmps42
    go_wp2_with (go_at_call 38; refine (HM.out).mono ?_; rintro e w1 hq; obtain ⟨rfl, e1⟩ : e = .returned (.tuple #[.agg #[.pointer none, .pointer none], .bool true]) ∧ Ext Nil _ w1 := (by rcases hq with ⟨-, h2, h3⟩ | ⟨D, d, q, K, h1, -⟩; exact ⟨h2, h3⟩; rw [HR.out] at h1; cases h1); clear hq)
    go_ret
    exact ⟨rfl, (EW.out.same e1).alloc _⟩
  · have HR := Lib.hid hr
    clear hr
    go_enter Try.func42, Try.ntmps42
    go_wp2_with (go_at_call 38; refine (HM.out).mono ?_; rintro e w1 hq; obtain ⟨d, q, K0, rfl, hP, hK, e1⟩ : ∃ d q K, e = .returned (.tuple #[.agg #[.pointer (some ⟨d, 0, none⟩), .pointer (some ⟨q, 0, none⟩)], .bool true]) ∧ PQ w1 d q D0 D0 K ∧ (∀ k, K k → (w.alloc (.cells #[.int .i64 lim, .bool m, .slice ao l.length cap] 44 (0, 0))).heap.size ≤ k) ∧ Ext Nil (w.alloc (.cells #[.int .i64 lim, .bool m, .slice ao l.length cap] 44 (0, 0))) w1 := (by rcases hq with ⟨h1, -⟩ | ⟨D, d, q, K, h1, h2, h3, h4, h5⟩; (rw [HR.out] at h1; cases h1); (rw [HR.out] at h1; obtain rfl := Option.some.inj h1; exact ⟨d, q, K, h2, h3, h4, h5⟩)); have HPL := Lib.hid (Play.start (W := w) hP (fun k hk => by have := hK k hk; simp at this; omega) (EW.out.same e1)); clear hq hP hK e1 b0 b1 b2)
    have HC := Lib.hid (HDC.out D0 HR.out)
    generalize w1.heap.size = p at *
    generalize hWN : w1.alloc (.cells #[.pointer (some ⟨d, 0, none⟩), .pointer (some ⟨q, 0, none⟩)] 82 (0, 0)) = wn at *
    clear hWN
    go_loopw [11] (fun i wr => ∃ (k : Nat) (D : Dk) (K : Nat → Prop), i = .int .i64 (k : Int) ∧ k ≤ L.length ∧ Play w wr d q D K p ∧ D.calls ≤ k ∧ D.arms.length ≤ k) (fun i _ => L.length - (intOf i).toNat)
    case atStart => exact ⟨0, D0, K0, rfl, Nat.zero_le _, HPL.out, by rw [HC.out.2.2.1]; exact Nat.le_refl _, by rw [HC.out.2.2.2]; exact Nat.le_refl _⟩
    case round =>
      obtain ⟨k, D, K, rfl, hk, hP, hc, ha⟩ := hrel
      by_cases hlt : k < L.length
      · obtain ⟨x, hx⟩ : ∃ x, L[k]? = some x := ⟨_, List.getElem?_eq_getElem hlt⟩
        have hxm := List.mem_of_getElem? hx
        obtain ⟨bs, os, rfl, hbl, q0, q1, q2, q3, q4, q5, q6, q7, q8, q9⟩ := (HS.out.ext0 hP.ext).cells hx
        have eB : Ext Nil wr (wr.alloc (.cells #[.int .i64 x.o.K, .int .i64 x.o.who, .string x.o.s, .slice x.o.dx x.o.dn x.o.dc, .int .i64 x.o.N, .int .i64 x.o.t0, .int .i64 x.o.t1, .bool x.o.t2, .slice x.o.kx x.o.kn x.o.kc, .int .u8 x.o.junk] 47 (0, 0))) := (Ext.refl _ _).alloc _
        have hP2 := hP.ext0 eB
        have r0 := hP2.box.cell 0 rfl
        have r1 := hP2.box.cell 1 rfl
        have aB := At.new wr [.int .i64 x.o.K, .int .i64 x.o.who, .string x.o.s, .slice x.o.dx x.o.dn x.o.dc, .int .i64 x.o.N, .int .i64 x.o.t0, .int .i64 x.o.t1, .bool x.o.t2, .slice x.o.kx x.o.kn x.o.kc, .int .u8 x.o.junk] 47
        have hst := pl_step hP2 x (HS.out.ok x hxm) (HS.out.small x hxm) (by omega) (by omega)
        have hgr := steps_grows D x.o x.B
        have HST := Lib.hid hst; have HGR := Lib.hid hgr
        clear hst hgr hP hP2 hxm hx eB aB
        go_wp2_with (first
          | (go_at_call 41; refine (HST.out).mono ?_; rintro e w3 ⟨rfl, K3, hP3⟩; have HP3 := Lib.hid hP3; clear hP3 q0 q1 q2 q3 q4 q5 q6 q7 q8 q9 r0 r1))
        refine ⟨⟨k + 1, _, K3, by go_num, by omega, HP3.out, by have := HGR.out.1; omega, by have := HGR.out.2; omega⟩, by simp [intOf]; omega⟩
      · have hnot : ¬ (k : Int) < (L.length : Int) := by omega
        have HE := Lib.hid hP.ext
        clear hP
        go_wp2_with fail
        go_ret
        exact ⟨rfl, HE.out⟩
end Go.Proofs.Ytnppneilbkmnfaa
namespace Go.Proofs.Ytnppneilbkmnfaa
open Go.RowKit

theorem made_no (w : World) (lim : Int) (m : Bool) (v : Value) (l : List FI) (h : ImgR w v l) (hfew : l.length ≤ 1048576) (hbyt : ∀ x ∈ l, x.b.length ≤ 1073741824) (hr : openD lim m l = none) :
    Calls Try.prog 38 #[.agg #[.int .i64 lim, .bool m, v]] w fun e w' => e = .returned (.tuple #[.agg #[.pointer none, .pointer none], .bool true]) ∧ Ext Nil w w' := by
  refine (made_m w lim m v l h hfew hbyt).mono ?_
  rintro e w' (⟨-, h2, h3⟩ | ⟨D, d, q, K, h1, -⟩)
  · exact ⟨h2, h3⟩
  · rw [hr] at h1
    cases h1
theorem made_yes (w : World) (lim : Int) (m : Bool) (v : Value) (l : List FI) (h : ImgR w v l) (hfew : l.length ≤ 1048576) (hbyt : ∀ x ∈ l, x.b.length ≤ 1073741824) {D : Dk} (hr : openD lim m l = some D) :
    Calls Try.prog 38 #[.agg #[.int .i64 lim, .bool m, v]] w fun e w' => ∃ d q K, e = .returned (.tuple #[.agg #[.pointer (some ⟨d, 0, none⟩), .pointer (some ⟨q, 0, none⟩)], .bool true]) ∧ PQ w' d q D D K ∧ (∀ k, K k → w.heap.size ≤ k) ∧ Ext Nil w w' := by
  refine (made_m w lim m v l h hfew hbyt).mono ?_
  rintro e w' (⟨h1, -⟩ | ⟨D', d, q, K, h1, h2, h3, h4, h5⟩)
  · rw [hr] at h1
    cases h1
  · rw [hr] at h1
    obtain rfl := Option.some.inj h1
    exact ⟨d, q, K, h2, h3, h4, h5⟩
/-- two pairs apart -/
structure Both (W w : World) (d q : Nat) (D : Dk) (K : Nat → Prop) (p d' q' : Nat) (D' : Dk) (K' : Nat → Prop) (p' : Nat) : Prop where
  a : Play W w d q D K p
  b : Play W w d' q' D' K' p'
  apart : ∀ k, K k → ¬ K' k
  ap : ¬ K p'
  bp : ¬ K' p
theorem Both.ext0 {W w w' : World} {d q : Nat} {D : Dk} {K : Nat → Prop} {p d' q' : Nat} {D' : Dk} {K' : Nat → Prop} {p' : Nat} (h : Both W w d q D K p d' q' D' K' p') (e : Ext Nil w w') : Both W w' d q D K p d' q' D' K' p' :=
  ⟨h.a.ext0 e, h.b.ext0 e, h.apart, h.ap, h.bp⟩
end Go.Proofs.Ytnppneilbkmnfaa
