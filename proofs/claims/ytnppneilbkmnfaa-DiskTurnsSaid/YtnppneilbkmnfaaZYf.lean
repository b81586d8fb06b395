/- The law's told; the walk of DiskAll: it returns true, and no older memory turns. Condition: the arguments can be read. | The walk of DiskAll: it returns true, and no older memory turns. Condition: the arguments can be read. -/
import Derived.Test.YtnppneilbkmnfaaZYd
namespace Go.Proofs.Ytnppneilbkmnfaa
open Go.RowKit

set_option maxRecDepth 20000 in
set_option maxHeartbeats 1000000 in
theorem told_m (w : World) (d q : Nat) (D : Dk) (K : Nat → Prop) (h : PQ w d q D D K) :
    Calls Try.prog 43 #[.agg #[.pointer (some ⟨d, 0, none⟩), .pointer (some ⟨q, 0, none⟩)]] w fun e w' => e = .returned (.bool true) ∧ Ext Nil w w' := by
  have eW : Ext Nil w (w.alloc (.cells #[.pointer (some ⟨d, 0, none⟩), .pointer (some ⟨q, 0, none⟩)] 82 (0, 0))) := (Ext.refl _ _).alloc _
  have a1 := At.new w [.pointer (some ⟨d, 0, none⟩), .pointer (some ⟨q, 0, none⟩)] 82
  have HP := Lib.hid (h.ext0 eW); have HA1 := Lib.hid a1; have EW := Lib.hid eW
  have hcc : (D.calls == D.calls) = true := by simp
  have hoo : ((!D.off) == (!D.off)) = true := by simp
  clear h a1 eW
  go_enter Try.func43, Try.ntmps43
  go_wp2_with fail
  refine wp_region_held_drew (S := fun w' => At w' w.heap.size 82 [.pointer (some ⟨d, 0, none⟩), .pointer (some ⟨q, 0, none⟩)]) (by kernel_rfl) HA1.out (fun hHeld => ?_)
  refine wpAnyH_take (i := 0) (v := .pointer (some ⟨w.heap.size, 0, none⟩)) rfl (by kernel_rfl) (by kernel_rfl) (by kernel_rfl) (fun _ _ _ h => h) (Or.inl ⟨by rfl, ?y1⟩) (by assumption) ?r1
  case y1 => (intro w hSw; have t0 := hSw.cell 0 rfl; have t1 := hSw.cell 1 rfl; clear hSw; go_simp)
  simp only [Act.put]
  refine wpAnyH_take (i := 1) (v := .pointer (some ⟨d, 0, none⟩)) rfl (by kernel_rfl) (by kernel_rfl) (by kernel_rfl) (fun _ _ _ h => h) (Or.inl ⟨by rfl, ?y2⟩) (by assumption) ?r2
  case y2 => (intro w hSw; have t0 := hSw.cell 0 rfl; have t1 := hSw.cell 1 rfl; clear hSw; go_simp)
  simp only [Act.put]
  refine wpAnyH_take (i := 3) (v := .pointer (some ⟨w.heap.size, 1, none⟩)) rfl (by kernel_rfl) (by kernel_rfl) (by kernel_rfl) (fun _ _ _ h => h) (Or.inl ⟨by rfl, ?y3⟩) (by assumption) ?r3
  case y3 => (intro w hSw; have t0 := hSw.cell 0 rfl; have t1 := hSw.cell 1 rfl; clear hSw; go_simp)
  simp only [Act.put]
  refine wpAnyH_take (i := 4) (v := .pointer (some ⟨q, 0, none⟩)) rfl (by kernel_rfl) (by kernel_rfl) (by kernel_rfl) (fun _ _ _ h => h) (Or.inl ⟨by rfl, ?y4⟩) (by assumption) ?r4
  case y4 => (intro w hSw; have t0 := hSw.cell 0 rfl; have t1 := hSw.cell 1 rfl; clear hSw; go_simp)
  simp only [Act.put]
  refine wpAnyH_ready (rs := [2]) (by kernel_rfl) (by simp) (AllReadyH.cons rfl (fun KK' hK => ?_) AllReadyH.nil)
  go_simp
  refine (pq_calls (HP.out.ext0 (Ext.refl Nil _).drew)).mono ?_
  rintro e w' ⟨rfl, rfl⟩
  go_wp2_with fail
  refine hK.out _ _ HA1.out (fun hHeld => ?_)
  clear hK KK'
  refine wpAnyH_ready (rs := [5]) (by kernel_rfl) (by simp) (AllReadyH.cons rfl (fun KK' hK => ?_) AllReadyH.nil)
  go_simp
  refine (qq_calls (HP.out.ext0 (Ext.refl Nil _).drew)).mono ?_
  rintro e w' ⟨rfl, rfl⟩
  go_wp2_with fail
  refine hK.out _ _ HA1.out (fun hHeld => ?_)
  clear hK KK'
  refine wpAnyH_take (i := 6) (v := .bool true) rfl (by kernel_rfl) (by kernel_rfl) (by kernel_rfl) (fun _ _ _ h => h) (Or.inl ⟨by rfl, ?y5⟩) (by assumption) ?r5
  case y5 => (intro w hSw; have t0 := hSw.cell 0 rfl; have t1 := hSw.cell 1 rfl; clear hSw; go_simp)
  simp only [Act.put]
  refine wpAnyH_take (i := 7) (v := .bool true) rfl (by kernel_rfl) (by kernel_rfl) (by kernel_rfl) (fun _ _ _ h => h) (Or.inl ⟨by rfl, ?y6⟩) (by assumption) ?r6
  case y6 => (intro w hSw; have t0 := hSw.cell 0 rfl; have t1 := hSw.cell 1 rfl; clear hSw; go_simp)
  simp only [Act.put]
  refine wpAnyH_take (i := 8) (v := .pointer (some ⟨w.heap.size, 0, none⟩)) rfl (by kernel_rfl) (by kernel_rfl) (by kernel_rfl) (fun _ _ _ h => h) (Or.inl ⟨by rfl, ?y7⟩) (by assumption) ?r7
  case y7 => (intro w hSw; have t0 := hSw.cell 0 rfl; have t1 := hSw.cell 1 rfl; clear hSw; go_simp)
  simp only [Act.put]
  refine wpAnyH_take (i := 9) (v := .pointer (some ⟨d, 0, none⟩)) rfl (by kernel_rfl) (by kernel_rfl) (by kernel_rfl) (fun _ _ _ h => h) (Or.inl ⟨by rfl, ?y8⟩) (by assumption) ?r8
  case y8 => (intro w hSw; have t0 := hSw.cell 0 rfl; have t1 := hSw.cell 1 rfl; clear hSw; go_simp)
  simp only [Act.put]
  refine wpAnyH_take (i := 11) (v := .pointer (some ⟨w.heap.size, 1, none⟩)) rfl (by kernel_rfl) (by kernel_rfl) (by kernel_rfl) (fun _ _ _ h => h) (Or.inl ⟨by rfl, ?y9⟩) (by assumption) ?r9
  case y9 => (intro w hSw; have t0 := hSw.cell 0 rfl; have t1 := hSw.cell 1 rfl; clear hSw; go_simp)
  simp only [Act.put]
  refine wpAnyH_take (i := 12) (v := .pointer (some ⟨q, 0, none⟩)) rfl (by kernel_rfl) (by kernel_rfl) (by kernel_rfl) (fun _ _ _ h => h) (Or.inl ⟨by rfl, ?y10⟩) (by assumption) ?r10
  case y10 => (intro w hSw; have t0 := hSw.cell 0 rfl; have t1 := hSw.cell 1 rfl; clear hSw; go_simp)
  simp only [Act.put]
  refine wpAnyH_ready (rs := [10]) (by kernel_rfl) (by simp) (AllReadyH.cons rfl (fun KK' hK => ?_) AllReadyH.nil)
  go_simp
  refine (pq_on (HP.out.ext0 (Ext.refl Nil _).drew)).mono ?_
  rintro e w' ⟨rfl, rfl⟩
  go_wp2_with fail
  refine hK.out _ _ HA1.out (fun hHeld => ?_)
  clear hK KK'
  refine wpAnyH_ready (rs := [13]) (by kernel_rfl) (by simp) (AllReadyH.cons rfl (fun KK' hK => ?_) AllReadyH.nil)
  go_simp
  refine (qq_on (HP.out.ext0 (Ext.refl Nil _).drew)).mono ?_
  rintro e w' ⟨rfl, rfl⟩
  go_wp2_with fail
  refine hK.out _ _ HA1.out (fun hHeld => ?_)
  clear hK KK'
  refine wpAnyH_take (i := 14) (v := .bool true) rfl (by kernel_rfl) (by kernel_rfl) (by kernel_rfl) (fun _ _ _ h => h) (Or.inl ⟨by rfl, ?y11⟩) (by assumption) ?r11
  case y11 => (intro w hSw; have t0 := hSw.cell 0 rfl; have t1 := hSw.cell 1 rfl; clear hSw; go_simp)
  simp only [Act.put]
  refine wpAnyH_take (i := 15) (v := .bool true) rfl (by kernel_rfl) (by kernel_rfl) (by kernel_rfl) (fun _ _ _ h => h) (Or.inl ⟨by rfl, ?y12⟩) (by assumption) ?r12
  case y12 => (intro w hSw; have t0 := hSw.cell 0 rfl; have t1 := hSw.cell 1 rfl; clear hSw; go_simp)
  simp only [Act.put]
  refine wpAnyH_take (i := 16) (v := .bool true) rfl (by kernel_rfl) (by kernel_rfl) (by kernel_rfl) (fun _ _ _ h => h) (Or.inl ⟨by rfl, ?y13⟩) (by assumption) ?r13
  case y13 => (intro w hSw; have t0 := hSw.cell 0 rfl; have t1 := hSw.cell 1 rfl; clear hSw; go_simp)
  simp only [Act.put]
  refine wpAnyH_take (i := 17) (v := .pointer (some ⟨w.heap.size, 0, none⟩)) rfl (by kernel_rfl) (by kernel_rfl) (by kernel_rfl) (fun _ _ _ h => h) (Or.inl ⟨by rfl, ?y14⟩) (by assumption) ?r14
  case y14 => (intro w hSw; have t0 := hSw.cell 0 rfl; have t1 := hSw.cell 1 rfl; clear hSw; go_simp)
  simp only [Act.put]
  refine wpAnyH_take (i := 18) (v := .pointer (some ⟨d, 0, none⟩)) rfl (by kernel_rfl) (by kernel_rfl) (by kernel_rfl) (fun _ _ _ h => h) (Or.inl ⟨by rfl, ?y15⟩) (by assumption) ?r15
  case y15 => (intro w hSw; have t0 := hSw.cell 0 rfl; have t1 := hSw.cell 1 rfl; clear hSw; go_simp)
  simp only [Act.put]
  refine wpAnyH_take (i := 20) (v := .pointer (some ⟨w.heap.size, 1, none⟩)) rfl (by kernel_rfl) (by kernel_rfl) (by kernel_rfl) (fun _ _ _ h => h) (Or.inl ⟨by rfl, ?y16⟩) (by assumption) ?r16
  case y16 => (intro w hSw; have t0 := hSw.cell 0 rfl; have t1 := hSw.cell 1 rfl; clear hSw; go_simp)
  simp only [Act.put]
  refine wpAnyH_take (i := 21) (v := .pointer (some ⟨q, 0, none⟩)) rfl (by kernel_rfl) (by kernel_rfl) (by kernel_rfl) (fun _ _ _ h => h) (Or.inl ⟨by rfl, ?y17⟩) (by assumption) ?r17
  case y17 => (intro w hSw; have t0 := hSw.cell 0 rfl; have t1 := hSw.cell 1 rfl; clear hSw; go_simp)
  simp only [Act.put]
  refine wpAnyH_ready (rs := [19]) (by kernel_rfl) (by simp) (AllReadyH.cons rfl (fun KK' hK => ?_) AllReadyH.nil)
  go_simp
  refine (pq_names (HP.out.ext0 (Ext.refl Nil _).drew)).mono ?_
  rintro e w3 ⟨aop, cap_p, rfl, Op, Sp⟩
  have h3 := HA1.out.ext (show Ext Nil _ w3 from ((Ext.refl Nil _).drew).same Sp.1) fun h => h
  have HOp := Lib.hid Op; have HX3 := Lib.hid Sp.1; have HH3 := Lib.hid h3
  clear Op Sp
  go_wp2_with fail
  refine hK.out _ _ HH3.out (fun hHeld => ?_)
  clear hK KK'
  refine wpAnyH_ready (rs := [22]) (by kernel_rfl) (by simp) (AllReadyH.cons rfl (fun KK' hK => ?_) AllReadyH.nil)
  go_simp
  refine (qq_names ((HP.out.ext0 (Ext.refl Nil _).drew).ext0 HX3.out)).mono ?_
  rintro e w4 ⟨aoq, cap_q, rfl, Oq, Sq⟩
  have h4 := HH3.out.ext Sq.1 fun h => h
  have HOq := Lib.hid Oq; have HX4 := Lib.hid Sq.1; have HH4 := Lib.hid h4
  clear Oq Sq
  go_wp2_with fail
  refine hK.out _ _ HH4.out (fun hHeld => ?_)
  clear hK KK'
  refine wpAnyH_ready (rs := [23]) (by kernel_rfl) (by simp) (AllReadyH.cons rfl (fun KK' hK => ?_) AllReadyH.nil)
  go_simp
  refine (sameNames_m w4 _ _ D.names (HOp.out.ext HX4.out fun _ _ h => h) HOq.out).mono ?_
  rintro e w5 ⟨rfl, e5⟩
  have h5 := HH4.out.ext e5 fun h => h
  have HX5 := Lib.hid e5; have HH5 := Lib.hid h5
  clear e5
  go_wp2_with fail
  refine hK.out _ _ HH5.out (fun hHeld => ?_)
  clear hK KK'
  refine wpAnyH_take (i := 24) (v := .bool true) rfl (by kernel_rfl) (by kernel_rfl) (by kernel_rfl) (fun _ _ _ h => h) (Or.inl ⟨by rfl, ?y18⟩) (by assumption) ?r18
  case y18 => (intro w hSw; have t0 := hSw.cell 0 rfl; have t1 := hSw.cell 1 rfl; clear hSw; go_simp)
  simp only [Act.put]
  refine wpAnyH_take (i := 25) (v := .bool true) rfl (by kernel_rfl) (by kernel_rfl) (by kernel_rfl) (fun _ _ _ h => h) (Or.inl ⟨by rfl, ?y19⟩) (by assumption) ?r19
  case y19 => (intro w hSw; have t0 := hSw.cell 0 rfl; have t1 := hSw.cell 1 rfl; clear hSw; go_simp)
  simp only [Act.put]
  refine wpAnyH_done (by kernel_rfl) ?_ _
  go_simp
  go_wp2_with fail
  go_ret
  exact ⟨rfl, (((((EW.out).drew).same HX3.out).same HX4.out).same HX5.out)⟩
end Go.Proofs.Ytnppneilbkmnfaa
namespace Go.Proofs.Ytnppneilbkmnfaa
open Go.RowKit

theorem made_no (w : World) (lim : Int) (m : Bool) (v : Value) (l : List FI) (h : ImgR w v l) (hfew : l.length ≤ 1048576) (hbyt : ∀ x ∈ l, x.b.length ≤ 1073741824) (hr : openD lim m l = none) :
    Calls Try.prog 38 #[.agg #[.int .i64 lim, .bool m, v]] w fun e w' => e = .returned (.tuple #[.agg #[.pointer none, .pointer none], .bool true]) ∧ Ext Nil w w' := by
  refine (made_m w lim m v l h hfew hbyt).mono ?_
  rintro e w' (⟨-, h2, h3⟩ | ⟨D, d, q, K, h1, -⟩)
  · exact ⟨h2, h3⟩
  · rw [hr] at h1
    cases h1
theorem made_yes (w : World) (lim : Int) (m : Bool) (v : Value) (l : List FI) (h : ImgR w v l) (hfew : l.length ≤ 1048576) (hbyt : ∀ x ∈ l, x.b.length ≤ 1073741824) {D : Dk} (hr : openD lim m l = some D) :
    Calls Try.prog 38 #[.agg #[.int .i64 lim, .bool m, v]] w fun e w' => ∃ d q K, e = .returned (.tuple #[.agg #[.pointer (some ⟨d, 0, none⟩), .pointer (some ⟨q, 0, none⟩)], .bool true]) ∧ PQ w' d q D D K ∧ (∀ k, K k → w.heap.size ≤ k) ∧ Ext Nil w w' := by
  refine (made_m w lim m v l h hfew hbyt).mono ?_
  rintro e w' (⟨h1, -⟩ | ⟨D', d, q, K, h1, h2, h3, h4, h5⟩)
  · rw [hr] at h1
    cases h1
  · rw [hr] at h1
    obtain rfl := Option.some.inj h1
    exact ⟨d, q, K, h2, h3, h4, h5⟩
/-- two pairs apart -/
structure Both (W w : World) (d q : Nat) (D : Dk) (K : Nat → Prop) (p d' q' : Nat) (D' : Dk) (K' : Nat → Prop) (p' : Nat) : Prop where
  a : Play W w d q D K p
  b : Play W w d' q' D' K' p'
  apart : ∀ k, K k → ¬ K' k
  ap : ¬ K p'
  bp : ¬ K' p
theorem Both.swap {W w : World} {d q : Nat} {D : Dk} {K : Nat → Prop} {p d' q' : Nat} {D' : Dk} {K' : Nat → Prop} {p' : Nat} (h : Both W w d q D K p d' q' D' K' p') : Both W w d' q' D' K' p' d q D K p :=
  ⟨h.b, h.a, fun k h1 h2 => h.apart k h2 h1, h.bp, h.ap⟩
theorem Both.ext0 {W w w' : World} {d q : Nat} {D : Dk} {K : Nat → Prop} {p d' q' : Nat} {D' : Dk} {K' : Nat → Prop} {p' : Nat} (h : Both W w d q D K p d' q' D' K' p') (e : Ext Nil w w') : Both W w' d q D K p d' q' D' K' p' :=
  ⟨h.a.ext0 e, h.b.ext0 e, h.apart, h.ap, h.bp⟩
theorem both_step {W w : World} {d q : Nat} {D : Dk} {K : Nat → Prop} {p d' q' : Nat} {D' : Dk} {K' : Nat → Prop} {p' : Nat} (h : Both W w d q D K p d' q' D' K' p') (x : OpI) (ho : OpOk W x.o x.B x.ks) (hs : x.B.length ≤ 1048576 ∧ x.ks.length ≤ 1048576) (hc : D.calls ≤ 1099511627776) (ha : D.arms.length ≤ 1099511627776) :
    Calls Try.prog 41 #[.agg #[.pointer (some ⟨d, 0, none⟩), .pointer (some ⟨q, 0, none⟩)], .agg #[.int .i64 x.o.K, .int .i64 x.o.who, .string x.o.s, .slice x.o.dx x.o.dn x.o.dc, .int .i64 x.o.N, .int .i64 x.o.t0, .int .i64 x.o.t1, .bool x.o.t2, .slice x.o.kx x.o.kn x.o.kc, .int .u8 x.o.junk]] w fun e w' =>
      e = .returned (.bool true) ∧ (∃ K2, Both W w' d q (D.steps x.o x.B) K2 p d' q' D' K' p') ∧ Ext K w w' := by
  refine (step_m w d q D K h.a.pq x.o x.B x.ks (ho.ext0 h.a.ext) (fun k hk hK => by have := ho.dlt k hk; have := (h.a.new k hK).1; omega) (fun k hk hK => by have := ho.klt k hk; have := (h.a.new k hK).1; omega) hc ha (by omega) (by omega)).mono ?_
  rintro e w' ⟨he, K2, hP, hS⟩
  have hws := h.a.ext.size
  have hpl := h.a.box.lt
  have hpl' := h.b.box.lt
  refine ⟨he, ⟨K2, ⟨⟨hP, fun k hk => ?_, h.a.ext.trans hS.1 fun i hi hk => by have := (h.a.new i hk).1; omega, h.a.box.ext hS.1 fun hk => (h.a.new p hk).2 rfl⟩, ⟨h.b.pq.ext hS.1 fun k h1 h2 => h.apart k h2 h1, h.b.new, h.b.ext.trans hS.1 fun i hi hk => by have := (h.a.new i hk).1; omega, h.b.box.ext hS.1 h.ap⟩, fun k hk hk' => ?_, fun hk => ?_, h.bp⟩⟩, hS.1⟩
  · rcases hS.2 k hk with h1 | h1
    · exact h.a.new k h1
    · exact ⟨by omega, by omega⟩
  · rcases hS.2 k hk with h1 | h1
    · exact h.apart k h1 hk'
    · have := h.b.pq.lt k hk'
      omega
  · rcases hS.2 p' hk with h1 | h1
    · exact h.ap h1
    · omega
theorem both_start {W w1 w2 : World} {d q : Nat} {D1 : Dk} {K : Nat → Prop} {d' q' : Nat} {D2 : Dk} {K' : Nat → Prop} {o1 o2 : Obj} {p p' : Nat} (h1 : Play W (w1.alloc o1) d q D1 K p) (h2 : Play W (w2.alloc o2) d' q' D2 K' p') (hK : ∀ k, K' k → (w1.alloc o1).heap.size ≤ k) (e : Ext Nil (w1.alloc o1) w2) (hpl : ¬ K p') : Both W (w2.alloc o2) d q D1 K p d' q' D2 K' p' := by
  have e2 : Ext Nil (w1.alloc o1) (w2.alloc o2) := e.alloc _
  have hs := e.size
  refine ⟨h1.ext0 e2, h2, fun k hk hk' => ?_, fun hk => ?_, fun hk => ?_⟩
  · have := h1.pq.lt k hk
    have := hK k hk'
    omega
  · exact hpl hk
  · have := hK p hk
    have := h1.box.lt
    omega
set_option maxRecDepth 20000 in
set_option maxHeartbeats 2000000 in
theorem alls_any (w : World) (lim1 : Int) (m1 : Bool) (v1 : Value) (l1 : List FI) (hI1 : ImgR w v1 l1) (hfew1 : l1.length ≤ 1048576) (hbyt1 : ∀ x ∈ l1, x.b.length ≤ 1073741824) (lim2 : Int) (m2 : Bool) (v2 : Value) (l2 : List FI) (hI2 : ImgR w v2 l2) (hfew2 : l2.length ≤ 1048576) (hbyt2 : ∀ x ∈ l2, x.b.length ≤ 1073741824) (sv : Value) (L : List OpI) (hS : ScrR w sv L) :
    Calls Try.prog 13 #[.agg #[.int .i64 lim1, .bool m1, v1], .agg #[.int .i64 lim2, .bool m2, v2], sv] w fun e w' => e = .returned (.bool true) ∧ Ext Nil w w' := by
  obtain ⟨ao1, cap1, rfl, -, -⟩ := hI1.see.shape
  obtain ⟨ao2, cap2, rfl, -, -⟩ := hI2.see.shape
  obtain ⟨sa, sc, rfl, hs1, hs2⟩ := hS.shape
  have hLfew := hS.few
  obtain ⟨W1, hW1⟩ : ∃ W1, W1 = w.alloc (.cells #[.int .i64 lim1, .bool m1, .slice ao1 l1.length cap1] 44 (0, 0)) := ⟨_, rfl⟩
  have e1 : Ext Nil w W1 := by rw [hW1]; exact (Ext.refl _ _).alloc _
  have a1 : At W1 w.heap.size 44 [.int .i64 lim1, .bool m1, .slice ao1 l1.length cap1] := by rw [hW1]; exact At.new w [.int .i64 lim1, .bool m1, .slice ao1 l1.length cap1] 44
  have s1 : W1.heap.size = w.heap.size + 1 := by rw [hW1]; simp
  have e2 : Ext Nil W1 (W1.alloc (.cells #[.int .i64 lim2, .bool m2, .slice ao2 l2.length cap2] 44 (0, 0))) := (Ext.refl _ _).alloc _
  have a2 := At.new W1 [.int .i64 lim2, .bool m2, .slice ao2 l2.length cap2] 44
  rw [s1] at a2
  have a1 := a1.ext e2 fun h => h
  have eW := e1.same e2
  have b0 := a1.cell 0 rfl
  have b1 := a1.cell 1 rfl
  have b2 := a1.cell 2 rfl
  have d0 := a2.cell 0 rfl
  have d1 := a2.cell 1 rfl
  have d2 := a2.cell 2 rfl
  have HI1 := Lib.hid (hI1.ext eW fun _ _ h => h); have HI2 := Lib.hid (hI2.ext eW fun _ _ h => h)
  have HS := Lib.hid hS; have EW := Lib.hid eW; have HDC1 := Lib.hid (fun D (h : openD lim1 m1 l1 = some D) => openD_calm h); have HDC2 := Lib.hid (fun D (h : openD lim2 m2 l2 = some D) => openD_calm h)
  have HY1 := Lib.hid hbyt1; have HY2 := Lib.hid hbyt2
  have HCS1 : Hid (openD lim1 m1 l1 = none ∨ ∃ D, openD lim1 m1 l1 = some D) := Lib.hid (by cases openD lim1 m1 l1 with | none => exact .inl rfl | some D => exact .inr ⟨D, rfl⟩)
  have HCS2 : Hid (openD lim2 m2 l2 = none ∨ ∃ D, openD lim2 m2 l2 = some D) := Lib.hid (by cases openD lim2 m2 l2 with | none => exact .inl rfl | some D => exact .inr ⟨D, rfl⟩)
  clear hI1 hI2 hS a1 a2 eW e1 e2 s1 hbyt1 hbyt2
  subst hW1
  unfold maxLen at hs2
  rcases HCS1.out with hr1 | ⟨D1, hr1⟩
  · have HR1 := Lib.hid hr1
    clear hr1
    rcases HCS2.out with hr2 | ⟨D2, hr2⟩
    · have HR2 := Lib.hid hr2
      clear hr2
      go_enter Try.func13, Try.ntmps13
      go_wp2_with (first
        | (have hy := mk; go_at_call 38; clear hy mk; refine (made_no _ lim2 m2 _ l2 HI2'.out hfew2 HY2.out HR2.out).mono ?_; rintro e w2 ⟨rfl, e2⟩; have u1 := (e2.alloc (.cells #[.pointer none, .pointer none] 82 (0, 0))).cell ((At.new w1 [.pointer none, .pointer none] 82).cell 1 rfl) fun h => h; have HE2 := Lib.hid (HE1.out.same (e2.alloc (.cells #[.pointer none, .pointer none] 82 (0, 0)))); clear e2 x0 x1 x2)
        | (go_at_call 38; refine (made_no _ lim1 m1 _ l1 HI1.out hfew1 HY1.out HR1.out).mono ?_; rintro e w1 ⟨rfl, e1⟩; have x0 := (e1.alloc (.cells #[.pointer none, .pointer none] 82 (0, 0))).cell d0 fun h => h; have x1 := (e1.alloc (.cells #[.pointer none, .pointer none] 82 (0, 0))).cell d1 fun h => h; have x2 := (e1.alloc (.cells #[.pointer none, .pointer none] 82 (0, 0))).cell d2 fun h => h; have HI2' := Lib.hid (HI2.out.ext (e1.alloc (.cells #[.pointer none, .pointer none] 82 (0, 0))) fun _ _ h => h); have HE1 := Lib.hid (EW.out.same (e1.alloc (.cells #[.pointer none, .pointer none] 82 (0, 0)))); clear e1 b0 b1 b2 d0 d1 d2; have mk : True := trivial))
      go_ret
      exact ⟨rfl, HE2.out⟩
    · have HR2 := Lib.hid hr2
      clear hr2
      go_enter Try.func13, Try.ntmps13
      go_wp2_with (first
        | (have hy := mk; go_at_call 38; clear hy mk; refine (made_yes _ lim2 m2 _ l2 HI2'.out hfew2 HY2.out HR2.out).mono ?_; rintro e w2 ⟨d', q', K', rfl, hP2, hK2, e2⟩; have u1 := (e2.alloc (.cells #[.pointer (some ⟨d', 0, none⟩), .pointer (some ⟨q', 0, none⟩)] 82 (0, 0))).cell ((At.new w1 [.pointer none, .pointer none] 82).cell 1 rfl) fun h => h; have HE2 := Lib.hid (HE1.out.same (e2.alloc (.cells #[.pointer (some ⟨d', 0, none⟩), .pointer (some ⟨q', 0, none⟩)] 82 (0, 0)))); clear e2 x0 x1 x2)
        | (go_at_call 38; refine (made_no _ lim1 m1 _ l1 HI1.out hfew1 HY1.out HR1.out).mono ?_; rintro e w1 ⟨rfl, e1⟩; have x0 := (e1.alloc (.cells #[.pointer none, .pointer none] 82 (0, 0))).cell d0 fun h => h; have x1 := (e1.alloc (.cells #[.pointer none, .pointer none] 82 (0, 0))).cell d1 fun h => h; have x2 := (e1.alloc (.cells #[.pointer none, .pointer none] 82 (0, 0))).cell d2 fun h => h; have HI2' := Lib.hid (HI2.out.ext (e1.alloc (.cells #[.pointer none, .pointer none] 82 (0, 0))) fun _ _ h => h); have HE1 := Lib.hid (EW.out.same (e1.alloc (.cells #[.pointer none, .pointer none] 82 (0, 0)))); clear e1 b0 b1 b2 d0 d1 d2; have mk : True := trivial))
      go_ret
      exact ⟨rfl, HE2.out⟩
  · have HR1 := Lib.hid hr1
    clear hr1
    rcases HCS2.out with hr2 | ⟨D2, hr2⟩
    · have HR2 := Lib.hid hr2
      clear hr2
      go_enter Try.func13, Try.ntmps13
      go_wp2_with (first
        | (have hy := mk; go_at_call 38; clear hy mk; refine (made_no _ lim2 m2 _ l2 HI2'.out hfew2 HY2.out HR2.out).mono ?_; rintro e w2 ⟨rfl, e2⟩; have u1 := (e2.alloc (.cells #[.pointer none, .pointer none] 82 (0, 0))).cell ((At.new w1 [.pointer (some ⟨d, 0, none⟩), .pointer (some ⟨q, 0, none⟩)] 82).cell 1 rfl) fun h => h; have HE2 := Lib.hid (HE1.out.same (e2.alloc (.cells #[.pointer none, .pointer none] 82 (0, 0)))); clear e2 x0 x1 x2)
        | (go_at_call 38; refine (made_yes _ lim1 m1 _ l1 HI1.out hfew1 HY1.out HR1.out).mono ?_; rintro e w1 ⟨d, q, K, rfl, hP1, hK1, e1⟩; have x0 := (e1.alloc (.cells #[.pointer (some ⟨d, 0, none⟩), .pointer (some ⟨q, 0, none⟩)] 82 (0, 0))).cell d0 fun h => h; have x1 := (e1.alloc (.cells #[.pointer (some ⟨d, 0, none⟩), .pointer (some ⟨q, 0, none⟩)] 82 (0, 0))).cell d1 fun h => h; have x2 := (e1.alloc (.cells #[.pointer (some ⟨d, 0, none⟩), .pointer (some ⟨q, 0, none⟩)] 82 (0, 0))).cell d2 fun h => h; have HI2' := Lib.hid (HI2.out.ext (e1.alloc (.cells #[.pointer (some ⟨d, 0, none⟩), .pointer (some ⟨q, 0, none⟩)] 82 (0, 0))) fun _ _ h => h); have HE1 := Lib.hid (EW.out.same (e1.alloc (.cells #[.pointer (some ⟨d, 0, none⟩), .pointer (some ⟨q, 0, none⟩)] 82 (0, 0)))); have HP1 := Lib.hid (Play.start (W := w) hP1 (fun k hk => by have := hK1 k hk; simp at this; omega) (EW.out.same e1)); clear hP1 hK1; clear e1 b0 b1 b2 d0 d1 d2; have mk : True := trivial))
      go_ret
      exact ⟨rfl, HE2.out⟩
    · have HR2 := Lib.hid hr2
      clear hr2
      go_enter Try.func13, Try.ntmps13
      go_wp2_with (first
        | (have hy := mk; go_at_call 38; clear hy mk; refine (made_yes _ lim2 m2 _ l2 HI2'.out hfew2 HY2.out HR2.out).mono ?_; rintro e w2 ⟨d', q', K', rfl, hP2, hK2, e2⟩; have u1 := (e2.alloc (.cells #[.pointer (some ⟨d', 0, none⟩), .pointer (some ⟨q', 0, none⟩)] 82 (0, 0))).cell ((At.new w1 [.pointer (some ⟨d, 0, none⟩), .pointer (some ⟨q, 0, none⟩)] 82).cell 1 rfl) fun h => h; have HE2 := Lib.hid (HE1.out.same (e2.alloc (.cells #[.pointer (some ⟨d', 0, none⟩), .pointer (some ⟨q', 0, none⟩)] 82 (0, 0)))); have HP2 := Lib.hid (Play.start (W := w) hP2 (fun k hk => by have := hK2 k hk; have := HE1.out.size; omega) (HE1.out.same e2)); have HB := Lib.hid (both_start HP1.out HP2.out hK2 e2 (fun hk => by have := HP1.out.pq.lt _ hk; have := e2.size; omega)); clear hP2 hK2; clear e2 x0 x1 x2)
        | (go_at_call 38; refine (made_yes _ lim1 m1 _ l1 HI1.out hfew1 HY1.out HR1.out).mono ?_; rintro e w1 ⟨d, q, K, rfl, hP1, hK1, e1⟩; have x0 := (e1.alloc (.cells #[.pointer (some ⟨d, 0, none⟩), .pointer (some ⟨q, 0, none⟩)] 82 (0, 0))).cell d0 fun h => h; have x1 := (e1.alloc (.cells #[.pointer (some ⟨d, 0, none⟩), .pointer (some ⟨q, 0, none⟩)] 82 (0, 0))).cell d1 fun h => h; have x2 := (e1.alloc (.cells #[.pointer (some ⟨d, 0, none⟩), .pointer (some ⟨q, 0, none⟩)] 82 (0, 0))).cell d2 fun h => h; have HI2' := Lib.hid (HI2.out.ext (e1.alloc (.cells #[.pointer (some ⟨d, 0, none⟩), .pointer (some ⟨q, 0, none⟩)] 82 (0, 0))) fun _ _ h => h); have HE1 := Lib.hid (EW.out.same (e1.alloc (.cells #[.pointer (some ⟨d, 0, none⟩), .pointer (some ⟨q, 0, none⟩)] 82 (0, 0)))); have HP1 := Lib.hid (Play.start (W := w) hP1 (fun k hk => by have := hK1 k hk; simp at this; omega) (EW.out.same e1)); clear hP1 hK1; clear e1 b0 b1 b2 d0 d1 d2; have mk : True := trivial))
      have HC1 := Lib.hid (HDC1.out D1 HR1.out); have HC2 := Lib.hid (HDC2.out D2 HR2.out)
      generalize hWN : w2.alloc (.cells #[.pointer (some ⟨d', 0, none⟩), .pointer (some ⟨q', 0, none⟩)] 82 (0, 0)) = wn at *
      clear hWN
      clear u1
      generalize w2.heap.size = p' at *
      generalize w1.heap.size = p at *
      go_loopw [11] (fun i wr => ∃ (k : Nat) (D : Dk) (D' : Dk) (K : Nat → Prop) (K' : Nat → Prop), i = .int .i64 (k : Int) ∧ k ≤ L.length ∧ Both w wr d q D K p d' q' D' K' p' ∧ D.calls ≤ k ∧ D.arms.length ≤ k ∧ D'.calls ≤ k ∧ D'.arms.length ≤ k) (fun i _ => L.length - (intOf i).toNat)
      case atStart => exact ⟨0, D1, D2, K, K', rfl, Nat.zero_le _, HB.out, by rw [HC1.out.2.2.1]; exact Nat.le_refl _, by rw [HC1.out.2.2.2]; exact Nat.le_refl _, by rw [HC2.out.2.2.1]; exact Nat.le_refl _, by rw [HC2.out.2.2.2]; exact Nat.le_refl _⟩
      case round =>
        obtain ⟨k, D, D', K, K', rfl, hk, hB, hc1, ha1, hc2, ha2⟩ := hrel
        by_cases hlt : k < L.length
        · obtain ⟨x, hx⟩ : ∃ x, L[k]? = some x := ⟨_, List.getElem?_eq_getElem hlt⟩
          have hxm := List.mem_of_getElem? hx
          obtain ⟨bs, os, rfl, hbl, q0, q1, q2, q3, q4, q5, q6, q7, q8, q9⟩ := (HS.out.ext0 hB.a.ext).cells hx
          obtain ⟨bs', os', hao, hbl0, hcc⟩ := HS.out.at hx
          simp only [Option.some.injEq, Addr.mk.injEq, and_true] at hao
          obtain ⟨rfl, rfl⟩ := hao
          have r0 := hB.a.box.cell 0 rfl
          have r1 := hB.a.box.cell 1 rfl
          have r2 := hB.b.box.cell 0 rfl
          have r3 := hB.b.box.cell 1 rfl
          have HGR1 := Lib.hid (steps_grows D x.o x.B); have HGR2 := Lib.hid (steps_grows D' x.o x.B)
          have hpl := hB.b.box.lt
          have HB8 := Lib.hid hB; have HXM := Lib.hid hxm; have HCC := Lib.hid hcc
          clear hB hxm hx hcc
          cases hwho : (bits BinOp.and IntKind.i64 x.o.who 1 == 1)
          · go_wp2_with fail
            have hA8 := At.new wr [.pointer (some ⟨d, 0, none⟩), .pointer (some ⟨q, 0, none⟩)] 82
            have eB : Ext Nil wr (wr.alloc (.cells #[.pointer (some ⟨d, 0, none⟩), .pointer (some ⟨q, 0, none⟩)] 82 (0, 0))) := (Ext.refl _ _).alloc _
            have hcl : ∀ W', Ext Nil w W' → ∀ j u, x.o.cells[j]? = some u → W'.cell? ⟨bs, os + k * 10 + j, none⟩ = some u := fun W' e j u hu => e.cell (HCC.out j u hu) fun h => h
            have hB8 := (HB8.out.ext0 eB)
            have hst := both_step (hB8.ext0 (Ext.refl Nil _).drew) x (HS.out.ok x HXM.out) (HS.out.small x HXM.out) (by omega) (by omega)
            have HST := Lib.hid hst; have HCL := Lib.hid hcl; have HA8 := Lib.hid hA8; have HB9 := Lib.hid hB8
            have HNK := Lib.hid (show ¬ K wr.heap.size from fun hk => Nat.lt_irrefl _ (HB8.out.a.pq.lt _ hk))
            clear hst hcl hA8 hB8 q0 q1 q2 q3 q4 q5 q6 q7 q8 q9
            refine wp_region_held_drew (S := fun w' => At w' wr.heap.size 82 [.pointer (some ⟨d, 0, none⟩), .pointer (some ⟨q, 0, none⟩)] ∧ ∀ j u, x.o.cells[j]? = some u → w'.cell? ⟨bs, os + k * 10 + j, none⟩ = some u) (by kernel_rfl) ⟨HA8.out, HCL.out _ HB9.out.a.ext.drew⟩ (fun hHeld => ?_)
            refine wpAnyH_take (i := 0) (v := .agg #[.pointer (some ⟨d, 0, none⟩), .pointer (some ⟨q, 0, none⟩)]) rfl (by kernel_rfl) (by kernel_rfl) (by kernel_rfl) (fun _ _ _ h => h) (Or.inl ⟨by rfl, ?y26⟩) (by assumption) ?r26
            case y26 => (intro w hSw; have t0 := hSw.1.cell 0 rfl; have t1 := hSw.1.cell 1 rfl; have g0 : w.cell? ⟨bs, os + k * 10, none⟩ = some (.int .i64 x.o.K) := hSw.2 0 _ rfl; have g1 : w.cell? ⟨bs, os + k * 10 + 1, none⟩ = some (.int .i64 x.o.who) := hSw.2 1 _ rfl; have g2 : w.cell? ⟨bs, os + k * 10 + 2, none⟩ = some (.string x.o.s) := hSw.2 2 _ rfl; have g3 : w.cell? ⟨bs, os + k * 10 + 3, none⟩ = some (.slice x.o.dx x.o.dn x.o.dc) := hSw.2 3 _ rfl; have g4 : w.cell? ⟨bs, os + k * 10 + 4, none⟩ = some (.int .i64 x.o.N) := hSw.2 4 _ rfl; have g5 : w.cell? ⟨bs, os + k * 10 + 5, none⟩ = some (.int .i64 x.o.t0) := hSw.2 5 _ rfl; have g6 : w.cell? ⟨bs, os + k * 10 + 6, none⟩ = some (.int .i64 x.o.t1) := hSw.2 6 _ rfl; have g7 : w.cell? ⟨bs, os + k * 10 + 7, none⟩ = some (.bool x.o.t2) := hSw.2 7 _ rfl; have g8 : w.cell? ⟨bs, os + k * 10 + 8, none⟩ = some (.slice x.o.kx x.o.kn x.o.kc) := hSw.2 8 _ rfl; have g9 : w.cell? ⟨bs, os + k * 10 + 9, none⟩ = some (.int .u8 x.o.junk) := hSw.2 9 _ rfl; clear hSw; go_simp)
            simp only [Act.put]
            refine wpAnyH_take (i := 1) (v := .slice (some ⟨bs, os, none⟩) L.length sc) rfl (by kernel_rfl) (by kernel_rfl) (by kernel_rfl) (fun _ _ _ h => h) (Or.inl ⟨by rfl, ?y27⟩) (by assumption) ?r27
            case y27 => (intro w hSw; have t0 := hSw.1.cell 0 rfl; have t1 := hSw.1.cell 1 rfl; have g0 : w.cell? ⟨bs, os + k * 10, none⟩ = some (.int .i64 x.o.K) := hSw.2 0 _ rfl; have g1 : w.cell? ⟨bs, os + k * 10 + 1, none⟩ = some (.int .i64 x.o.who) := hSw.2 1 _ rfl; have g2 : w.cell? ⟨bs, os + k * 10 + 2, none⟩ = some (.string x.o.s) := hSw.2 2 _ rfl; have g3 : w.cell? ⟨bs, os + k * 10 + 3, none⟩ = some (.slice x.o.dx x.o.dn x.o.dc) := hSw.2 3 _ rfl; have g4 : w.cell? ⟨bs, os + k * 10 + 4, none⟩ = some (.int .i64 x.o.N) := hSw.2 4 _ rfl; have g5 : w.cell? ⟨bs, os + k * 10 + 5, none⟩ = some (.int .i64 x.o.t0) := hSw.2 5 _ rfl; have g6 : w.cell? ⟨bs, os + k * 10 + 6, none⟩ = some (.int .i64 x.o.t1) := hSw.2 6 _ rfl; have g7 : w.cell? ⟨bs, os + k * 10 + 7, none⟩ = some (.bool x.o.t2) := hSw.2 7 _ rfl; have g8 : w.cell? ⟨bs, os + k * 10 + 8, none⟩ = some (.slice x.o.kx x.o.kn x.o.kc) := hSw.2 8 _ rfl; have g9 : w.cell? ⟨bs, os + k * 10 + 9, none⟩ = some (.int .u8 x.o.junk) := hSw.2 9 _ rfl; clear hSw; go_simp)
            simp only [Act.put]
            refine wpAnyH_take (i := 2) (v := .int .i64 (k : Int)) rfl (by kernel_rfl) (by kernel_rfl) (by kernel_rfl) (fun _ _ _ h => h) (Or.inl ⟨by rfl, ?y28⟩) (by assumption) ?r28
            case y28 => (intro w hSw; have t0 := hSw.1.cell 0 rfl; have t1 := hSw.1.cell 1 rfl; have g0 : w.cell? ⟨bs, os + k * 10, none⟩ = some (.int .i64 x.o.K) := hSw.2 0 _ rfl; have g1 : w.cell? ⟨bs, os + k * 10 + 1, none⟩ = some (.int .i64 x.o.who) := hSw.2 1 _ rfl; have g2 : w.cell? ⟨bs, os + k * 10 + 2, none⟩ = some (.string x.o.s) := hSw.2 2 _ rfl; have g3 : w.cell? ⟨bs, os + k * 10 + 3, none⟩ = some (.slice x.o.dx x.o.dn x.o.dc) := hSw.2 3 _ rfl; have g4 : w.cell? ⟨bs, os + k * 10 + 4, none⟩ = some (.int .i64 x.o.N) := hSw.2 4 _ rfl; have g5 : w.cell? ⟨bs, os + k * 10 + 5, none⟩ = some (.int .i64 x.o.t0) := hSw.2 5 _ rfl; have g6 : w.cell? ⟨bs, os + k * 10 + 6, none⟩ = some (.int .i64 x.o.t1) := hSw.2 6 _ rfl; have g7 : w.cell? ⟨bs, os + k * 10 + 7, none⟩ = some (.bool x.o.t2) := hSw.2 7 _ rfl; have g8 : w.cell? ⟨bs, os + k * 10 + 8, none⟩ = some (.slice x.o.kx x.o.kn x.o.kc) := hSw.2 8 _ rfl; have g9 : w.cell? ⟨bs, os + k * 10 + 9, none⟩ = some (.int .u8 x.o.junk) := hSw.2 9 _ rfl; clear hSw; go_simp)
            simp only [Act.put]
            refine wpAnyH_take (i := 3) (v := .pointer (some ⟨bs, os + k * 10, none⟩)) rfl (by kernel_rfl) (by kernel_rfl) (by kernel_rfl) (fun _ _ _ h => h) (Or.inl ⟨by rfl, ?y29⟩) (by assumption) ?r29
            case y29 => (intro w hSw; have t0 := hSw.1.cell 0 rfl; have t1 := hSw.1.cell 1 rfl; have g0 : w.cell? ⟨bs, os + k * 10, none⟩ = some (.int .i64 x.o.K) := hSw.2 0 _ rfl; have g1 : w.cell? ⟨bs, os + k * 10 + 1, none⟩ = some (.int .i64 x.o.who) := hSw.2 1 _ rfl; have g2 : w.cell? ⟨bs, os + k * 10 + 2, none⟩ = some (.string x.o.s) := hSw.2 2 _ rfl; have g3 : w.cell? ⟨bs, os + k * 10 + 3, none⟩ = some (.slice x.o.dx x.o.dn x.o.dc) := hSw.2 3 _ rfl; have g4 : w.cell? ⟨bs, os + k * 10 + 4, none⟩ = some (.int .i64 x.o.N) := hSw.2 4 _ rfl; have g5 : w.cell? ⟨bs, os + k * 10 + 5, none⟩ = some (.int .i64 x.o.t0) := hSw.2 5 _ rfl; have g6 : w.cell? ⟨bs, os + k * 10 + 6, none⟩ = some (.int .i64 x.o.t1) := hSw.2 6 _ rfl; have g7 : w.cell? ⟨bs, os + k * 10 + 7, none⟩ = some (.bool x.o.t2) := hSw.2 7 _ rfl; have g8 : w.cell? ⟨bs, os + k * 10 + 8, none⟩ = some (.slice x.o.kx x.o.kn x.o.kc) := hSw.2 8 _ rfl; have g9 : w.cell? ⟨bs, os + k * 10 + 9, none⟩ = some (.int .u8 x.o.junk) := hSw.2 9 _ rfl; clear hSw; go_simp)
            simp only [Act.put]
            refine wpAnyH_take (i := 4) (v := .agg #[.int .i64 x.o.K, .int .i64 x.o.who, .string x.o.s, .slice x.o.dx x.o.dn x.o.dc, .int .i64 x.o.N, .int .i64 x.o.t0, .int .i64 x.o.t1, .bool x.o.t2, .slice x.o.kx x.o.kn x.o.kc, .int .u8 x.o.junk]) rfl (by kernel_rfl) (by kernel_rfl) (by kernel_rfl) (fun _ _ _ h => h) (Or.inl ⟨by rfl, ?y30⟩) (by assumption) ?r30
            case y30 => (intro w hSw; have t0 := hSw.1.cell 0 rfl; have t1 := hSw.1.cell 1 rfl; have g0 : w.cell? ⟨bs, os + k * 10, none⟩ = some (.int .i64 x.o.K) := hSw.2 0 _ rfl; have g1 : w.cell? ⟨bs, os + k * 10 + 1, none⟩ = some (.int .i64 x.o.who) := hSw.2 1 _ rfl; have g2 : w.cell? ⟨bs, os + k * 10 + 2, none⟩ = some (.string x.o.s) := hSw.2 2 _ rfl; have g3 : w.cell? ⟨bs, os + k * 10 + 3, none⟩ = some (.slice x.o.dx x.o.dn x.o.dc) := hSw.2 3 _ rfl; have g4 : w.cell? ⟨bs, os + k * 10 + 4, none⟩ = some (.int .i64 x.o.N) := hSw.2 4 _ rfl; have g5 : w.cell? ⟨bs, os + k * 10 + 5, none⟩ = some (.int .i64 x.o.t0) := hSw.2 5 _ rfl; have g6 : w.cell? ⟨bs, os + k * 10 + 6, none⟩ = some (.int .i64 x.o.t1) := hSw.2 6 _ rfl; have g7 : w.cell? ⟨bs, os + k * 10 + 7, none⟩ = some (.bool x.o.t2) := hSw.2 7 _ rfl; have g8 : w.cell? ⟨bs, os + k * 10 + 8, none⟩ = some (.slice x.o.kx x.o.kn x.o.kc) := hSw.2 8 _ rfl; have g9 : w.cell? ⟨bs, os + k * 10 + 9, none⟩ = some (.int .u8 x.o.junk) := hSw.2 9 _ rfl; clear hSw; go_simp)
            simp only [Act.put]
            refine wpAnyH_ready (rs := [5]) (by kernel_rfl) (by simp) (AllReadyH.cons rfl (fun KK' hK => ?_) AllReadyH.nil)
            go_simp
            refine (HST.out).mono ?_
            rintro e w3 ⟨rfl, ⟨K2, hB3⟩, eX⟩
            have hB3 := hB3
            have hA3 := HA8.out.ext (show Ext _ _ w3 from ((Ext.refl _ _).drew).same eX) HNK.out
            have hC3 := HCL.out w3 hB3.a.ext
            have HB3 := Lib.hid hB3; have HS3 := Lib.hid (And.intro hA3 hC3)
            clear hB3 hA3 hC3 eX
            go_wp2_with fail
            refine hK.out _ _ HS3.out (fun hHeld => ?_)
            clear hK KK'
            refine wpAnyH_take (i := 6) (v := .bool true) rfl (by kernel_rfl) (by kernel_rfl) (by kernel_rfl) (fun _ _ _ h => h) (Or.inl ⟨by rfl, ?y31⟩) (by assumption) ?r31
            case y31 => (intro w hSw; have t0 := hSw.1.cell 0 rfl; have t1 := hSw.1.cell 1 rfl; have g0 : w.cell? ⟨bs, os + k * 10, none⟩ = some (.int .i64 x.o.K) := hSw.2 0 _ rfl; have g1 : w.cell? ⟨bs, os + k * 10 + 1, none⟩ = some (.int .i64 x.o.who) := hSw.2 1 _ rfl; have g2 : w.cell? ⟨bs, os + k * 10 + 2, none⟩ = some (.string x.o.s) := hSw.2 2 _ rfl; have g3 : w.cell? ⟨bs, os + k * 10 + 3, none⟩ = some (.slice x.o.dx x.o.dn x.o.dc) := hSw.2 3 _ rfl; have g4 : w.cell? ⟨bs, os + k * 10 + 4, none⟩ = some (.int .i64 x.o.N) := hSw.2 4 _ rfl; have g5 : w.cell? ⟨bs, os + k * 10 + 5, none⟩ = some (.int .i64 x.o.t0) := hSw.2 5 _ rfl; have g6 : w.cell? ⟨bs, os + k * 10 + 6, none⟩ = some (.int .i64 x.o.t1) := hSw.2 6 _ rfl; have g7 : w.cell? ⟨bs, os + k * 10 + 7, none⟩ = some (.bool x.o.t2) := hSw.2 7 _ rfl; have g8 : w.cell? ⟨bs, os + k * 10 + 8, none⟩ = some (.slice x.o.kx x.o.kn x.o.kc) := hSw.2 8 _ rfl; have g9 : w.cell? ⟨bs, os + k * 10 + 9, none⟩ = some (.int .u8 x.o.junk) := hSw.2 9 _ rfl; clear hSw; go_simp)
            simp only [Act.put]
            refine wpAnyH_done (by kernel_rfl) ?_ _
            clear hHeld
            have r0 := HB3.out.a.box.cell 0 rfl
            have r1 := HB3.out.a.box.cell 1 rfl
            have r2 := HB3.out.b.box.cell 0 rfl
            have r3 := HB3.out.b.box.cell 1 rfl
            have HT1 := Lib.hid (told_m w3 _ _ _ _ HB3.out.a.pq)
            go_simp
            go_wp2_with (first
              | (have hy := mk; go_at_call 43; clear hy mk; refine (told_m w4 _ _ _ _ HB4.out.b.pq).mono ?_; rintro e w5 ⟨rfl, e5⟩; have HB5 := Lib.hid (HB4.out.ext0 e5); clear e5)
              | (go_at_call 43; refine (HT1.out).mono ?_; rintro e w4 ⟨rfl, e4⟩; have HB4 := Lib.hid (HB3.out.ext0 e4); clear r0 r1 r2 r3; have r2 := HB4.out.b.box.cell 0 rfl; have r3 := HB4.out.b.box.cell 1 rfl; clear e4; have mk : True := trivial))
            exact ⟨⟨k + 1, _, _, K2, _, by go_num, by omega, HB5.out, by have := HGR1.out.1; omega, by have := HGR1.out.2; omega, by omega, by omega⟩, by simp [intOf]; omega⟩
          · go_wp2_with fail
            have hA8 := At.new wr [.pointer (some ⟨d', 0, none⟩), .pointer (some ⟨q', 0, none⟩)] 82
            have eB : Ext Nil wr (wr.alloc (.cells #[.pointer (some ⟨d', 0, none⟩), .pointer (some ⟨q', 0, none⟩)] 82 (0, 0))) := (Ext.refl _ _).alloc _
            have hcl : ∀ W', Ext Nil w W' → ∀ j u, x.o.cells[j]? = some u → W'.cell? ⟨bs, os + k * 10 + j, none⟩ = some u := fun W' e j u hu => e.cell (HCC.out j u hu) fun h => h
            have hB8 := (HB8.out.ext0 eB)
            have hst := both_step (hB8.swap.ext0 (Ext.refl Nil _).drew) x (HS.out.ok x HXM.out) (HS.out.small x HXM.out) (by omega) (by omega)
            have HST := Lib.hid hst; have HCL := Lib.hid hcl; have HA8 := Lib.hid hA8; have HB9 := Lib.hid hB8
            have HNK := Lib.hid (show ¬ K' wr.heap.size from fun hk => Nat.lt_irrefl _ (HB8.out.b.pq.lt _ hk))
            clear hst hcl hA8 hB8 q0 q1 q2 q3 q4 q5 q6 q7 q8 q9
            refine wp_region_held_drew (S := fun w' => At w' wr.heap.size 82 [.pointer (some ⟨d', 0, none⟩), .pointer (some ⟨q', 0, none⟩)] ∧ ∀ j u, x.o.cells[j]? = some u → w'.cell? ⟨bs, os + k * 10 + j, none⟩ = some u) (by kernel_rfl) ⟨HA8.out, HCL.out _ HB9.out.a.ext.drew⟩ (fun hHeld => ?_)
            refine wpAnyH_take (i := 0) (v := .agg #[.pointer (some ⟨d', 0, none⟩), .pointer (some ⟨q', 0, none⟩)]) rfl (by kernel_rfl) (by kernel_rfl) (by kernel_rfl) (fun _ _ _ h => h) (Or.inl ⟨by rfl, ?y38⟩) (by assumption) ?r38
            case y38 => (intro w hSw; have t0 := hSw.1.cell 0 rfl; have t1 := hSw.1.cell 1 rfl; have g0 : w.cell? ⟨bs, os + k * 10, none⟩ = some (.int .i64 x.o.K) := hSw.2 0 _ rfl; have g1 : w.cell? ⟨bs, os + k * 10 + 1, none⟩ = some (.int .i64 x.o.who) := hSw.2 1 _ rfl; have g2 : w.cell? ⟨bs, os + k * 10 + 2, none⟩ = some (.string x.o.s) := hSw.2 2 _ rfl; have g3 : w.cell? ⟨bs, os + k * 10 + 3, none⟩ = some (.slice x.o.dx x.o.dn x.o.dc) := hSw.2 3 _ rfl; have g4 : w.cell? ⟨bs, os + k * 10 + 4, none⟩ = some (.int .i64 x.o.N) := hSw.2 4 _ rfl; have g5 : w.cell? ⟨bs, os + k * 10 + 5, none⟩ = some (.int .i64 x.o.t0) := hSw.2 5 _ rfl; have g6 : w.cell? ⟨bs, os + k * 10 + 6, none⟩ = some (.int .i64 x.o.t1) := hSw.2 6 _ rfl; have g7 : w.cell? ⟨bs, os + k * 10 + 7, none⟩ = some (.bool x.o.t2) := hSw.2 7 _ rfl; have g8 : w.cell? ⟨bs, os + k * 10 + 8, none⟩ = some (.slice x.o.kx x.o.kn x.o.kc) := hSw.2 8 _ rfl; have g9 : w.cell? ⟨bs, os + k * 10 + 9, none⟩ = some (.int .u8 x.o.junk) := hSw.2 9 _ rfl; clear hSw; go_simp)
            simp only [Act.put]
            refine wpAnyH_take (i := 1) (v := .slice (some ⟨bs, os, none⟩) L.length sc) rfl (by kernel_rfl) (by kernel_rfl) (by kernel_rfl) (fun _ _ _ h => h) (Or.inl ⟨by rfl, ?y39⟩) (by assumption) ?r39
            case y39 => (intro w hSw; have t0 := hSw.1.cell 0 rfl; have t1 := hSw.1.cell 1 rfl; have g0 : w.cell? ⟨bs, os + k * 10, none⟩ = some (.int .i64 x.o.K) := hSw.2 0 _ rfl; have g1 : w.cell? ⟨bs, os + k * 10 + 1, none⟩ = some (.int .i64 x.o.who) := hSw.2 1 _ rfl; have g2 : w.cell? ⟨bs, os + k * 10 + 2, none⟩ = some (.string x.o.s) := hSw.2 2 _ rfl; have g3 : w.cell? ⟨bs, os + k * 10 + 3, none⟩ = some (.slice x.o.dx x.o.dn x.o.dc) := hSw.2 3 _ rfl; have g4 : w.cell? ⟨bs, os + k * 10 + 4, none⟩ = some (.int .i64 x.o.N) := hSw.2 4 _ rfl; have g5 : w.cell? ⟨bs, os + k * 10 + 5, none⟩ = some (.int .i64 x.o.t0) := hSw.2 5 _ rfl; have g6 : w.cell? ⟨bs, os + k * 10 + 6, none⟩ = some (.int .i64 x.o.t1) := hSw.2 6 _ rfl; have g7 : w.cell? ⟨bs, os + k * 10 + 7, none⟩ = some (.bool x.o.t2) := hSw.2 7 _ rfl; have g8 : w.cell? ⟨bs, os + k * 10 + 8, none⟩ = some (.slice x.o.kx x.o.kn x.o.kc) := hSw.2 8 _ rfl; have g9 : w.cell? ⟨bs, os + k * 10 + 9, none⟩ = some (.int .u8 x.o.junk) := hSw.2 9 _ rfl; clear hSw; go_simp)
            simp only [Act.put]
            refine wpAnyH_take (i := 2) (v := .int .i64 (k : Int)) rfl (by kernel_rfl) (by kernel_rfl) (by kernel_rfl) (fun _ _ _ h => h) (Or.inl ⟨by rfl, ?y40⟩) (by assumption) ?r40
            case y40 => (intro w hSw; have t0 := hSw.1.cell 0 rfl; have t1 := hSw.1.cell 1 rfl; have g0 : w.cell? ⟨bs, os + k * 10, none⟩ = some (.int .i64 x.o.K) := hSw.2 0 _ rfl; have g1 : w.cell? ⟨bs, os + k * 10 + 1, none⟩ = some (.int .i64 x.o.who) := hSw.2 1 _ rfl; have g2 : w.cell? ⟨bs, os + k * 10 + 2, none⟩ = some (.string x.o.s) := hSw.2 2 _ rfl; have g3 : w.cell? ⟨bs, os + k * 10 + 3, none⟩ = some (.slice x.o.dx x.o.dn x.o.dc) := hSw.2 3 _ rfl; have g4 : w.cell? ⟨bs, os + k * 10 + 4, none⟩ = some (.int .i64 x.o.N) := hSw.2 4 _ rfl; have g5 : w.cell? ⟨bs, os + k * 10 + 5, none⟩ = some (.int .i64 x.o.t0) := hSw.2 5 _ rfl; have g6 : w.cell? ⟨bs, os + k * 10 + 6, none⟩ = some (.int .i64 x.o.t1) := hSw.2 6 _ rfl; have g7 : w.cell? ⟨bs, os + k * 10 + 7, none⟩ = some (.bool x.o.t2) := hSw.2 7 _ rfl; have g8 : w.cell? ⟨bs, os + k * 10 + 8, none⟩ = some (.slice x.o.kx x.o.kn x.o.kc) := hSw.2 8 _ rfl; have g9 : w.cell? ⟨bs, os + k * 10 + 9, none⟩ = some (.int .u8 x.o.junk) := hSw.2 9 _ rfl; clear hSw; go_simp)
            simp only [Act.put]
            refine wpAnyH_take (i := 3) (v := .pointer (some ⟨bs, os + k * 10, none⟩)) rfl (by kernel_rfl) (by kernel_rfl) (by kernel_rfl) (fun _ _ _ h => h) (Or.inl ⟨by rfl, ?y41⟩) (by assumption) ?r41
            case y41 => (intro w hSw; have t0 := hSw.1.cell 0 rfl; have t1 := hSw.1.cell 1 rfl; have g0 : w.cell? ⟨bs, os + k * 10, none⟩ = some (.int .i64 x.o.K) := hSw.2 0 _ rfl; have g1 : w.cell? ⟨bs, os + k * 10 + 1, none⟩ = some (.int .i64 x.o.who) := hSw.2 1 _ rfl; have g2 : w.cell? ⟨bs, os + k * 10 + 2, none⟩ = some (.string x.o.s) := hSw.2 2 _ rfl; have g3 : w.cell? ⟨bs, os + k * 10 + 3, none⟩ = some (.slice x.o.dx x.o.dn x.o.dc) := hSw.2 3 _ rfl; have g4 : w.cell? ⟨bs, os + k * 10 + 4, none⟩ = some (.int .i64 x.o.N) := hSw.2 4 _ rfl; have g5 : w.cell? ⟨bs, os + k * 10 + 5, none⟩ = some (.int .i64 x.o.t0) := hSw.2 5 _ rfl; have g6 : w.cell? ⟨bs, os + k * 10 + 6, none⟩ = some (.int .i64 x.o.t1) := hSw.2 6 _ rfl; have g7 : w.cell? ⟨bs, os + k * 10 + 7, none⟩ = some (.bool x.o.t2) := hSw.2 7 _ rfl; have g8 : w.cell? ⟨bs, os + k * 10 + 8, none⟩ = some (.slice x.o.kx x.o.kn x.o.kc) := hSw.2 8 _ rfl; have g9 : w.cell? ⟨bs, os + k * 10 + 9, none⟩ = some (.int .u8 x.o.junk) := hSw.2 9 _ rfl; clear hSw; go_simp)
            simp only [Act.put]
            refine wpAnyH_take (i := 4) (v := .agg #[.int .i64 x.o.K, .int .i64 x.o.who, .string x.o.s, .slice x.o.dx x.o.dn x.o.dc, .int .i64 x.o.N, .int .i64 x.o.t0, .int .i64 x.o.t1, .bool x.o.t2, .slice x.o.kx x.o.kn x.o.kc, .int .u8 x.o.junk]) rfl (by kernel_rfl) (by kernel_rfl) (by kernel_rfl) (fun _ _ _ h => h) (Or.inl ⟨by rfl, ?y42⟩) (by assumption) ?r42
            case y42 => (intro w hSw; have t0 := hSw.1.cell 0 rfl; have t1 := hSw.1.cell 1 rfl; have g0 : w.cell? ⟨bs, os + k * 10, none⟩ = some (.int .i64 x.o.K) := hSw.2 0 _ rfl; have g1 : w.cell? ⟨bs, os + k * 10 + 1, none⟩ = some (.int .i64 x.o.who) := hSw.2 1 _ rfl; have g2 : w.cell? ⟨bs, os + k * 10 + 2, none⟩ = some (.string x.o.s) := hSw.2 2 _ rfl; have g3 : w.cell? ⟨bs, os + k * 10 + 3, none⟩ = some (.slice x.o.dx x.o.dn x.o.dc) := hSw.2 3 _ rfl; have g4 : w.cell? ⟨bs, os + k * 10 + 4, none⟩ = some (.int .i64 x.o.N) := hSw.2 4 _ rfl; have g5 : w.cell? ⟨bs, os + k * 10 + 5, none⟩ = some (.int .i64 x.o.t0) := hSw.2 5 _ rfl; have g6 : w.cell? ⟨bs, os + k * 10 + 6, none⟩ = some (.int .i64 x.o.t1) := hSw.2 6 _ rfl; have g7 : w.cell? ⟨bs, os + k * 10 + 7, none⟩ = some (.bool x.o.t2) := hSw.2 7 _ rfl; have g8 : w.cell? ⟨bs, os + k * 10 + 8, none⟩ = some (.slice x.o.kx x.o.kn x.o.kc) := hSw.2 8 _ rfl; have g9 : w.cell? ⟨bs, os + k * 10 + 9, none⟩ = some (.int .u8 x.o.junk) := hSw.2 9 _ rfl; clear hSw; go_simp)
            simp only [Act.put]
            refine wpAnyH_ready (rs := [5]) (by kernel_rfl) (by simp) (AllReadyH.cons rfl (fun KK' hK => ?_) AllReadyH.nil)
            go_simp
            refine (HST.out).mono ?_
            rintro e w3 ⟨rfl, ⟨K2, hB3⟩, eX⟩
            have hB3 := hB3.swap
            have hA3 := HA8.out.ext (show Ext _ _ w3 from ((Ext.refl _ _).drew).same eX) HNK.out
            have hC3 := HCL.out w3 hB3.a.ext
            have HB3 := Lib.hid hB3; have HS3 := Lib.hid (And.intro hA3 hC3)
            clear hB3 hA3 hC3 eX
            go_wp2_with fail
            refine hK.out _ _ HS3.out (fun hHeld => ?_)
            clear hK KK'
            refine wpAnyH_take (i := 6) (v := .bool true) rfl (by kernel_rfl) (by kernel_rfl) (by kernel_rfl) (fun _ _ _ h => h) (Or.inl ⟨by rfl, ?y43⟩) (by assumption) ?r43
            case y43 => (intro w hSw; have t0 := hSw.1.cell 0 rfl; have t1 := hSw.1.cell 1 rfl; have g0 : w.cell? ⟨bs, os + k * 10, none⟩ = some (.int .i64 x.o.K) := hSw.2 0 _ rfl; have g1 : w.cell? ⟨bs, os + k * 10 + 1, none⟩ = some (.int .i64 x.o.who) := hSw.2 1 _ rfl; have g2 : w.cell? ⟨bs, os + k * 10 + 2, none⟩ = some (.string x.o.s) := hSw.2 2 _ rfl; have g3 : w.cell? ⟨bs, os + k * 10 + 3, none⟩ = some (.slice x.o.dx x.o.dn x.o.dc) := hSw.2 3 _ rfl; have g4 : w.cell? ⟨bs, os + k * 10 + 4, none⟩ = some (.int .i64 x.o.N) := hSw.2 4 _ rfl; have g5 : w.cell? ⟨bs, os + k * 10 + 5, none⟩ = some (.int .i64 x.o.t0) := hSw.2 5 _ rfl; have g6 : w.cell? ⟨bs, os + k * 10 + 6, none⟩ = some (.int .i64 x.o.t1) := hSw.2 6 _ rfl; have g7 : w.cell? ⟨bs, os + k * 10 + 7, none⟩ = some (.bool x.o.t2) := hSw.2 7 _ rfl; have g8 : w.cell? ⟨bs, os + k * 10 + 8, none⟩ = some (.slice x.o.kx x.o.kn x.o.kc) := hSw.2 8 _ rfl; have g9 : w.cell? ⟨bs, os + k * 10 + 9, none⟩ = some (.int .u8 x.o.junk) := hSw.2 9 _ rfl; clear hSw; go_simp)
            simp only [Act.put]
            refine wpAnyH_done (by kernel_rfl) ?_ _
            clear hHeld
            have r0 := HB3.out.a.box.cell 0 rfl
            have r1 := HB3.out.a.box.cell 1 rfl
            have r2 := HB3.out.b.box.cell 0 rfl
            have r3 := HB3.out.b.box.cell 1 rfl
            have HT1 := Lib.hid (told_m w3 _ _ _ _ HB3.out.a.pq)
            go_simp
            go_wp2_with (first
              | (have hy := mk; go_at_call 43; clear hy mk; refine (told_m w4 _ _ _ _ HB4.out.b.pq).mono ?_; rintro e w5 ⟨rfl, e5⟩; have HB5 := Lib.hid (HB4.out.ext0 e5); clear e5)
              | (go_at_call 43; refine (HT1.out).mono ?_; rintro e w4 ⟨rfl, e4⟩; have HB4 := Lib.hid (HB3.out.ext0 e4); clear r0 r1 r2 r3; have r2 := HB4.out.b.box.cell 0 rfl; have r3 := HB4.out.b.box.cell 1 rfl; clear e4; have mk : True := trivial))
            exact ⟨⟨k + 1, _, _, _, K2, by go_num, by omega, HB5.out, by omega, by omega, by have := HGR2.out.1; omega, by have := HGR2.out.2; omega⟩, by simp [intOf]; omega⟩
        · have hnot : ¬ (k : Int) < (L.length : Int) := by omega
          have HE := Lib.hid hB.a.ext
          clear hB
          go_wp2_with fail
          go_ret
          exact ⟨rfl, HE.out⟩
end Go.Proofs.Ytnppneilbkmnfaa
