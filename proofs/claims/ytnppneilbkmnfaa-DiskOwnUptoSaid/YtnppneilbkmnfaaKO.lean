/- The walk of DiskOwn: it returns true, and no older memory turns. Condition: the arguments can be read. -/
import Derived.Test.YtnppneilbkmnfaaKN
namespace Go.Proofs.Ytnppneilbkmnfaa
open Go.RowKit

theorem Os.start {W0 w : World} {d q : Nat} {D : Dk} {K : Nat → Prop} {p : Nat} (h : Play W0 w d q D K p) : Os W0 (w.alloc (.cells #[.slice none 0 0, .slice none 0 0, .slice none 0 0, .slice none 0 0, .slice none 0 0, .slice none 0 0, .int .i64 0, .int .i64 0, .int .i64 0] 96 (0, 0))) d q D K p w.heap.size (fun _ => .slice none 0 0) (fun _ => []) [] [] [] [] [] := by
  have hw := h.ext.size
  have hp := h.box.lt
  have hf : ∀ k, bkBlk (fun _ => .slice none 0 0) w.heap.size k → k = w.heap.size := by
    rintro k (hk | ⟨i, hi, hk⟩)
    · exact hk
    · simp [inFoot, foot] at hk
  refine ⟨h.ext0 ((Ext.refl _ _).alloc _), ⟨At.new w [.slice none 0 0, .slice none 0 0, .slice none 0 0, .slice none 0 0, .slice none 0 0, .slice none 0 0, .int .i64 0, .int .i64 0, .int .i64 0] 96, fun i hi => Own.nil _ _ _, fun i j k hi hj hk => by simp [inFoot, foot] at hk, fun i hi hk => by simp [inFoot, foot] at hk⟩, ⟨⟨rfl, rfl⟩, ⟨rfl, rfl⟩, rfl, rfl⟩, ⟨(fun p hp => by cases hp), (fun p hp => by cases hp), (fun p hp => by cases hp)⟩, fun k hk hb => ?_, fun k hb => ?_, .inl ⟨rfl, rfl⟩⟩
  · have := hf k hb
    have := h.pq.lt k hk
    omega
  · have := hf k hb
    exact ⟨by omega, by omega⟩
theorem Os.fits {W0 w : World} {d q : Nat} {D : Dk} {K : Nat → Prop} {p bp : Nat} {r : Nat → Value} {xs : Nat → List Value} {lb ln lf cr : List (Value × Value)} {l : List FI} (h : Os W0 w d q D K p bp r xs lb ln lf cr l) {n : Nat} (h0 : lb.length ≤ n) (h1 : ln.length ≤ n) (h2 : lf.length + cr.length ≤ n) : ∀ i, i < 6 → (xs i).length ≤ n := by
  intro i hi
  have : i = 0 ∨ i = 1 ∨ i = 2 ∨ i = 3 ∨ i = 4 ∨ i = 5 := by omega
  rcases this with rfl | rfl | rfl | rfl | rfl | rfl
  · rw [h.h6.b.1, List.length_map]; exact h0
  · rw [h.h6.b.2, List.length_map]; exact h0
  · rw [h.h6.n.1, List.length_map]; exact h1
  · rw [h.h6.n.2, List.length_map]; exact h1
  · rw [h.h6.f.1, List.length_map, List.length_append]; exact h2
  · rw [h.h6.f.2, List.length_map, List.length_append]; exact h2
theorem Os.crn {W0 w : World} {d q : Nat} {D : Dk} {K : Nat → Prop} {p bp : Nat} {r : Nat → Value} {xs : Nat → List Value} {lb ln lf cr : List (Value × Value)} {l : List FI} (h : Os W0 w d q D K p bp r xs lb ln lf cr l) : cr.length ≤ 1 ∧ l.length ≤ 65536 := by
  rcases h.co with ⟨h1, h2⟩ | ⟨va, vb, l2, h1, -, -, -, -, -, h7, -⟩
  · rw [h1, h2]
    exact ⟨by simp, by simp⟩
  · rw [h1]
    exact ⟨by simp, h7⟩
theorem told_small {D : Dk} (hw : D.Wf) {l : List FI} {keep : List Int} {junk : UInt8} (h : l.map FI.pair = D.told keep junk) : l.length ≤ 65536 ∧ ∀ x ∈ l, x.b.length ≤ 1073741824 := by
  unfold Dk.told at h
  split at h
  · obtain rfl := List.map_eq_nil_iff.1 h
    exact ⟨by simp, by simp⟩
  · unfold Dk.image at h
    have hlen : l.length = D.fs.length := by have := congrArg List.length h; simpa using this
    refine ⟨by have := hw.count; omega, fun x hx => ?_⟩
    obtain ⟨i, hi, rfl⟩ := List.mem_iff_getElem.1 hx
    have h1 : (l.map FI.pair)[i]? = some (FI.pair l[i]) := by rw [List.getElem?_map, List.getElem?_eq_getElem hi]; rfl
    rw [h, List.getElem?_mapIdx] at h1
    cases hf : D.fs[i]? with
    | none => rw [hf] at h1; simp at h1
    | some f =>
      rw [hf] at h1
      simp only [Option.map_some, Option.some.injEq] at h1
      have h2 : l[i].b = Dk.left f (Dk.kept keep i f) junk := (congrArg Prod.snd h1).symm
      have hm := List.mem_of_getElem? hf
      have h3 := sumF_mem hm
      have h4 := hw.used
      have h5 := hw.lim1
      have h6 := hw.synced f hm
      have h7 : Dk.kept keep i f ≤ f.b.length - f.sy := by
        unfold Dk.kept
        split
        · exact Nat.min_le_right ..
        · omega
      rw [h2]
      unfold Dk.left
      split
      · rw [List.length_take]; omega
      · rw [List.length_append, List.length_take, List.length_singleton]; omega
theorem crash_same (D : Dk) : D.crash.1.calls = D.calls ∧ D.crash.1.arms = D.arms := by
  unfold Dk.crash
  split <;> exact ⟨rfl, rfl⟩
theorem crash_p {w : World} {d q : Nat} {D E : Dk} {K : Nat → Prop} (h : PQ w d q D E K) {o : OpD} {B : List UInt8} {ks : List Int} (ho : OpOk w o B ks) (hK : ∀ k, inFoot (.slice o.kx o.kn o.kc) k → ¬ K k) :
    Calls Try.prog 23 #[.pointer (some ⟨d, 0, none⟩), .slice o.kx o.kn o.kc, .int .u8 o.junk] w (PCrashed w d q K D.crash.1 E (D.told ks (UInt8.ofNat o.junk.toNat)) D.crash.2) := by
  have hj : o.junk = ((UInt8.ofNat o.junk.toNat).toNat : Int) := by have := ho.junk; simp [UInt8.toNat_ofNat']; omega
  have := pq_crash h (.slice o.kx o.kn o.kc) ks ho.keep hK (UInt8.ofNat o.junk.toNat)
  rw [← hj] at this
  exact this
theorem crash_q {w : World} {d q : Nat} {D E : Dk} {K : Nat → Prop} (h : PQ w d q D E K) {o : OpD} {B : List UInt8} {ks : List Int} (ho : OpOk w o B ks) (hK : ∀ k, inFoot (.slice o.kx o.kn o.kc) k → ¬ K k) :
    Calls Try.prog 44 #[.pointer (some ⟨q, 0, none⟩), .slice o.kx o.kn o.kc, .int .u8 o.junk] w (PCrashed w d q K D E.crash.1 (E.told ks (UInt8.ofNat o.junk.toNat)) E.crash.2) := by
  have hj : o.junk = ((UInt8.ofNat o.junk.toNat).toNat : Int) := by have := ho.junk; simp [UInt8.toNat_ofNat']; omega
  have := qq_crash h (.slice o.kx o.kn o.kc) ks ho.keep hK (UInt8.ofNat o.junk.toNat)
  rw [← hj] at this
  exact this
theorem Os.old {W0 w w' : World} {d q : Nat} {D : Dk} {K : Nat → Prop} {p bp : Nat} {r : Nat → Value} {xs : Nat → List Value} {lb ln lf cr : List (Value × Value)} {l : List FI} (h : Os W0 w d q D K p bp r xs lb ln lf cr l) (e : Ext K w w') : Ext Nil W0 w' :=
  h.play.ext.trans e fun i hi hk => by have := (h.play.new i hk).1; omega
/-- what both crashes left lies in two boxes -/
theorem Os.boxed {W0 w : World} {d q : Nat} {D : Dk} {K : Nat → Prop} {p bp : Nat} {r : Nat → Value} {xs : Nat → List Value} {lb ln lf cr : List (Value × Value)} {l : List FI} (h : Os W0 w d q D K p bp r xs lb ln lf cr l) {w5 w6 w7 : World} {v1 v2 : Value} {l1 l2 : List FI} {keep : List Int} {junk : UInt8}
    (c1 : l1.map FI.pair = D.told keep junk) (c2 : ImgO w5 v1 l1) (c3 : ∀ k ∈ ibl v1 l1, w.heap.size ≤ k) (c5 : Ext K w w5) (h6 : w6 = w5.alloc (.cells #[v1] 36 (0, 0)))
    (d1 : l2.map FI.pair = D.told keep junk) (d2 : ImgO w7 v2 l2) (d3 : ∀ k ∈ ibl v2 l2, w6.heap.size ≤ k) (d4 : PQ w7 d q D.crash.1 D.crash.1 K) (d5 : Ext K w6 w7) {w8 : World} (h8 : w8 = w7.alloc (.cells #[v2] 36 (0, 0))) :
    (PQ w8 d q D.crash.1 D.crash.1 K ∧ Ext K w w8 ∧ ImgO w8 v1 l1 ∧ ImgV w8 v2 l2 ∧ l1.map FI.pair = l2.map FI.pair ∧ (∀ k ∈ ibl v1 l1, w.heap.size ≤ k) ∧ (∀ k ∈ ibl v2 l2, w.heap.size ≤ k ∧ k < w8.heap.size) ∧ (l1.length ≤ 65536 ∧ ∀ x ∈ l1, x.b.length ≤ 1073741824)) ∧
      w8.cell? ⟨w5.heap.size, 0, none⟩ = some v1 ∧ w8.cell? ⟨w7.heap.size, 0, none⟩ = some v2 ∧ w.heap.size ≤ w5.heap.size ∧ w.heap.size ≤ w7.heap.size := by
  have hKl := h.play.pq.lt
  have hwf := h.play.pq.wf.1
  have e56 : Ext Nil w5 w6 := by rw [h6]; exact (Ext.refl _ _).alloc _
  have e78 : Ext Nil w7 w8 := by rw [h8]; exact (Ext.refl _ _).alloc _
  have s5 := c5.size
  have s6 := e56.size
  have s7 := d5.size
  have s8 := e78.size
  have a1 : At w6 w5.heap.size 36 [v1] := by rw [h6]; exact At.new w5 [v1] 36
  have a2 : At w8 w7.heap.size 36 [v2] := by rw [h8]; exact At.new w7 [v2] 36
  have nK : ∀ k, w.heap.size ≤ k → ¬ K k := fun k hk hK => by have := hKl k hK; omega
  have e6 : Ext K w w6 := c5.trans e56 fun _ _ h => h.elim
  have e7 : Ext K w w7 := e6.same d5
  have o2 := (d2.ext e78 fun _ _ h => h)
  refine ⟨⟨d4.ext0 e78, e7.trans e78 fun _ _ h => h.elim, ((c2.ext e56 fun _ _ h => h).ext d5 fun k hk => nK k (c3 k hk)).ext e78 fun _ _ h => h, o2.see, by rw [c1, d1], c3, fun k hk => ⟨by have := d3 k hk; omega, o2.lt k hk⟩, told_small hwf c1⟩, ((a1.ext d5 (nK _ s5)).ext e78 fun h => h).cell 0 rfl, a2.cell 0 rfl, s5, by omega⟩
set_option maxRecDepth 20000 in
set_option maxHeartbeats 4000000 in
theorem own_any (w : World) (lim : Int) (m : Bool) (v : Value) (l : List FI) (hI : ImgR w v l) (hfew : l.length ≤ 1048576) (hbyt : ∀ x ∈ l, x.b.length ≤ 1073741824) (sv : Value) (L : List OpI) (hS : ScrR w sv L) (other : ByteArray) (ho : other.size ≤ maxLen) :
    Calls Try.prog 14 #[.agg #[.int .i64 lim, .bool m, v], sv, .string other] w fun e w' => e = .returned (.bool true) ∧ Ext Nil w w' := by
  obtain ⟨ao, cap, rfl, -, -⟩ := hI.see.shape
  obtain ⟨sa, sc, rfl, hs1, hs2⟩ := hS.shape
  have hLfew := hS.few
  have eW : Ext Nil w (w.alloc (.cells #[.int .i64 lim, .bool m, .slice ao l.length cap] 44 (0, 0))) := (Ext.refl _ _).alloc _
  have a1 := At.new w [.int .i64 lim, .bool m, .slice ao l.length cap] 44
  have b0 := a1.cell 0 rfl
  have b1 := a1.cell 1 rfl
  have b2 := a1.cell 2 rfl
  have HIW := Lib.hid (hI.ext eW fun _ _ h => h); have HY := Lib.hid hbyt
  have HS := Lib.hid hS; have EW := Lib.hid eW; have HDC := Lib.hid (fun D (h : openD lim m l = some D) => openD_calm h)
  have HCS : Hid (openD lim m l = none ∨ ∃ D, openD lim m l = some D) := Lib.hid (by cases openD lim m l with | none => exact .inl rfl | some D => exact .inr ⟨D, rfl⟩)
  clear hI hS a1 eW hbyt
  unfold maxLen at hs2
  have HO := Lib.hid ho
  clear ho
  rcases HCS.out with hr | ⟨D0, hr⟩
  · have HR := Lib.hid hr
    clear hr
    go_enter Try.func14, Try.ntmps14
    go_wp2_with (go_at_call 38; refine (made_no _ lim m _ l HIW.out hfew HY.out HR.out).mono ?_; rintro e w1 ⟨rfl, e1⟩)
    go_ret
    exact ⟨rfl, (EW.out.same e1).alloc _⟩
  · have HR := Lib.hid hr
    clear hr
    have HC := Lib.hid (HDC.out D0 HR.out)
    go_enter Try.func14, Try.ntmps14
    go_wp2_with (go_at_call 38; refine (made_yes _ lim m _ l HIW.out hfew HY.out HR.out).mono ?_; rintro e w1 ⟨d, q, K0, rfl, hP, hK, e1⟩; have HPL := Lib.hid (Os.start (Play.start (W := w) hP (fun k hk => by have := hK k hk; simp at this; omega) (EW.out.same e1))); clear hP hK e1 b0 b1 b2)
    rw [show (w1.alloc (.cells #[.pointer (some ⟨d, 0, none⟩), .pointer (some ⟨q, 0, none⟩)] 82 (0, 0))).heap.size = w1.heap.size + 1 by simp] at HPL
    generalize hBP : w1.heap.size + 1 = bp at *
    generalize w1.heap.size = p at *
    generalize hWN : (w1.alloc (.cells #[.pointer (some ⟨d, 0, none⟩), .pointer (some ⟨q, 0, none⟩)] 82 (0, 0))).alloc (.cells #[.slice none 0 0, .slice none 0 0, .slice none 0 0, .slice none 0 0, .slice none 0 0, .slice none 0 0, .int .i64 0, .int .i64 0, .int .i64 0] 96 (0, 0)) = wn at *
    clear hWN hBP
    go_loopw [10] (fun i wr => ∃ (k : Nat) (D : Dk) (K : Nat → Prop) (r : Nat → Value) (xs : Nat → List Value) (lb ln lf : List (Value × Value)), i = .int .i64 (k : Int) ∧ k ≤ L.length ∧ Os w wr d q D K p bp r xs lb ln lf [] [] ∧ D.calls ≤ k ∧ D.arms.length ≤ k ∧ lb.length ≤ 65539 * k ∧ ln.length ≤ 3 * k ∧ lf.length ≤ k) (fun i _ => L.length - (intOf i).toNat)
    case atStart => exact ⟨0, D0, K0, _, _, [], [], [], rfl, Nat.zero_le _, HPL.out, by rw [HC.out.2.2.1]; exact Nat.le_refl _, by rw [HC.out.2.2.2]; exact Nat.le_refl _, by simp, by simp, by simp⟩
    case round =>
      obtain ⟨k, D, K, r, xs, lb, ln, lf, rfl, hk, hP, hc, ha, hlb, hln, hlf⟩ := hrel
      by_cases hlt : k < L.length
      · obtain ⟨x, hx⟩ : ∃ x, L[k]? = some x := ⟨_, List.getElem?_eq_getElem hlt⟩
        have hxm := List.mem_of_getElem? hx
        obtain ⟨bs, os, rfl, hbl, q0, q1, q2, q3, q4, q5, q6, q7, q8, q9⟩ := (HS.out.ext0 hP.play.ext).cells hx
        have eB : Ext Nil wr (wr.alloc (.cells #[.int .i64 x.o.K, .int .i64 x.o.who, .string x.o.s, .slice x.o.dx x.o.dn x.o.dc, .int .i64 x.o.N, .int .i64 x.o.t0, .int .i64 x.o.t1, .bool x.o.t2, .slice x.o.kx x.o.kn x.o.kc, .int .u8 x.o.junk] 47 (0, 0))) := (Ext.refl _ _).alloc _
        have hP2 := hP.ext0 eB
        have r0 := hP2.play.box.cell 0 rfl
        have r1 := hP2.play.box.cell 1 rfl
        have aB := At.new wr [.int .i64 x.o.K, .int .i64 x.o.who, .string x.o.s, .slice x.o.dx x.o.dn x.o.dc, .int .i64 x.o.N, .int .i64 x.o.t0, .int .i64 x.o.t1, .bool x.o.t2, .slice x.o.kx x.o.kn x.o.kc, .int .u8 x.o.junk] 47
        have hok := HS.out.ok x hxm
        have hsm := HS.out.small x hxm
        have hdK : ∀ k, inFoot (.slice x.o.dx x.o.dn x.o.dc) k → ¬ K k := fun k hk hK => by have := hok.dlt k hk; have := (hP.play.new k hK).1; omega
        have hkK : ∀ k, inFoot (.slice x.o.kx x.o.kn x.o.kc) k → ¬ K k := fun k hk hK => by have := hok.klt k hk; have := (hP.play.new k hK).1; omega
        have hgr := steps_grows D x.o x.B
        have HGR := Lib.hid hgr; have HP2 := Lib.hid hP2; have HAB := Lib.hid aB; have HOK := Lib.hid hok; have HSM := Lib.hid hsm; have HDK := Lib.hid hdK; have HKK := Lib.hid hkK; have HKLT := Lib.hid hP.play.pq.lt; have HBLT := Lib.hid hP.bk.lt
        have HNUM := Lib.hid (And.intro hc (And.intro ha (And.intro hlb (And.intro hln hlf))))
        clear hgr hP hP2 hxm hx eB aB hok hsm hdK hkK hc ha hlb hln hlf
        by_cases hcr : x.o.K = 12
        · have hkb : (x.o.K == 12) = true := by simp [hcr]
          clear hcr
          have HPC := Lib.hid (crash_p HP2.out.play.pq (HOK.out.ext0 HP2.out.play.ext) HKK.out)
          have HKB := Lib.hid (show ¬ K wr.heap.size from fun hK => by have := HKLT.out _ hK; omega); have HKP := Lib.hid (fun hK : K p => (HP2.out.play.new p hK).2 rfl)
          go_wp2_with (go_at_call 23; refine (HPC.out).mono ?_; rintro e w5 ⟨v1, l1, rfl, c1, c2, c3, c4, c5⟩; obtain ⟨va1, vc1, rfl, -, -⟩ := c2.see.shape; have hbx := box_late c4 c2 c5; have hAB6 := HAB.out.ext hbx.2.2.2.1 HKB.out; have o8 := hAB6.cell 8 rfl; have o9 := hAB6.cell 9 rfl; have p1 := (HP2.out.play.box.ext hbx.2.2.2.1 HKP.out).cell 1 rfl; have HC1 := Lib.hid c1; have HC2 := Lib.hid c2; have HC3 := Lib.hid c3; have HC5 := Lib.hid c5; have HP6 := Lib.hid hbx.2.2.1; have HE6 := Lib.hid hbx.2.2.2.1; clear hbx hAB6 c1 c2 c3 c4 c5 q0 q1 q2 q3 q4 q5 q6 q7 q8 q9 r0 r1)
          have hcc : (D.crash.2 != D.crash.2) = false := by simp
          generalize hW6 : w5.alloc (.cells #[.slice va1 l1.length vc1] 36 (0, 0)) = w6 at *
          have HW6 := Lib.hid hW6
          have HQC := Lib.hid (crash_q HP6.out (HOK.out.ext0 (HP2.out.old HE6.out)) HKK.out)
          clear hW6
          go_wp2_with (first
            | (go_at_call 44; refine (HQC.out).mono ?_; rintro e w7 ⟨v2, l2, rfl, d1, d2, d3, d4, d5⟩; obtain ⟨va2, vc2, rfl, -, -⟩ := d2.see.shape; have HB := Lib.hid (fun (w8 : World) h8 => HP2.out.boxed HC1.out HC2.out HC3.out HC5.out HW6.out.symm d1 d2 d3 d4 d5 (w8 := w8) h8); clear d1 d2 d3 d4 d5 o8 o9 p1)
            | (go_at_call 18; refine (num_any _ _).mono ?_; rintro e w' ⟨rfl, rfl⟩))
          obtain ⟨hb8, hS1, hS2, hs5, hs7⟩ := HB.out _ rfl
          clear HB HQC HPC HC1 HC2 HC3 HC5 HP6 HE6 HW6 hcc
          generalize w7.alloc (.cells #[.slice va2 l2.length vc2] 36 (0, 0)) = w8 at *
          generalize w5.heap.size = i1 at *
          generalize w7.heap.size = i2 at *
          obtain ⟨hP8, hE8, hO8, hV8, hpr, f1, f2, hsm⟩ := hb8
          obtain ⟨ao4, cp4, hr4, -, -, -, -⟩ := HP2.out.bk.row (i := 4) (by omega)
          obtain ⟨ao5, cp5, hr5, -, -, -, -⟩ := HP2.out.bk.row (i := 5) (by omega)
          have z4 := (HP2.out.bk.ext hE8 fun k hk hK => HP2.out.kb k hK hk).cells.cell 4 (bk_at _ _ _ _ (show 4 < 6 by omega))
          rw [hr4] at z4
          have hfx := HP2.out.fits (n := 1099511627770) (by have := HNUM.out.2.2.1; omega) (by have := HNUM.out.2.2.2.1; omega) (by have := HNUM.out.2.2.2.2; simp only [List.length_nil]; omega)
          have HS5 := Lib.hid hs5; have HS7 := Lib.hid hs7; have HS2 := Lib.hid hS2; have HE8 := Lib.hid hE8; have HSM := Lib.hid hsm
          obtain ⟨ao, cap, w9, hrun, z0, f0, eA, hN⟩ := HP2.out.crash hP8 hE8 hO8 hV8 hpr f1 f2 hsm (by have := hfx 4 (by omega); omega) (by have := hfx 5 (by omega); omega) ((Ext.refl Nil w8).drew) 94
          rw [hr4] at hrun z0
          have HN := Lib.hid hN; have HR5 := Lib.hid hr5; have HZ0 := Lib.hid z0; have HF0 := Lib.hid f0
          have HSS := Lib.hid (fun (X : World) (e : Ext (inFoot (r 4)) w8 X) => (e.cell hS1 (fun hk => by have := HBLT.out i1 (.inr ⟨4, by omega, hk⟩); have := HS5.out; simp at this; omega) : X.cell? ⟨i1, 0, none⟩ = some (.slice va1 l1.length vc1)))
          have HEA := Lib.hid (show Ext (inFoot (r 4)) w8 w9 from ((Ext.refl _ w8).drew).same eA)
          have HM := Lib.hid (show (⟨bp, 4, none⟩ : Addr) ≠ ⟨i1, 0, none⟩ from by simp)
          replace HGR := Lib.hid (show D.crash.1.calls ≤ D.calls + 1 ∧ D.crash.1.arms.length ≤ D.arms.length + 1 from by rw [(crash_same D).1, (crash_same D).2]; omega)
          clear hP8 hE8 hO8 hV8 hpr f1 f2 hsm hs5 hs7 hS2 hS1 hN hr4 hr5 z0 f0 eA hfx hkb
          refine wp_region_held_drew (S := fun w' => w'.cell? ⟨i1, 0, none⟩ = some (.slice va1 l1.length vc1)) (by kernel_rfl) (HSS.out _ ((Ext.refl _ w8).drew)) (fun hHeld => ?_)
          refine wpAnyH_take (i := 0) (v := .pointer (some ⟨bp, 0, none⟩)) rfl (by kernel_rfl) (by kernel_rfl) (by kernel_rfl) (fun _ _ _ h => h) (Or.inl ⟨by kernel_rfl, ?y2⟩) (by assumption) ?r2
          case y2 => (intro w hSw; go_simp)
          simp only [Act.put]
          refine wpAnyH_take (i := 1) (v := .pointer (some ⟨bp, 0, none⟩)) rfl (by kernel_rfl) (by kernel_rfl) (by kernel_rfl) (fun _ _ _ h => h) (Or.inl ⟨by kernel_rfl, ?y3⟩) (by assumption) ?r3
          case y3 => (intro w hSw; go_simp)
          simp only [Act.put]
          refine wpAnyH_take (i := 2) (v := .pointer (some ⟨bp, 0, none⟩)) rfl (by kernel_rfl) (by kernel_rfl) (by kernel_rfl) (fun _ _ _ h => h) (Or.inl ⟨by kernel_rfl, ?y4⟩) (by assumption) ?r4
          case y4 => (intro w hSw; go_simp)
          simp only [Act.put]
          refine wpAnyH_take (i := 3) (v := .pointer (some ⟨bp, 4, none⟩)) rfl (by kernel_rfl) (by kernel_rfl) (by kernel_rfl) (fun _ _ _ h => h) (Or.inl ⟨by kernel_rfl, ?y5⟩) (by assumption) ?r5
          case y5 => (intro w hSw; go_simp)
          simp only [Act.put]
          refine wpAnyH_take (i := 5) (v := .pointer (some ⟨i1, 0, none⟩)) rfl (by kernel_rfl) (by kernel_rfl) (by kernel_rfl) (fun _ _ _ h => h) (Or.inl ⟨by kernel_rfl, ?y6⟩) (by assumption) ?r6
          case y6 => (intro w hSw; go_simp)
          simp only [Act.put]
          refine wpAnyH_take (i := 6) (v := .slice va1 l1.length vc1) rfl (by kernel_rfl) (by kernel_rfl) (by kernel_rfl) (fun _ _ _ h => h) (Or.inl ⟨by kernel_rfl, ?y7⟩) (by assumption) ?r7
          case y7 => (intro w hSw; go_simp)
          simp only [Act.put]
          refine wpAnyH_ready (rs := [4, 7]) (by kernel_rfl) (by simp) (AllReadyH.cons rfl (fun K hK => ?oa1) (AllReadyH.cons rfl (fun K hK => ?ob1) AllReadyH.nil))
          case oa1 =>
            go_simp
            refine hK.out _ _ (HSS.out _ ((Ext.refl _ w8).drew)) (fun hHeld => ?_)
            clear hK K
            refine wpAnyH_ready (rs := [7]) (by kernel_rfl) (by simp) (AllReadyH.cons rfl (fun K hK => ?_) AllReadyH.nil)
            go_simp
            refine hK.out _ _ (HSS.out _ (((Ext.refl _ w8).drew).alloc _)) (fun hHeld => ?_)
            clear hK K
            refine wpAnyH_ready (rs := [8]) (by kernel_rfl) (by simp) (AllReadyH.cons rfl (fun K hK => ?_) AllReadyH.nil)
            refine step_append_run rfl _ _ _ _ rfl _ _ _ rfl rfl hrun ?_
            refine hK.out _ _ (HSS.out _ HEA.out) (fun hHeld => ?_)
            clear hK K
            simp only [Act.put]
            refine wpAnyH_take (i := 9) (v := .pointer (some ⟨bp, 0, none⟩)) rfl (by kernel_rfl) (by kernel_rfl) (by kernel_rfl) (fun _ _ _ h => h) (Or.inl ⟨by kernel_rfl, ?y8⟩) (by assumption) ?r8
            case y8 => (intro w hSw; go_simp)
            simp only [Act.put]
            refine wpAnyH_take (i := 10) (v := .pointer (some ⟨bp, 4, none⟩)) rfl (by kernel_rfl) (by kernel_rfl) (by kernel_rfl) (fun _ _ _ h => h) (Or.inl ⟨by kernel_rfl, ?y9⟩) (by assumption) ?r9
            case y9 => (intro w hSw; go_simp)
            simp only [Act.put]
            have z0 := HZ0.out; have f0 := HF0.out
            refine wpAnyH_ready (rs := [11]) (by kernel_rfl) (by simp) (AllReadyH.cons rfl (fun K hK => ?_) AllReadyH.nil)
            go_simp
            refine hK.out _ _ ((World.cell?_setCell_other _ _ _ _ HM.out).trans (HSS.out _ HEA.out)) (fun hHeld => ?_)
            clear hK K
            clear z0 f0
            refine wpAnyH_done (by kernel_rfl) ?_ _
            clear hHeld
            obtain ⟨eY, z1, hN2⟩ := HN.out _ rfl
            obtain ⟨ao', cap', wb, hrun2, z5, f5, eB, r2, xs2, hfin⟩ := hN2 _ ((Ext.refl Nil _).drew) 94
            rw [HR5.out] at z1 hrun2 z5
            have HEY := Lib.hid (((Ext.refl (bkBlk r bp) w8).drew).same (eY.mono fun k _ hk => hk.elim .inl fun h9 => .inr ⟨4, by omega, h9⟩))
            clear hrun z4 HZ0 HF0 HSS HM HEA hN2 eY HN HR5
            generalize w9.setCell ⟨bp, 4, none⟩ (.slice ao ((xs 4).length + 1) cap) = wa at *
            have hS2 := HEY.out.cell HS2.out (fun hk => by have := HBLT.out i2 hk; have := HS7.out; simp at this; omega)
            have HSS := Lib.hid (fun (X : World) (e : Ext (inFoot (r 5)) wa X) => (e.cell hS2 (fun hk => by have := HBLT.out i2 (.inr ⟨5, by omega, hk⟩); have := HS7.out; simp at this; omega) : X.cell? ⟨i2, 0, none⟩ = some (.slice va2 l2.length vc2)))
            have HEA := Lib.hid (show Ext (inFoot (r 5)) wa wb from ((Ext.refl _ wa).drew).same eB)
            have HM := Lib.hid (show (⟨bp, 5, none⟩ : Addr) ≠ ⟨i2, 0, none⟩ from by simp)
            have HZ0 := Lib.hid z5; have HF0 := Lib.hid f5; have HF := Lib.hid hfin; have hrun := hrun2
            clear z5 f5 hfin hrun2 eB hS2
            have z5 := z1
            clear z1
            go_wp2_with fail
            refine wp_region_held_drew (S := fun w' => w'.cell? ⟨i2, 0, none⟩ = some (.slice va2 l2.length vc2)) (by kernel_rfl) (HSS.out _ ((Ext.refl _ wa).drew)) (fun hHeld => ?_)
            refine wpAnyH_take (i := 0) (v := .pointer (some ⟨bp, 0, none⟩)) rfl (by kernel_rfl) (by kernel_rfl) (by kernel_rfl) (fun _ _ _ h => h) (Or.inl ⟨by kernel_rfl, ?y11⟩) (by assumption) ?r11
            case y11 => (intro w hSw; go_simp)
            simp only [Act.put]
            refine wpAnyH_take (i := 1) (v := .pointer (some ⟨bp, 0, none⟩)) rfl (by kernel_rfl) (by kernel_rfl) (by kernel_rfl) (fun _ _ _ h => h) (Or.inl ⟨by kernel_rfl, ?y12⟩) (by assumption) ?r12
            case y12 => (intro w hSw; go_simp)
            simp only [Act.put]
            refine wpAnyH_take (i := 2) (v := .pointer (some ⟨bp, 0, none⟩)) rfl (by kernel_rfl) (by kernel_rfl) (by kernel_rfl) (fun _ _ _ h => h) (Or.inl ⟨by kernel_rfl, ?y13⟩) (by assumption) ?r13
            case y13 => (intro w hSw; go_simp)
            simp only [Act.put]
            refine wpAnyH_take (i := 3) (v := .pointer (some ⟨bp, 5, none⟩)) rfl (by kernel_rfl) (by kernel_rfl) (by kernel_rfl) (fun _ _ _ h => h) (Or.inl ⟨by kernel_rfl, ?y14⟩) (by assumption) ?r14
            case y14 => (intro w hSw; go_simp)
            simp only [Act.put]
            refine wpAnyH_take (i := 5) (v := .pointer (some ⟨i2, 0, none⟩)) rfl (by kernel_rfl) (by kernel_rfl) (by kernel_rfl) (fun _ _ _ h => h) (Or.inl ⟨by kernel_rfl, ?y15⟩) (by assumption) ?r15
            case y15 => (intro w hSw; go_simp)
            simp only [Act.put]
            refine wpAnyH_take (i := 6) (v := .slice va2 l2.length vc2) rfl (by kernel_rfl) (by kernel_rfl) (by kernel_rfl) (fun _ _ _ h => h) (Or.inl ⟨by kernel_rfl, ?y16⟩) (by assumption) ?r16
            case y16 => (intro w hSw; go_simp)
            simp only [Act.put]
            refine wpAnyH_ready (rs := [4, 7]) (by kernel_rfl) (by simp) (AllReadyH.cons rfl (fun K hK => ?oa10) (AllReadyH.cons rfl (fun K hK => ?ob10) AllReadyH.nil))
            case oa10 =>
              go_simp
              refine hK.out _ _ (HSS.out _ ((Ext.refl _ wa).drew)) (fun hHeld => ?_)
              clear hK K
              refine wpAnyH_ready (rs := [7]) (by kernel_rfl) (by simp) (AllReadyH.cons rfl (fun K hK => ?_) AllReadyH.nil)
              go_simp
              refine hK.out _ _ (HSS.out _ (((Ext.refl _ wa).drew).alloc _)) (fun hHeld => ?_)
              clear hK K
              refine wpAnyH_ready (rs := [8]) (by kernel_rfl) (by simp) (AllReadyH.cons rfl (fun K hK => ?_) AllReadyH.nil)
              refine step_append_run rfl _ _ _ _ rfl _ _ _ rfl rfl hrun ?_
              refine hK.out _ _ (HSS.out _ HEA.out) (fun hHeld => ?_)
              clear hK K
              simp only [Act.put]
              refine wpAnyH_take (i := 9) (v := .pointer (some ⟨bp, 0, none⟩)) rfl (by kernel_rfl) (by kernel_rfl) (by kernel_rfl) (fun _ _ _ h => h) (Or.inl ⟨by kernel_rfl, ?y17⟩) (by assumption) ?r17
              case y17 => (intro w hSw; go_simp)
              simp only [Act.put]
              refine wpAnyH_take (i := 10) (v := .pointer (some ⟨bp, 5, none⟩)) rfl (by kernel_rfl) (by kernel_rfl) (by kernel_rfl) (fun _ _ _ h => h) (Or.inl ⟨by kernel_rfl, ?y18⟩) (by assumption) ?r18
              case y18 => (intro w hSw; go_simp)
              simp only [Act.put]
              have z0 := HZ0.out; have f0 := HF0.out
              refine wpAnyH_ready (rs := [11]) (by kernel_rfl) (by simp) (AllReadyH.cons rfl (fun K hK => ?_) AllReadyH.nil)
              go_simp
              refine hK.out _ _ ((World.cell?_setCell_other _ _ _ _ HM.out).trans (HSS.out _ HEA.out)) (fun hHeld => ?_)
              clear hK K
              clear z0 f0
              refine wpAnyH_done (by kernel_rfl) ?_ _
              clear hHeld
              have hEF := (HEY.out.same (HEA.out.mono fun k _ hk => .inr ⟨5, by omega, hk⟩)).setCell (p := ⟨bp, 5, none⟩) (fun _ => .inl rfl) (.slice ao' ((xs 5).length + 1) cap')
              have hAB := (HAB.out.ext HE8.out HKB.out).ext hEF (fun hk => by have := HBLT.out _ hk; omega)
              clear hEF hrun z5 HZ0 HF0 HSS HM HEA HEY
              generalize wb.setCell ⟨bp, 5, none⟩ (.slice ao' ((xs 5).length + 1) cap') = wx at *
              have HX := HF
              have u0 := HX.out.play.box.cell 0 rfl; have u1 := HX.out.play.box.cell 1 rfl
              have o0 := hAB.cell 0 rfl; have o1 := hAB.cell 1 rfl; have o2 := hAB.cell 2 rfl; have o3 := hAB.cell 3 rfl; have o4 := hAB.cell 4 rfl; have o5 := hAB.cell 5 rfl; have o6 := hAB.cell 6 rfl; have o7 := hAB.cell 7 rfl; have o8 := hAB.cell 8 rfl; have o9 := hAB.cell 9 rfl
              have HFT := Lib.hid (HX.out.fits (n := 1099511627770) (by have := HNUM.out.2.2.1; omega) (by have := HNUM.out.2.2.2.1; omega) (by have := HNUM.out.2.2.2.2; have := HX.out.crn.1; omega))
              have HCN := Lib.hid HX.out.crn
              have HBG := Lib.hid (show lb.length + 3 + l1.length ≤ 1099511627776 ∧ ln.length + 3 ≤ 1099511627776 ∧ lf.length + 1 ≤ 1099511627776 from ⟨by have := HNUM.out.2.2.1; have := HSM.out.1; omega, by have := HNUM.out.2.2.2.1; omega, by have := HNUM.out.2.2.2.2; omega⟩)
              clear hAB HF
              go_wp2_with (first
                | (go_at_call 45; refine (HX.out.look x.o other HOK.out.name HO.out HFT.out).mono ?_; rintro e w7 ⟨rfl, r7, xs7, its7, h7⟩; have H7 := Lib.hid h7; clear h7 u0 u1 o0 o1 o2 o3 o4 o5 o6 o7 o8 o9)
                | (go_at_call 46; refine (H7.out.right).mono ?_; rintro e w8 ⟨rfl, h8⟩; have H8 := Lib.hid h8; clear h8)
                | (go_at_call 47; refine (H8.out.mark HBG.out).mono ?_; rintro e w9 ⟨rfl, r9, xs9, lb9, ln9, lf9, h9, g1, g2, g3⟩; have H9 := Lib.hid h9; have HG := Lib.hid (And.intro g1 (And.intro g2 g3)); clear h9 g1 g2 g3)
                | (go_at_call 48; refine (H9.out.kept).mono ?_; rintro e wa ⟨rfl, ha⟩; have HA := Lib.hid ha; clear ha))
              have hnum := HNUM.out
              have hg := HG.out; have hcn := HCN.out
              exact ⟨⟨k + 1, _, K, r9, xs9, lb9, ln9, lf9, by go_num, by omega, HA.out, by have := HGR.out.1; omega, by have := HGR.out.2; omega, by omega, by omega, by omega⟩, by simp [intOf]; omega⟩
            case ob10 =>
              go_simp
              refine hK.out _ _ (HSS.out _ (((Ext.refl _ wa).drew).alloc _)) (fun hHeld => ?_)
              clear hK K
              refine wpAnyH_ready (rs := [4]) (by kernel_rfl) (by simp) (AllReadyH.cons rfl (fun K hK => ?_) AllReadyH.nil)
              have q0 := ((Ext.refl Nil wa).alloc (.cells #[.slice va2 l2.length vc2] 34 (0, 0))).cell z5 (fun h => h)
              go_simp
              clear q0
              refine hK.out _ _ (HSS.out _ (((Ext.refl _ wa).drew).alloc _)) (fun hHeld => ?_)
              clear hK K
              refine wpAnyH_ready (rs := [8]) (by kernel_rfl) (by simp) (AllReadyH.cons rfl (fun K hK => ?_) AllReadyH.nil)
              refine step_append_run rfl _ _ _ _ rfl _ _ _ rfl rfl hrun ?_
              refine hK.out _ _ (HSS.out _ HEA.out) (fun hHeld => ?_)
              clear hK K
              simp only [Act.put]
              refine wpAnyH_take (i := 9) (v := .pointer (some ⟨bp, 0, none⟩)) rfl (by kernel_rfl) (by kernel_rfl) (by kernel_rfl) (fun _ _ _ h => h) (Or.inl ⟨by kernel_rfl, ?y19⟩) (by assumption) ?r19
              case y19 => (intro w hSw; go_simp)
              simp only [Act.put]
              refine wpAnyH_take (i := 10) (v := .pointer (some ⟨bp, 5, none⟩)) rfl (by kernel_rfl) (by kernel_rfl) (by kernel_rfl) (fun _ _ _ h => h) (Or.inl ⟨by kernel_rfl, ?y20⟩) (by assumption) ?r20
              case y20 => (intro w hSw; go_simp)
              simp only [Act.put]
              have z0 := HZ0.out; have f0 := HF0.out
              refine wpAnyH_ready (rs := [11]) (by kernel_rfl) (by simp) (AllReadyH.cons rfl (fun K hK => ?_) AllReadyH.nil)
              go_simp
              refine hK.out _ _ ((World.cell?_setCell_other _ _ _ _ HM.out).trans (HSS.out _ HEA.out)) (fun hHeld => ?_)
              clear hK K
              clear z0 f0
              refine wpAnyH_done (by kernel_rfl) ?_ _
              clear hHeld
              have hEF := (HEY.out.same (HEA.out.mono fun k _ hk => .inr ⟨5, by omega, hk⟩)).setCell (p := ⟨bp, 5, none⟩) (fun _ => .inl rfl) (.slice ao' ((xs 5).length + 1) cap')
              have hAB := (HAB.out.ext HE8.out HKB.out).ext hEF (fun hk => by have := HBLT.out _ hk; omega)
              clear hEF hrun z5 HZ0 HF0 HSS HM HEA HEY
              generalize wb.setCell ⟨bp, 5, none⟩ (.slice ao' ((xs 5).length + 1) cap') = wx at *
              have HX := HF
              have u0 := HX.out.play.box.cell 0 rfl; have u1 := HX.out.play.box.cell 1 rfl
              have o0 := hAB.cell 0 rfl; have o1 := hAB.cell 1 rfl; have o2 := hAB.cell 2 rfl; have o3 := hAB.cell 3 rfl; have o4 := hAB.cell 4 rfl; have o5 := hAB.cell 5 rfl; have o6 := hAB.cell 6 rfl; have o7 := hAB.cell 7 rfl; have o8 := hAB.cell 8 rfl; have o9 := hAB.cell 9 rfl
              have HFT := Lib.hid (HX.out.fits (n := 1099511627770) (by have := HNUM.out.2.2.1; omega) (by have := HNUM.out.2.2.2.1; omega) (by have := HNUM.out.2.2.2.2; have := HX.out.crn.1; omega))
              have HCN := Lib.hid HX.out.crn
              have HBG := Lib.hid (show lb.length + 3 + l1.length ≤ 1099511627776 ∧ ln.length + 3 ≤ 1099511627776 ∧ lf.length + 1 ≤ 1099511627776 from ⟨by have := HNUM.out.2.2.1; have := HSM.out.1; omega, by have := HNUM.out.2.2.2.1; omega, by have := HNUM.out.2.2.2.2; omega⟩)
              clear hAB HF
              go_wp2_with (first
                | (go_at_call 45; refine (HX.out.look x.o other HOK.out.name HO.out HFT.out).mono ?_; rintro e w7 ⟨rfl, r7, xs7, its7, h7⟩; have H7 := Lib.hid h7; clear h7 u0 u1 o0 o1 o2 o3 o4 o5 o6 o7 o8 o9)
                | (go_at_call 46; refine (H7.out.right).mono ?_; rintro e w8 ⟨rfl, h8⟩; have H8 := Lib.hid h8; clear h8)
                | (go_at_call 47; refine (H8.out.mark HBG.out).mono ?_; rintro e w9 ⟨rfl, r9, xs9, lb9, ln9, lf9, h9, g1, g2, g3⟩; have H9 := Lib.hid h9; have HG := Lib.hid (And.intro g1 (And.intro g2 g3)); clear h9 g1 g2 g3)
                | (go_at_call 48; refine (H9.out.kept).mono ?_; rintro e wa ⟨rfl, ha⟩; have HA := Lib.hid ha; clear ha))
              have hnum := HNUM.out
              have hg := HG.out; have hcn := HCN.out
              exact ⟨⟨k + 1, _, K, r9, xs9, lb9, ln9, lf9, by go_num, by omega, HA.out, by have := HGR.out.1; omega, by have := HGR.out.2; omega, by omega, by omega, by omega⟩, by simp [intOf]; omega⟩
          case ob1 =>
            go_simp
            refine hK.out _ _ (HSS.out _ (((Ext.refl _ w8).drew).alloc _)) (fun hHeld => ?_)
            clear hK K
            refine wpAnyH_ready (rs := [4]) (by kernel_rfl) (by simp) (AllReadyH.cons rfl (fun K hK => ?_) AllReadyH.nil)
            have q0 := ((Ext.refl Nil w8).alloc (.cells #[.slice va1 l1.length vc1] 34 (0, 0))).cell z4 (fun h => h)
            go_simp
            clear q0
            refine hK.out _ _ (HSS.out _ (((Ext.refl _ w8).drew).alloc _)) (fun hHeld => ?_)
            clear hK K
            refine wpAnyH_ready (rs := [8]) (by kernel_rfl) (by simp) (AllReadyH.cons rfl (fun K hK => ?_) AllReadyH.nil)
            refine step_append_run rfl _ _ _ _ rfl _ _ _ rfl rfl hrun ?_
            refine hK.out _ _ (HSS.out _ HEA.out) (fun hHeld => ?_)
            clear hK K
            simp only [Act.put]
            refine wpAnyH_take (i := 9) (v := .pointer (some ⟨bp, 0, none⟩)) rfl (by kernel_rfl) (by kernel_rfl) (by kernel_rfl) (fun _ _ _ h => h) (Or.inl ⟨by kernel_rfl, ?y21⟩) (by assumption) ?r21
            case y21 => (intro w hSw; go_simp)
            simp only [Act.put]
            refine wpAnyH_take (i := 10) (v := .pointer (some ⟨bp, 4, none⟩)) rfl (by kernel_rfl) (by kernel_rfl) (by kernel_rfl) (fun _ _ _ h => h) (Or.inl ⟨by kernel_rfl, ?y22⟩) (by assumption) ?r22
            case y22 => (intro w hSw; go_simp)
            simp only [Act.put]
            have z0 := HZ0.out; have f0 := HF0.out
            refine wpAnyH_ready (rs := [11]) (by kernel_rfl) (by simp) (AllReadyH.cons rfl (fun K hK => ?_) AllReadyH.nil)
            go_simp
            refine hK.out _ _ ((World.cell?_setCell_other _ _ _ _ HM.out).trans (HSS.out _ HEA.out)) (fun hHeld => ?_)
            clear hK K
            clear z0 f0
            refine wpAnyH_done (by kernel_rfl) ?_ _
            clear hHeld
            obtain ⟨eY, z1, hN2⟩ := HN.out _ rfl
            obtain ⟨ao', cap', wb, hrun2, z5, f5, eB, r2, xs2, hfin⟩ := hN2 _ ((Ext.refl Nil _).drew) 94
            rw [HR5.out] at z1 hrun2 z5
            have HEY := Lib.hid (((Ext.refl (bkBlk r bp) w8).drew).same (eY.mono fun k _ hk => hk.elim .inl fun h9 => .inr ⟨4, by omega, h9⟩))
            clear hrun z4 HZ0 HF0 HSS HM HEA hN2 eY HN HR5
            generalize w9.setCell ⟨bp, 4, none⟩ (.slice ao ((xs 4).length + 1) cap) = wa at *
            have hS2 := HEY.out.cell HS2.out (fun hk => by have := HBLT.out i2 hk; have := HS7.out; simp at this; omega)
            have HSS := Lib.hid (fun (X : World) (e : Ext (inFoot (r 5)) wa X) => (e.cell hS2 (fun hk => by have := HBLT.out i2 (.inr ⟨5, by omega, hk⟩); have := HS7.out; simp at this; omega) : X.cell? ⟨i2, 0, none⟩ = some (.slice va2 l2.length vc2)))
            have HEA := Lib.hid (show Ext (inFoot (r 5)) wa wb from ((Ext.refl _ wa).drew).same eB)
            have HM := Lib.hid (show (⟨bp, 5, none⟩ : Addr) ≠ ⟨i2, 0, none⟩ from by simp)
            have HZ0 := Lib.hid z5; have HF0 := Lib.hid f5; have HF := Lib.hid hfin; have hrun := hrun2
            clear z5 f5 hfin hrun2 eB hS2
            have z5 := z1
            clear z1
            go_wp2_with fail
            refine wp_region_held_drew (S := fun w' => w'.cell? ⟨i2, 0, none⟩ = some (.slice va2 l2.length vc2)) (by kernel_rfl) (HSS.out _ ((Ext.refl _ wa).drew)) (fun hHeld => ?_)
            refine wpAnyH_take (i := 0) (v := .pointer (some ⟨bp, 0, none⟩)) rfl (by kernel_rfl) (by kernel_rfl) (by kernel_rfl) (fun _ _ _ h => h) (Or.inl ⟨by kernel_rfl, ?y24⟩) (by assumption) ?r24
            case y24 => (intro w hSw; go_simp)
            simp only [Act.put]
            refine wpAnyH_take (i := 1) (v := .pointer (some ⟨bp, 0, none⟩)) rfl (by kernel_rfl) (by kernel_rfl) (by kernel_rfl) (fun _ _ _ h => h) (Or.inl ⟨by kernel_rfl, ?y25⟩) (by assumption) ?r25
            case y25 => (intro w hSw; go_simp)
            simp only [Act.put]
            refine wpAnyH_take (i := 2) (v := .pointer (some ⟨bp, 0, none⟩)) rfl (by kernel_rfl) (by kernel_rfl) (by kernel_rfl) (fun _ _ _ h => h) (Or.inl ⟨by kernel_rfl, ?y26⟩) (by assumption) ?r26
            case y26 => (intro w hSw; go_simp)
            simp only [Act.put]
            refine wpAnyH_take (i := 3) (v := .pointer (some ⟨bp, 5, none⟩)) rfl (by kernel_rfl) (by kernel_rfl) (by kernel_rfl) (fun _ _ _ h => h) (Or.inl ⟨by kernel_rfl, ?y27⟩) (by assumption) ?r27
            case y27 => (intro w hSw; go_simp)
            simp only [Act.put]
            refine wpAnyH_take (i := 5) (v := .pointer (some ⟨i2, 0, none⟩)) rfl (by kernel_rfl) (by kernel_rfl) (by kernel_rfl) (fun _ _ _ h => h) (Or.inl ⟨by kernel_rfl, ?y28⟩) (by assumption) ?r28
            case y28 => (intro w hSw; go_simp)
            simp only [Act.put]
            refine wpAnyH_take (i := 6) (v := .slice va2 l2.length vc2) rfl (by kernel_rfl) (by kernel_rfl) (by kernel_rfl) (fun _ _ _ h => h) (Or.inl ⟨by kernel_rfl, ?y29⟩) (by assumption) ?r29
            case y29 => (intro w hSw; go_simp)
            simp only [Act.put]
            refine wpAnyH_ready (rs := [4, 7]) (by kernel_rfl) (by simp) (AllReadyH.cons rfl (fun K hK => ?oa23) (AllReadyH.cons rfl (fun K hK => ?ob23) AllReadyH.nil))
            case oa23 =>
              go_simp
              refine hK.out _ _ (HSS.out _ ((Ext.refl _ wa).drew)) (fun hHeld => ?_)
              clear hK K
              refine wpAnyH_ready (rs := [7]) (by kernel_rfl) (by simp) (AllReadyH.cons rfl (fun K hK => ?_) AllReadyH.nil)
              go_simp
              refine hK.out _ _ (HSS.out _ (((Ext.refl _ wa).drew).alloc _)) (fun hHeld => ?_)
              clear hK K
              refine wpAnyH_ready (rs := [8]) (by kernel_rfl) (by simp) (AllReadyH.cons rfl (fun K hK => ?_) AllReadyH.nil)
              refine step_append_run rfl _ _ _ _ rfl _ _ _ rfl rfl hrun ?_
              refine hK.out _ _ (HSS.out _ HEA.out) (fun hHeld => ?_)
              clear hK K
              simp only [Act.put]
              refine wpAnyH_take (i := 9) (v := .pointer (some ⟨bp, 0, none⟩)) rfl (by kernel_rfl) (by kernel_rfl) (by kernel_rfl) (fun _ _ _ h => h) (Or.inl ⟨by kernel_rfl, ?y30⟩) (by assumption) ?r30
              case y30 => (intro w hSw; go_simp)
              simp only [Act.put]
              refine wpAnyH_take (i := 10) (v := .pointer (some ⟨bp, 5, none⟩)) rfl (by kernel_rfl) (by kernel_rfl) (by kernel_rfl) (fun _ _ _ h => h) (Or.inl ⟨by kernel_rfl, ?y31⟩) (by assumption) ?r31
              case y31 => (intro w hSw; go_simp)
              simp only [Act.put]
              have z0 := HZ0.out; have f0 := HF0.out
              refine wpAnyH_ready (rs := [11]) (by kernel_rfl) (by simp) (AllReadyH.cons rfl (fun K hK => ?_) AllReadyH.nil)
              go_simp
              refine hK.out _ _ ((World.cell?_setCell_other _ _ _ _ HM.out).trans (HSS.out _ HEA.out)) (fun hHeld => ?_)
              clear hK K
              clear z0 f0
              refine wpAnyH_done (by kernel_rfl) ?_ _
              clear hHeld
              have hEF := (HEY.out.same (HEA.out.mono fun k _ hk => .inr ⟨5, by omega, hk⟩)).setCell (p := ⟨bp, 5, none⟩) (fun _ => .inl rfl) (.slice ao' ((xs 5).length + 1) cap')
              have hAB := (HAB.out.ext HE8.out HKB.out).ext hEF (fun hk => by have := HBLT.out _ hk; omega)
              clear hEF hrun z5 HZ0 HF0 HSS HM HEA HEY
              generalize wb.setCell ⟨bp, 5, none⟩ (.slice ao' ((xs 5).length + 1) cap') = wx at *
              have HX := HF
              have u0 := HX.out.play.box.cell 0 rfl; have u1 := HX.out.play.box.cell 1 rfl
              have o0 := hAB.cell 0 rfl; have o1 := hAB.cell 1 rfl; have o2 := hAB.cell 2 rfl; have o3 := hAB.cell 3 rfl; have o4 := hAB.cell 4 rfl; have o5 := hAB.cell 5 rfl; have o6 := hAB.cell 6 rfl; have o7 := hAB.cell 7 rfl; have o8 := hAB.cell 8 rfl; have o9 := hAB.cell 9 rfl
              have HFT := Lib.hid (HX.out.fits (n := 1099511627770) (by have := HNUM.out.2.2.1; omega) (by have := HNUM.out.2.2.2.1; omega) (by have := HNUM.out.2.2.2.2; have := HX.out.crn.1; omega))
              have HCN := Lib.hid HX.out.crn
              have HBG := Lib.hid (show lb.length + 3 + l1.length ≤ 1099511627776 ∧ ln.length + 3 ≤ 1099511627776 ∧ lf.length + 1 ≤ 1099511627776 from ⟨by have := HNUM.out.2.2.1; have := HSM.out.1; omega, by have := HNUM.out.2.2.2.1; omega, by have := HNUM.out.2.2.2.2; omega⟩)
              clear hAB HF
              go_wp2_with (first
                | (go_at_call 45; refine (HX.out.look x.o other HOK.out.name HO.out HFT.out).mono ?_; rintro e w7 ⟨rfl, r7, xs7, its7, h7⟩; have H7 := Lib.hid h7; clear h7 u0 u1 o0 o1 o2 o3 o4 o5 o6 o7 o8 o9)
                | (go_at_call 46; refine (H7.out.right).mono ?_; rintro e w8 ⟨rfl, h8⟩; have H8 := Lib.hid h8; clear h8)
                | (go_at_call 47; refine (H8.out.mark HBG.out).mono ?_; rintro e w9 ⟨rfl, r9, xs9, lb9, ln9, lf9, h9, g1, g2, g3⟩; have H9 := Lib.hid h9; have HG := Lib.hid (And.intro g1 (And.intro g2 g3)); clear h9 g1 g2 g3)
                | (go_at_call 48; refine (H9.out.kept).mono ?_; rintro e wa ⟨rfl, ha⟩; have HA := Lib.hid ha; clear ha))
              have hnum := HNUM.out
              have hg := HG.out; have hcn := HCN.out
              exact ⟨⟨k + 1, _, K, r9, xs9, lb9, ln9, lf9, by go_num, by omega, HA.out, by have := HGR.out.1; omega, by have := HGR.out.2; omega, by omega, by omega, by omega⟩, by simp [intOf]; omega⟩
            case ob23 =>
              go_simp
              refine hK.out _ _ (HSS.out _ (((Ext.refl _ wa).drew).alloc _)) (fun hHeld => ?_)
              clear hK K
              refine wpAnyH_ready (rs := [4]) (by kernel_rfl) (by simp) (AllReadyH.cons rfl (fun K hK => ?_) AllReadyH.nil)
              have q0 := ((Ext.refl Nil wa).alloc (.cells #[.slice va2 l2.length vc2] 34 (0, 0))).cell z5 (fun h => h)
              go_simp
              clear q0
              refine hK.out _ _ (HSS.out _ (((Ext.refl _ wa).drew).alloc _)) (fun hHeld => ?_)
              clear hK K
              refine wpAnyH_ready (rs := [8]) (by kernel_rfl) (by simp) (AllReadyH.cons rfl (fun K hK => ?_) AllReadyH.nil)
              refine step_append_run rfl _ _ _ _ rfl _ _ _ rfl rfl hrun ?_
              refine hK.out _ _ (HSS.out _ HEA.out) (fun hHeld => ?_)
              clear hK K
              simp only [Act.put]
              refine wpAnyH_take (i := 9) (v := .pointer (some ⟨bp, 0, none⟩)) rfl (by kernel_rfl) (by kernel_rfl) (by kernel_rfl) (fun _ _ _ h => h) (Or.inl ⟨by kernel_rfl, ?y32⟩) (by assumption) ?r32
              case y32 => (intro w hSw; go_simp)
              simp only [Act.put]
              refine wpAnyH_take (i := 10) (v := .pointer (some ⟨bp, 5, none⟩)) rfl (by kernel_rfl) (by kernel_rfl) (by kernel_rfl) (fun _ _ _ h => h) (Or.inl ⟨by kernel_rfl, ?y33⟩) (by assumption) ?r33
              case y33 => (intro w hSw; go_simp)
              simp only [Act.put]
              have z0 := HZ0.out; have f0 := HF0.out
              refine wpAnyH_ready (rs := [11]) (by kernel_rfl) (by simp) (AllReadyH.cons rfl (fun K hK => ?_) AllReadyH.nil)
              go_simp
              refine hK.out _ _ ((World.cell?_setCell_other _ _ _ _ HM.out).trans (HSS.out _ HEA.out)) (fun hHeld => ?_)
              clear hK K
              clear z0 f0
              refine wpAnyH_done (by kernel_rfl) ?_ _
              clear hHeld
              have hEF := (HEY.out.same (HEA.out.mono fun k _ hk => .inr ⟨5, by omega, hk⟩)).setCell (p := ⟨bp, 5, none⟩) (fun _ => .inl rfl) (.slice ao' ((xs 5).length + 1) cap')
              have hAB := (HAB.out.ext HE8.out HKB.out).ext hEF (fun hk => by have := HBLT.out _ hk; omega)
              clear hEF hrun z5 HZ0 HF0 HSS HM HEA HEY
              generalize wb.setCell ⟨bp, 5, none⟩ (.slice ao' ((xs 5).length + 1) cap') = wx at *
              have HX := HF
              have u0 := HX.out.play.box.cell 0 rfl; have u1 := HX.out.play.box.cell 1 rfl
              have o0 := hAB.cell 0 rfl; have o1 := hAB.cell 1 rfl; have o2 := hAB.cell 2 rfl; have o3 := hAB.cell 3 rfl; have o4 := hAB.cell 4 rfl; have o5 := hAB.cell 5 rfl; have o6 := hAB.cell 6 rfl; have o7 := hAB.cell 7 rfl; have o8 := hAB.cell 8 rfl; have o9 := hAB.cell 9 rfl
              have HFT := Lib.hid (HX.out.fits (n := 1099511627770) (by have := HNUM.out.2.2.1; omega) (by have := HNUM.out.2.2.2.1; omega) (by have := HNUM.out.2.2.2.2; have := HX.out.crn.1; omega))
              have HCN := Lib.hid HX.out.crn
              have HBG := Lib.hid (show lb.length + 3 + l1.length ≤ 1099511627776 ∧ ln.length + 3 ≤ 1099511627776 ∧ lf.length + 1 ≤ 1099511627776 from ⟨by have := HNUM.out.2.2.1; have := HSM.out.1; omega, by have := HNUM.out.2.2.2.1; omega, by have := HNUM.out.2.2.2.2; omega⟩)
              clear hAB HF
              go_wp2_with (first
                | (go_at_call 45; refine (HX.out.look x.o other HOK.out.name HO.out HFT.out).mono ?_; rintro e w7 ⟨rfl, r7, xs7, its7, h7⟩; have H7 := Lib.hid h7; clear h7 u0 u1 o0 o1 o2 o3 o4 o5 o6 o7 o8 o9)
                | (go_at_call 46; refine (H7.out.right).mono ?_; rintro e w8 ⟨rfl, h8⟩; have H8 := Lib.hid h8; clear h8)
                | (go_at_call 47; refine (H8.out.mark HBG.out).mono ?_; rintro e w9 ⟨rfl, r9, xs9, lb9, ln9, lf9, h9, g1, g2, g3⟩; have H9 := Lib.hid h9; have HG := Lib.hid (And.intro g1 (And.intro g2 g3)); clear h9 g1 g2 g3)
                | (go_at_call 48; refine (H9.out.kept).mono ?_; rintro e wa ⟨rfl, ha⟩; have HA := Lib.hid ha; clear ha))
              have hnum := HNUM.out
              have hg := HG.out; have hcn := HCN.out
              exact ⟨⟨k + 1, _, K, r9, xs9, lb9, ln9, lf9, by go_num, by omega, HA.out, by have := HGR.out.1; omega, by have := HGR.out.2; omega, by omega, by omega, by omega⟩, by simp [intOf]; omega⟩
        · go_wp2_with (first
            | (go_at_call 41; refine (step_m _ d q D K HP2.out.play.pq x.o x.B x.ks (HOK.out.ext0 HP2.out.play.ext) HDK.out HKK.out (by have := HNUM.out.1; omega) (by have := HNUM.out.2.1; omega) (by have := HSM.out.1; omega) (by have := HSM.out.2; omega)).mono ?_; rintro e w3 hq; obtain ⟨rfl, K3, hX⟩ := HP2.out.stepped hq; have HX := Lib.hid hX; have hAB := HAB.out.ext hq.2.choose_spec.2.1 (fun hK => by have := HKLT.out _ hK; omega); have o0 := hAB.cell 0 rfl; have o1 := hAB.cell 1 rfl; have o2 := hAB.cell 2 rfl; have o3 := hAB.cell 3 rfl; have o4 := hAB.cell 4 rfl; have o5 := hAB.cell 5 rfl; have o6 := hAB.cell 6 rfl; have o7 := hAB.cell 7 rfl; have o8 := hAB.cell 8 rfl; have o9 := hAB.cell 9 rfl; have u0 := hX.play.box.cell 0 rfl; have u1 := hX.play.box.cell 1 rfl; have HFT := Lib.hid (HX.out.fits (n := 1099511627770) (by have := HNUM.out.2.2.1; omega) (by have := HNUM.out.2.2.2.1; omega) (by have := HNUM.out.2.2.2.2; simp only [List.length_nil]; omega)); have HCN := Lib.hid HX.out.crn; have HBG := Lib.hid (show lb.length + 3 + ([] : List FI).length ≤ 1099511627776 ∧ ln.length + 3 ≤ 1099511627776 ∧ lf.length + 1 ≤ 1099511627776 from ⟨by have := HNUM.out.2.2.1; simp only [List.length_nil]; omega, by have := HNUM.out.2.2.2.1; omega, by have := HNUM.out.2.2.2.2; omega⟩); clear hq hX hAB q0 q1 q2 q3 q4 q5 q6 q7 q8 q9 r0 r1)
            | (go_at_call 45; refine (HX.out.look x.o other HOK.out.name HO.out HFT.out).mono ?_; rintro e w7 ⟨rfl, r7, xs7, its7, h7⟩; have H7 := Lib.hid h7; clear h7 u0 u1 o0 o1 o2 o3 o4 o5 o6 o7 o8 o9)
            | (go_at_call 46; refine (H7.out.right).mono ?_; rintro e w8 ⟨rfl, h8⟩; have H8 := Lib.hid h8; clear h8)
            | (go_at_call 47; refine (H8.out.mark HBG.out).mono ?_; rintro e w9 ⟨rfl, r9, xs9, lb9, ln9, lf9, h9, g1, g2, g3⟩; have H9 := Lib.hid h9; have HG := Lib.hid (And.intro g1 (And.intro g2 g3)); clear h9 g1 g2 g3)
            | (go_at_call 48; refine (H9.out.kept).mono ?_; rintro e wa ⟨rfl, ha⟩; have HA := Lib.hid ha; clear ha))
          have hnum := HNUM.out
          have hg := HG.out; have hcn := HCN.out
          exact ⟨⟨k + 1, _, K3, r9, xs9, lb9, ln9, lf9, by go_num, by omega, HA.out, by have := HGR.out.1; omega, by have := HGR.out.2; omega, by omega, by omega, by omega⟩, by simp [intOf]; omega⟩
      · have hnot : ¬ (k : Int) < (L.length : Int) := by omega
        have HE := Lib.hid hP.play.ext
        clear hP
        go_wp2_with fail
        go_ret
        exact ⟨rfl, HE.out⟩
end Go.Proofs.Ytnppneilbkmnfaa
