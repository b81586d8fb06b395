/- The law's Pair.look. Condition: both disks stand at one plain disk, apart from the book. -/
import Derived.Test.YtnppneilbkmnfaaKL
namespace Go.Proofs.Ytnppneilbkmnfaa
open Go.RowKit

theorem Lk.push0 {S : Nat} {w : World} {bp : Nat} {r : Nat → Value} {xs : Nat → List Value} {B N F : Nat} {W : World} {r' : Nat → Value} {xs' : Nat → List Value} {its : Nat → List (Value × Value)} (h : Lk S w bp r xs B N F W r' xs' its) (hS : S ≤ w.heap.size)
    {X : World} (eX : Ext Nil W X) {ga gb : Option Addr} {gn gc hn' hc' : Nat} {n : Nat} {cs : List Value} (O1 : Own X (cty 0) (csz 0) (.slice ga gn gc) n cs) (O2 : Own X (cty 0) (csz 0) (.slice gb hn' hc') n cs) (hg : cgd 0 cs) (hn : n ≤ 1073741824) (f1 : ∀ k, inFoot (.slice ga gn gc) k → W.heap.size ≤ k) (f2 : ∀ k, inFoot (.slice gb hn' hc') k → W.heap.size ≤ k ∧ ¬ inFoot (.slice ga gn gc) k)
    {v0 v1 : Value} (h0 : r' 0 = v0) (h1 : r' 1 = v1) {l0 l1 : Nat} (g0 : (xs' 0).length = l0) (g1 : (xs' 1).length = l1) (hfit : l0 ≤ 1099511627776) (hfit1 : l1 ≤ 1099511627776) (ty : TypeId) :
    ∃ ao cap w2, (Builtin.append_ #[92, 92] ty #[v0, .slice (some ⟨X.heap.size, 0, none⟩) 1 1]).run Try.prog (X.alloc (.cells #[.slice ga gn gc] 31 (0, 0))) = .ok (.slice ao (l0 + 1) cap) w2 ∧
      w2.cell? ⟨bp, 0, none⟩ = some v0 ∧ w2.frozen? ⟨bp, 0, none⟩ = false ∧ w2.cell? ⟨bp, 1, none⟩ = some v1 ∧
      ∀ X3, X3 = w2.setCell ⟨bp, 0, none⟩ (.slice ao (l0 + 1) cap) → X3.cell? ⟨bp, 1, none⟩ = some v1 ∧
        ∀ ty', ∃ ao' cap' w4, (Builtin.append_ #[92, 92] ty' #[v1, .slice (some ⟨X3.heap.size, 0, none⟩) 1 1]).run Try.prog (X3.alloc (.cells #[.slice gb hn' hc'] 31 (0, 0))) = .ok (.slice ao' (l1 + 1) cap') w4 ∧
          w4.cell? ⟨bp, 1, none⟩ = some v1 ∧ w4.frozen? ⟨bp, 1, none⟩ = false ∧
          ∃ r2 xs2 its2, Lk S w bp r xs B N F (w4.setCell ⟨bp, 1, none⟩ (.slice ao' (l1 + 1) cap')) r2 xs2 its2 ∧ ∀ d, (its2 d).length = (its d).length + if d = 0 then 1 else 0 := by
  subst h0 h1 g0 g1
  exact h.push (c := 0) (by omega) hS eX O1 O2 hg hn f1 f2 rfl rfl Try.underlying92 info_bytes31 rfl (by omega) hfit hfit1 ty
theorem Lk.push1 {S : Nat} {w : World} {bp : Nat} {r : Nat → Value} {xs : Nat → List Value} {B N F : Nat} {W : World} {r' : Nat → Value} {xs' : Nat → List Value} {its : Nat → List (Value × Value)} (h : Lk S w bp r xs B N F W r' xs' its) (hS : S ≤ w.heap.size)
    {X : World} (eX : Ext Nil W X) {ga gb : Option Addr} {gn gc hn' hc' : Nat} {n : Nat} {cs : List Value} (O1 : Own X (cty 1) (csz 1) (.slice ga gn gc) n cs) (O2 : Own X (cty 1) (csz 1) (.slice gb hn' hc') n cs) (hg : cgd 1 cs) (hn : n ≤ 1073741824) (f1 : ∀ k, inFoot (.slice ga gn gc) k → W.heap.size ≤ k) (f2 : ∀ k, inFoot (.slice gb hn' hc') k → W.heap.size ≤ k ∧ ¬ inFoot (.slice ga gn gc) k)
    {v0 v1 : Value} (h0 : r' 2 = v0) (h1 : r' 3 = v1) {l0 l1 : Nat} (g0 : (xs' 2).length = l0) (g1 : (xs' 3).length = l1) (hfit : l0 ≤ 1099511627776) (hfit1 : l1 ≤ 1099511627776) (ty : TypeId) :
    ∃ ao cap w2, (Builtin.append_ #[93, 93] ty #[v0, .slice (some ⟨X.heap.size, 0, none⟩) 1 1]).run Try.prog (X.alloc (.cells #[.slice ga gn gc] 78 (0, 0))) = .ok (.slice ao (l0 + 1) cap) w2 ∧
      w2.cell? ⟨bp, 2, none⟩ = some v0 ∧ w2.frozen? ⟨bp, 2, none⟩ = false ∧ w2.cell? ⟨bp, 3, none⟩ = some v1 ∧
      ∀ X3, X3 = w2.setCell ⟨bp, 2, none⟩ (.slice ao (l0 + 1) cap) → X3.cell? ⟨bp, 3, none⟩ = some v1 ∧
        ∀ ty', ∃ ao' cap' w4, (Builtin.append_ #[93, 93] ty' #[v1, .slice (some ⟨X3.heap.size, 0, none⟩) 1 1]).run Try.prog (X3.alloc (.cells #[.slice gb hn' hc'] 78 (0, 0))) = .ok (.slice ao' (l1 + 1) cap') w4 ∧
          w4.cell? ⟨bp, 3, none⟩ = some v1 ∧ w4.frozen? ⟨bp, 3, none⟩ = false ∧
          ∃ r2 xs2 its2, Lk S w bp r xs B N F (w4.setCell ⟨bp, 3, none⟩ (.slice ao' (l1 + 1) cap')) r2 xs2 its2 ∧ ∀ d, (its2 d).length = (its d).length + if d = 1 then 1 else 0 := by
  subst h0 h1 g0 g1
  exact h.push (c := 1) (by omega) hS eX O1 O2 hg hn f1 f2 rfl rfl Try.underlying93 info_str78 rfl (by omega) hfit hfit1 ty

set_option maxRecDepth 20000 in
set_option maxHeartbeats 2000000 in
theorem look_m (w : World) (d q : Nat) (D : Dk) (K : Nat → Prop) (hP : PQ w d q D D K) (bp : Nat) (r : Nat → Value) (xs : Nat → List Value) (B N F : Nat) (h : Mk w.heap.size w bp r xs B N F (fun _ => []) (fun _ => 0)) (hKb : ∀ k, K k → ¬ bkBlk r bp k)
    (o : OpD) (other : ByteArray) (hs : o.s.size ≤ maxLen) (ho : other.size ≤ maxLen) (hfit : ∀ i, i < 6 → (xs i).length ≤ 1099511627770) :
    Calls Try.prog 45 #[.agg #[.pointer (some ⟨d, 0, none⟩), .pointer (some ⟨q, 0, none⟩)], .pointer (some ⟨bp, 0, none⟩), .agg o.cells.toArray, .string other] w fun e w' => e = .returned (.tuple #[]) ∧ ∃ W2, Ext Nil w W2 ∧ ∃ r' xs' its, Lk w.heap.size W2 bp r xs B N F w' r' xs' its ∧ (its 0).length = 3 ∧ (its 1).length = 3 ∧ (its 2).length = 0 := by
  obtain ⟨kd, who, s, dx, dn, dc, nn, ta, tb, tc, kx, kn, kc, junk⟩ := o
  simp only [] at hs
  unfold OpD.cells
  simp only []
  have e1 : Ext Nil w (w.alloc (.cells #[.pointer (some ⟨d, 0, none⟩), .pointer (some ⟨q, 0, none⟩)] 82 (0, 0))) := (Ext.refl _ _).alloc _
  have a1 := At.new w [.pointer (some ⟨d, 0, none⟩), .pointer (some ⟨q, 0, none⟩)] 82
  have e2 : Ext Nil (w.alloc (.cells #[.pointer (some ⟨d, 0, none⟩), .pointer (some ⟨q, 0, none⟩)] 82 (0, 0))) ((w.alloc (.cells #[.pointer (some ⟨d, 0, none⟩), .pointer (some ⟨q, 0, none⟩)] 82 (0, 0))).alloc (.cells #[.int .i64 kd, .int .i64 who, .string s, .slice dx dn dc, .int .i64 nn, .int .i64 ta, .int .i64 tb, .bool tc, .slice kx kn kc, .int .u8 junk] 47 (0, 0))) := (Ext.refl _ _).alloc _
  have a2 := At.new (w.alloc (.cells #[.pointer (some ⟨d, 0, none⟩), .pointer (some ⟨q, 0, none⟩)] 82 (0, 0))) [.int .i64 kd, .int .i64 who, .string s, .slice dx dn dc, .int .i64 nn, .int .i64 ta, .int .i64 tb, .bool tc, .slice kx kn kc, .int .u8 junk] 47
  rw [show (w.alloc (.cells #[.pointer (some ⟨d, 0, none⟩), .pointer (some ⟨q, 0, none⟩)] 82 (0, 0))).heap.size = w.heap.size + 1 by simp] at a2
  obtain ⟨W2, hW2⟩ : ∃ W2, W2 = (w.alloc (.cells #[.pointer (some ⟨d, 0, none⟩), .pointer (some ⟨q, 0, none⟩)] 82 (0, 0))).alloc (.cells #[.int .i64 kd, .int .i64 who, .string s, .slice dx dn dc, .int .i64 nn, .int .i64 ta, .int .i64 tb, .bool tc, .slice kx kn kc, .int .u8 junk] 47 (0, 0)) := ⟨_, rfl⟩
  have eW : Ext Nil w W2 := by rw [hW2]; exact e1.same e2
  have A1 : At W2 w.heap.size 82 [.pointer (some ⟨d, 0, none⟩), .pointer (some ⟨q, 0, none⟩)] := by rw [hW2]; exact a1.ext e2 fun h => h
  have A2 : At W2 (w.heap.size + 1) 47 [.int .i64 kd, .int .i64 who, .string s, .slice dx dn dc, .int .i64 nn, .int .i64 ta, .int .i64 tb, .bool tc, .slice kx kn kc, .int .u8 junk] := by rw [hW2]; exact a2
  clear a1 a2 e1 e2
  have hbl := h.bk.lt
  have HQ := Lib.hid (fun W (e : Ext (bkBlk r bp) W2 W) => (⟨(hP.ext0 eW).ext e hKb, A1.ext e fun hb => by have := hbl _ hb; omega, A2.ext e fun hb => by have := hbl _ hb; omega⟩ : PQ W d q D D K ∧ At W w.heap.size 82 [.pointer (some ⟨d, 0, none⟩), .pointer (some ⟨q, 0, none⟩)] ∧ At W (w.heap.size + 1) 47 [.int .i64 kd, .int .i64 who, .string s, .slice dx dn dc, .int .i64 nn, .int .i64 ta, .int .i64 tb, .bool tc, .slice kx kn kc, .int .u8 junk]))
  have HL0 := Lib.hid (show Lk w.heap.size W2 bp r xs B N F W2 r xs (fun _ => []) from ⟨(h.ext0 eW).less fun c hc => Nat.le_refl _, fun c hc => by simp, fun c hc => by simp, fun k hk => absurd hk ifeet.none, Step.refl _ _⟩)
  have HSW := Lib.hid eW.size; have HEW2 := Lib.hid eW; have HSM := Lib.hid (fun s => dk_small hP.wf.1 s); have HFIT := Lib.hid hfit; have HW2 := Lib.hid hW2
  clear hP h hKb eW A1 A2 hbl hfit
  go_enter Try.func45, Try.ntmps45
  go_wp2_with fail
  go_loopw [8] (fun i wr => ∃ (t : Nat) (r' : Nat → Value) (xs' : Nat → List Value) (its : Nat → List (Value × Value)), i = .int .i64 (t : Int) ∧ t ≤ 3 ∧ Lk w.heap.size W2 bp r xs B N F wr r' xs' its ∧ (its 0).length = t ∧ (its 1).length = t ∧ (its 2).length = 0) (fun i _ => 3 - (intOf i).toNat)
  case atStart => exact ⟨0, r, xs, fun _ => [], rfl, by omega, by have h0 := HL0.out; rw [HW2.out] at h0 ⊢; exact h0, rfl, rfl, rfl⟩
  case round =>
    clear hW2
    obtain ⟨t, r', xs', its, rfl, ht, hL, hl0, hl1, hl2⟩ := hrel
    by_cases hlt : t < 3
    · have hlt2 : (t : Int) < 3 := by omega
      have hQ0 := HQ.out wr hL.ext.1
      have b0 := hQ0.2.1.cell 0 rfl
      have b1 := hQ0.2.1.cell 1 rfl
      have b2 := hQ0.2.2.cell 2 rfl
      have HPQ := Lib.hid hQ0.1
      obtain ⟨a0, c0, hr0, -, -, y0, -⟩ := hL.kk.bk.row (i := 0) (by omega)
      obtain ⟨a1, c1, hr1, -, -, y1, -⟩ := hL.kk.bk.row (i := 1) (by omega)
      obtain ⟨l0, hl00⟩ : ∃ l, (xs' 0).length = l := ⟨_, rfl⟩
      obtain ⟨l1, hl01⟩ : ∃ l, (xs' 1).length = l := ⟨_, rfl⟩
      rw [hl00] at hr0 y0
      rw [hl01] at hr1 y1
      have hb0 : l0 ≤ 1099511627776 := by have h1 := hL.rp 0 (by omega); have h2 := HFIT.out 0 (by omega); have h3 := congrArg List.length h1; simp only [List.length_append, List.length_map, Nat.mul_zero] at h3; omega
      have hb1 : l1 ≤ 1099511627776 := by have h1 := hL.rq 0 (by omega); have h2 := HFIT.out 1 (by omega); have h3 := congrArg List.length h1; simp only [List.length_append, List.length_map, Nat.mul_zero, Nat.zero_add] at h3; omega
      have HL := Lib.hid hL; have HR0 := Lib.hid hr0; have HR1 := Lib.hid hr1; have HY0 := Lib.hid y0; have HG0 := Lib.hid hl00; have HG1 := Lib.hid hl01; have HB := Lib.hid (And.intro hb0 hb1); have HLN := Lib.hid (And.intro hl0 (And.intro hl1 hl2))
      clear hL hr0 hr1 y0 y1 hl00 hl01 hb0 hb1 hl0 hl1 hl2 hQ0
      by_cases h1t : t = 1
      · subst h1t
        go_wp2_with (first
          | (go_at_call 29; refine (pq_read HPQ.out other ho).mono ?_; rintro e w3 ⟨ax, cx, rfl, Ox, Sx⟩; have HOX := Lib.hid Ox; have HSX := Lib.hid Sx; have hQ3 := HQ.out w3 (HL.out.ext.1.trans Sx.1 (fun _ _ h => h.elim)); have HPQ3 := Lib.hid hQ3.1; clear b0 b1 b2; have b1 := hQ3.2.1.cell 1 rfl; clear Ox Sx hQ3)
          | (go_at_call 76; refine (qq_read HPQ3.out other ho).mono ?_; rintro e w4 ⟨ay, cy, rfl, Oy, Sy⟩; have e34 : Ext Nil wr w4 := HSX.out.1.same Sy.1; have hf1 := (fun k hk => (HSX.out.2 k hk).resolve_left (fun h => h)); have hf2 : ∀ k, inFoot (.slice ay (D.bytes other.data.toList).length cy) k → wr.heap.size ≤ k ∧ ¬ inFoot (.slice ax (D.bytes other.data.toList).length cx) k := (fun k hk => ⟨(by have h1 := (Sy.2 k hk).resolve_left (fun h => h); have h2 := HSX.out.1.size; omega), fun hk2 => (by have h1 := (Sy.2 k hk).resolve_left (fun h => h); have h2 := HOX.out.lt k hk2; omega)⟩); have hpush := HL.out.push0 HSW.out e34 (n := (D.bytes other.data.toList).length) (cs := bvs (D.bytes other.data.toList)) (HOX.out.ext Sy.1 (fun _ _ h => h)) Oy (cgd_b _) (HSM.out _).1 hf1 hf2 HR0.out HR1.out HG0.out HG1.out HB.out.1 HB.out.2 92; obtain ⟨ao, cap, w5, hrun, z0, f0, z1w, hN⟩ := hpush; have y0 := e34.cell HY0.out (fun h => h); clear b1 hf1 hf2 e34 Oy Sy)
          | (at_builtin; refine wpList_append_run rfl (.tmp 43) (.tmp 45) 92 92 rfl _ _ _ rfl rfl hrun ?_; clear y0; obtain ⟨z1, hN2⟩ := hN _ rfl; obtain ⟨ao', cap', w6, hrun2, z1', f1', r2, xs2, its2, hL2, hlen2⟩ := hN2 92; rw [show ∀ (W : World) p v, (World.setCell W p v).heap.size = W.heap.size from (fun W p v => by simp [World.setCell])] at hrun2; have HL2 := Lib.hid hL2; have HLEN2 := Lib.hid hlen2; clear hN hN2 hL2 hlen2 hrun)
          | (at_builtin; refine wpList_append_run rfl (.tmp 53) (.tmp 55) 92 92 rfl _ _ _ rfl rfl hrun2 ?_; clear z0 f0 z1 z1w hrun2; have hQ7 := HQ.out _ (HL2.out.ext.1); have HPQ7 := Lib.hid hQ7.1; have b0 := hQ7.2.1.cell 0 rfl; clear hQ7)
          | (go_at_call 37; refine (pq_names HPQ7.out).mono ?_; rintro e w8 ⟨al, cl, rfl, Ol, Sl⟩; have HOL := Lib.hid Ol; have HSL := Lib.hid Sl; have hQ8 := HQ.out w8 (HL2.out.ext.1.trans Sl.1 (fun _ _ h => h.elim)); have HPQ8 := Lib.hid hQ8.1; clear b0 z1' f1'; have b1 := hQ8.2.1.cell 1 rfl; clear Ol Sl hQ8)
          | (go_at_call 40; refine (qq_names HPQ8.out).mono ?_; rintro e w9 ⟨am, cm, rfl, Om, Sm⟩; have e89 := HSL.out.1.same Sm.1; obtain ⟨a2, c2, hr2, -, -, y2, -⟩ := HL2.out.kk.bk.row (i := 2) (by omega); obtain ⟨a3, c3, hr3, -, -, y3, -⟩ := HL2.out.kk.bk.row (i := 3) (by omega); obtain ⟨l2, hg2⟩ : ∃ l, (xs2 2).length = l := ⟨_, rfl⟩; obtain ⟨l3, hg3⟩ : ∃ l, (xs2 3).length = l := ⟨_, rfl⟩; rw [hg2] at hr2 y2; rw [hg3] at hr3 y3; have hb2 : l2 ≤ 1099511627776 := (by have h1 := HL2.out.rp 1 (by omega); have h2 := HFIT.out 2 (by omega); have h3 := congrArg List.length h1; have h4 := HLEN2.out 1; have h5 := HLN.out.2.1; simp only [List.length_append, List.length_map, Nat.mul_one] at h3; simp at h4; omega); have hb3 : l3 ≤ 1099511627776 := (by have h1 := HL2.out.rq 1 (by omega); have h2 := HFIT.out 3 (by omega); have h3 := congrArg List.length h1; have h4 := HLEN2.out 1; have h5 := HLN.out.2.1; simp only [List.length_append, List.length_map, Nat.mul_one, Nat.reduceAdd] at h3; simp at h4; omega); have hf1 := (fun k hk => (HSL.out.2 k hk).resolve_left (fun h => h)); have hf2 : ∀ k, inFoot (.slice am D.names.length cm) k → _ ≤ k ∧ ¬ inFoot (.slice al D.names.length cl) k := (fun k hk => ⟨(by have h1 := (Sm.2 k hk).resolve_left (fun h => h); have h2 := HSL.out.1.size; exact Nat.le_trans h2 h1), fun hk2 => (by have h1 := (Sm.2 k hk).resolve_left (fun h => h); have h2 := HOL.out.lt k hk2; omega)⟩); have hpush := HL2.out.push1 HSW.out e89 (n := D.names.length) (cs := namesV D.names) (HOL.out.ext Sm.1 (fun _ _ h => h)) Om (cgd_n _) (HSM.out []).2 hf1 hf2 hr2 hr3 hg2 hg3 hb2 hb3 93; obtain ⟨ao3, cap3, w10, hrun, z0, f0, z1w, hN⟩ := hpush; have y0 := e89.cell y2 (fun h => h); clear b1 hf1 hf2 e89 Om Sm hr2 hr3 y2 y3 hg2 hg3 hb2 hb3)
          | (at_builtin; refine wpList_append_run rfl (.tmp 69) (.tmp 71) 93 93 rfl _ _ _ rfl rfl hrun ?_; clear y0; obtain ⟨z1, hN2⟩ := hN _ rfl; obtain ⟨ao4, cap4, w11, hrun2, z1', f1', r3, xs3, its3, hL3, hlen3⟩ := hN2 93; rw [show ∀ (W : World) p v, (World.setCell W p v).heap.size = W.heap.size from (fun W p v => by simp [World.setCell])] at hrun2; have HL3 := Lib.hid hL3; have HLEN3 := Lib.hid hlen3; clear hN hN2 hL3 hlen3 hrun)
          | (at_builtin; refine wpList_append_run rfl (.tmp 79) (.tmp 81) 93 93 rfl _ _ _ rfl rfl hrun2 ?_; clear z0 f0 z1 z1w hrun2))
        exact ⟨⟨1 + 1, r3, xs3, its3, by go_num, by omega, HL3.out, by have h1 := HLEN2.out 0; have h2 := HLEN3.out 0; have h3 := HLN.out.1; simp at h1 h2 <;> omega, by have h1 := HLEN2.out 1; have h2 := HLEN3.out 1; have h3 := HLN.out.2.1; simp at h1 h2 <;> omega, by have h1 := HLEN2.out 2; have h2 := HLEN3.out 2; have h3 := HLN.out.2.2; simp at h1 h2 <;> omega⟩, by simp [intOf] <;> omega⟩
      · have hne : ¬ (t : Int) = 1 := by omega
        clear h1t
        go_wp2_with (first
          | (go_at_call 29; refine (pq_read HPQ.out s hs).mono ?_; rintro e w3 ⟨ax, cx, rfl, Ox, Sx⟩; have HOX := Lib.hid Ox; have HSX := Lib.hid Sx; have hQ3 := HQ.out w3 (HL.out.ext.1.trans Sx.1 (fun _ _ h => h.elim)); have HPQ3 := Lib.hid hQ3.1; clear b0 b1 b2; have b1 := hQ3.2.1.cell 1 rfl; clear Ox Sx hQ3)
          | (go_at_call 76; refine (qq_read HPQ3.out s hs).mono ?_; rintro e w4 ⟨ay, cy, rfl, Oy, Sy⟩; have e34 : Ext Nil wr w4 := HSX.out.1.same Sy.1; have hf1 := (fun k hk => (HSX.out.2 k hk).resolve_left (fun h => h)); have hf2 : ∀ k, inFoot (.slice ay (D.bytes s.data.toList).length cy) k → wr.heap.size ≤ k ∧ ¬ inFoot (.slice ax (D.bytes s.data.toList).length cx) k := (fun k hk => ⟨(by have h1 := (Sy.2 k hk).resolve_left (fun h => h); have h2 := HSX.out.1.size; omega), fun hk2 => (by have h1 := (Sy.2 k hk).resolve_left (fun h => h); have h2 := HOX.out.lt k hk2; omega)⟩); have hpush := HL.out.push0 HSW.out e34 (n := (D.bytes s.data.toList).length) (cs := bvs (D.bytes s.data.toList)) (HOX.out.ext Sy.1 (fun _ _ h => h)) Oy (cgd_b _) (HSM.out _).1 hf1 hf2 HR0.out HR1.out HG0.out HG1.out HB.out.1 HB.out.2 92; obtain ⟨ao, cap, w5, hrun, z0, f0, z1w, hN⟩ := hpush; have y0 := e34.cell HY0.out (fun h => h); clear b1 hf1 hf2 e34 Oy Sy)
          | (at_builtin; refine wpList_append_run rfl (.tmp 43) (.tmp 45) 92 92 rfl _ _ _ rfl rfl hrun ?_; clear y0; obtain ⟨z1, hN2⟩ := hN _ rfl; obtain ⟨ao', cap', w6, hrun2, z1', f1', r2, xs2, its2, hL2, hlen2⟩ := hN2 92; rw [show ∀ (W : World) p v, (World.setCell W p v).heap.size = W.heap.size from (fun W p v => by simp [World.setCell])] at hrun2; have HL2 := Lib.hid hL2; have HLEN2 := Lib.hid hlen2; clear hN hN2 hL2 hlen2 hrun)
          | (at_builtin; refine wpList_append_run rfl (.tmp 53) (.tmp 55) 92 92 rfl _ _ _ rfl rfl hrun2 ?_; clear z0 f0 z1 z1w hrun2; have hQ7 := HQ.out _ (HL2.out.ext.1); have HPQ7 := Lib.hid hQ7.1; have b0 := hQ7.2.1.cell 0 rfl; clear hQ7)
          | (go_at_call 37; refine (pq_names HPQ7.out).mono ?_; rintro e w8 ⟨al, cl, rfl, Ol, Sl⟩; have HOL := Lib.hid Ol; have HSL := Lib.hid Sl; have hQ8 := HQ.out w8 (HL2.out.ext.1.trans Sl.1 (fun _ _ h => h.elim)); have HPQ8 := Lib.hid hQ8.1; clear b0 z1' f1'; have b1 := hQ8.2.1.cell 1 rfl; clear Ol Sl hQ8)
          | (go_at_call 40; refine (qq_names HPQ8.out).mono ?_; rintro e w9 ⟨am, cm, rfl, Om, Sm⟩; have e89 := HSL.out.1.same Sm.1; obtain ⟨a2, c2, hr2, -, -, y2, -⟩ := HL2.out.kk.bk.row (i := 2) (by omega); obtain ⟨a3, c3, hr3, -, -, y3, -⟩ := HL2.out.kk.bk.row (i := 3) (by omega); obtain ⟨l2, hg2⟩ : ∃ l, (xs2 2).length = l := ⟨_, rfl⟩; obtain ⟨l3, hg3⟩ : ∃ l, (xs2 3).length = l := ⟨_, rfl⟩; rw [hg2] at hr2 y2; rw [hg3] at hr3 y3; have hb2 : l2 ≤ 1099511627776 := (by have h1 := HL2.out.rp 1 (by omega); have h2 := HFIT.out 2 (by omega); have h3 := congrArg List.length h1; have h4 := HLEN2.out 1; have h5 := HLN.out.2.1; simp only [List.length_append, List.length_map, Nat.mul_one] at h3; simp at h4; omega); have hb3 : l3 ≤ 1099511627776 := (by have h1 := HL2.out.rq 1 (by omega); have h2 := HFIT.out 3 (by omega); have h3 := congrArg List.length h1; have h4 := HLEN2.out 1; have h5 := HLN.out.2.1; simp only [List.length_append, List.length_map, Nat.mul_one, Nat.reduceAdd] at h3; simp at h4; omega); have hf1 := (fun k hk => (HSL.out.2 k hk).resolve_left (fun h => h)); have hf2 : ∀ k, inFoot (.slice am D.names.length cm) k → _ ≤ k ∧ ¬ inFoot (.slice al D.names.length cl) k := (fun k hk => ⟨(by have h1 := (Sm.2 k hk).resolve_left (fun h => h); have h2 := HSL.out.1.size; exact Nat.le_trans h2 h1), fun hk2 => (by have h1 := (Sm.2 k hk).resolve_left (fun h => h); have h2 := HOL.out.lt k hk2; omega)⟩); have hpush := HL2.out.push1 HSW.out e89 (n := D.names.length) (cs := namesV D.names) (HOL.out.ext Sm.1 (fun _ _ h => h)) Om (cgd_n _) (HSM.out []).2 hf1 hf2 hr2 hr3 hg2 hg3 hb2 hb3 93; obtain ⟨ao3, cap3, w10, hrun, z0, f0, z1w, hN⟩ := hpush; have y0 := e89.cell y2 (fun h => h); clear b1 hf1 hf2 e89 Om Sm hr2 hr3 y2 y3 hg2 hg3 hb2 hb3)
          | (at_builtin; refine wpList_append_run rfl (.tmp 69) (.tmp 71) 93 93 rfl _ _ _ rfl rfl hrun ?_; clear y0; obtain ⟨z1, hN2⟩ := hN _ rfl; obtain ⟨ao4, cap4, w11, hrun2, z1', f1', r3, xs3, its3, hL3, hlen3⟩ := hN2 93; rw [show ∀ (W : World) p v, (World.setCell W p v).heap.size = W.heap.size from (fun W p v => by simp [World.setCell])] at hrun2; have HL3 := Lib.hid hL3; have HLEN3 := Lib.hid hlen3; clear hN hN2 hL3 hlen3 hrun)
          | (at_builtin; refine wpList_append_run rfl (.tmp 79) (.tmp 81) 93 93 rfl _ _ _ rfl rfl hrun2 ?_; clear z0 f0 z1 z1w hrun2))
        exact ⟨⟨t + 1, r3, xs3, its3, by go_num, by omega, HL3.out, by have h1 := HLEN2.out 0; have h2 := HLEN3.out 0; have h3 := HLN.out.1; simp at h1 h2 <;> omega, by have h1 := HLEN2.out 1; have h2 := HLEN3.out 1; have h3 := HLN.out.2.1; simp at h1 h2 <;> omega, by have h1 := HLEN2.out 2; have h2 := HLEN3.out 2; have h3 := HLN.out.2.2; simp at h1 h2 <;> omega⟩, by simp [intOf] <;> omega⟩
    · have hnot : ¬ (t : Int) < 3 := by omega
      obtain rfl : t = 3 := by omega
      have HL := Lib.hid hL
      clear hL
      go_wp2_with fail
      go_end0
      exact ⟨rfl, W2, HEW2.out, r', xs', its, HL.out, hl0, hl1, List.eq_nil_of_length_eq_zero hl2⟩
end Go.Proofs.Ytnppneilbkmnfaa
