/- Crash at both disks; the law's Pair.crashes. Condition: both stand at the same plain disk, apart; what is read is none of theirs. -/
import Derived.Test.YtnppneilbkmnfaaKA
namespace Go.Proofs.Ytnppneilbkmnfaa
open Go.RowKit

def intsV (l : List Int) : List Value := l.map (.int .i64 ·)
theorem qcrash_m (w : World) (q : Nat) (D : Dk) (G : Nat → Prop) (hQ : QDisk w q D G) (kv : Value) (keep : List Int) (hk : Reads w 1 kv keep.length (keep.map (.int .i64 ·))) (hkG : ∀ k, inFoot kv k → ¬ G k) (junk : UInt8) :
    Calls Try.prog 44 #[.pointer (some ⟨q, 0, none⟩), kv, .int .u8 junk.toNat] w fun e w' => ∃ v l, e = .returned (.tuple #[.agg #[v], .int .i64 D.crash.2]) ∧ l.map FI.pair = D.told keep junk ∧ ImgO w' v l ∧ (∀ k ∈ ibl v l, w.heap.size ≤ k) ∧ QDisk w' q D.crash.1 G ∧ Ext (One q) w w' := by
  cases ho : D.out
  · refine (qcrash_in_m w q D G hQ kv keep hk hkG junk ho).mono ?_
    rintro e w' ⟨v, l, rfl, h1, h2, h3, h4, h5⟩
    refine ⟨v, l, ?_, ?_, h2, h3, ?_, h5⟩
    · unfold Dk.crash; rw [ho]; rfl
    · unfold Dk.told; rw [ho]; exact h1
    · unfold Dk.crash; rw [ho]; exact h4
  · refine (qcrash_out_m w q D G hQ kv junk.toNat ho).mono ?_
    rintro e w' ⟨rfl, h1⟩
    refine ⟨.slice none 0 0, [], ?_, ?_, ImgO.nil _, by simp [ibl, footL, foot], ?_, h1.mono fun _ _ h => h.elim⟩
    · unfold Dk.crash; rw [ho]; rfl
    · unfold Dk.told; rw [ho]; rfl
    · unfold Dk.crash; rw [ho]; exact hQ.ext h1 fun _ _ h => h
/-- what a crash of one of the two leaves -/
def PCrashed (w : World) (d q : Nat) (K : Nat → Prop) (D E : Dk) (img : List (Nm × List UInt8)) (r : Int) (e : Ending) (w' : World) : Prop :=
  ∃ v l, e = .returned (.tuple #[.agg #[v], .int .i64 r]) ∧ l.map FI.pair = img ∧ ImgO w' v l ∧ (∀ k ∈ ibl v l, w.heap.size ≤ k) ∧ PQ w' d q D E K ∧ Ext K w w'
section
variable {w : World} {d q : Nat} {D E : Dk} {K : Nat → Prop} (h : PQ w d q D E K)
include h
theorem pq_crash (kv : Value) (keep : List Int) (hk : Reads w 1 kv keep.length (keep.map (.int .i64 ·))) (hkK : ∀ k, inFoot kv k → ¬ K k) (junk : UInt8) :
    Calls Try.prog 23 #[.pointer (some ⟨d, 0, none⟩), kv, .int .u8 junk.toNat] w (PCrashed w d q K D.crash.1 E (D.told keep junk) D.crash.2) := by
  obtain ⟨F, G, h1, h2, h3, h4⟩ := h
  refine (crash_m w d D F h1 kv keep hk (fun k hk hf => hkK k hk ((h4 k).2 (.inl hf))) junk).mono ?_
  rintro e w' ⟨v, l, rfl, hC⟩
  have hd : K d := (h4 d).2 (.inl h1.self)
  exact ⟨v, l, rfl, hC.pairs, hC.own, hC.new, ⟨F, G, hC.disk, h2.ext hC.ext fun k hg e => by have e : k = d := e; subst e; exact h3 k h1.self hg, h3, h4⟩, hC.ext.mono fun k _ e => by have e : k = d := e; rw [e]; exact hd⟩
theorem qq_crash (kv : Value) (keep : List Int) (hk : Reads w 1 kv keep.length (keep.map (.int .i64 ·))) (hkK : ∀ k, inFoot kv k → ¬ K k) (junk : UInt8) :
    Calls Try.prog 44 #[.pointer (some ⟨q, 0, none⟩), kv, .int .u8 junk.toNat] w (PCrashed w d q K D E.crash.1 (E.told keep junk) E.crash.2) := by
  obtain ⟨F, G, h1, h2, h3, h4⟩ := h
  refine (qcrash_m w q E G h2 kv keep hk (fun k hk hf => hkK k hk ((h4 k).2 (.inr hf))) junk).mono ?_
  rintro e w' ⟨v, l, rfl, c1, c2, c3, c4, c5⟩
  have hq : K q := (h4 q).2 (.inr h2.self)
  exact ⟨v, l, rfl, c1, c2, c3, ⟨F, G, h1.ext c5 fun k hf e => by have e : k = q := e; subst e; exact h3 k hf h2.self, c4, h3, h4⟩, c5.mono fun k _ e => by have e : k = q := e; rw [e]; exact hq⟩
end
theorem info_int : (Try.prog.info? 3).map (fun i => (i.zero, i.size, i.bytes)) = some (some (.int .i64 0), 1, 8) := by kernel_rfl
theorem intsV_one (l : List Int) : ∀ u ∈ intsV l, u.oneCell' = true := by
  intro u hu
  obtain ⟨i, -, rfl⟩ := List.mem_map.1 hu
  rfl
/-- append of numbers onto a row of such -/
theorem run_appendK {w : World} {v : Value} {l m : List Int} (hown : Own w 3 1 v l.length (intsV l)) {vx : Value} (hm : Reads w 1 vx m.length (intsV m)) (hfit : l.length + m.length ≤ 1099511627776) (ty : TypeId) :
    ∃ ao cap w', (Builtin.append_ #[39, 39] ty #[v, vx]).run Try.prog w = .ok (.slice ao (l.length + m.length) cap) w' ∧ Own w' 3 1 (.slice ao (l.length + m.length) cap) (l.length + m.length) (intsV (l ++ m)) ∧ Step (inFoot v) w (inFoot (.slice ao (l.length + m.length) cap)) w' := by
  obtain ⟨i, hi, hz, h1, h2⟩ := info_parts info_int
  obtain ⟨v', w', hr, h3, h4, h5⟩ := run_append (P := Try.prog) w 39 39 ty 3 i (.int .i64 0) 1 8 Try.underlying39 hi hz h1 h2 rfl v l.length (intsV l) hown vx m.length (intsV m) (Reads.src (P := Try.prog) hm Try.underlying39 (intsV_one m))
    (by unfold maxLen; omega) (by omega)
  obtain ⟨ao, cap, rfl, h6, h7⟩ := h3.shape
  refine ⟨ao, cap, w', hr, ?_, h4, h5⟩
  unfold intsV at h3 ⊢
  rw [List.map_append]
  exact h3
/-- a row of single cells, at one of them -/
theorem own1_at {w : World} {t : TypeId} {ao : Option Addr} {n cap : Nat} {xs : List Value} (h : Own w t 1 (.slice ao n cap) n xs) {k : Nat} (hk : k < n) :
    ∃ g c u, ao = some ⟨g, 0, none⟩ ∧ cap = c + 1 ∧ g < w.heap.size ∧ xs[k]? = some u ∧ w.cell? ⟨g, k, none⟩ = some u ∧ w.frozen? ⟨g, k, none⟩ = false ∧ ∀ v, Own (w.setCell ⟨g, k, none⟩ v) t 1 (.slice ao n cap) n (xs.set k v) := by
  rcases h.2 with ⟨ao', h1, h2⟩ | ⟨g, c, cs, h1, h2, h3, h4, h5, h6⟩
  · omega
  · simp only [Value.slice.injEq, true_and] at h1
    obtain ⟨rfl, rfl⟩ := h1
    have hlen := h.1
    rw [Nat.mul_one] at hlen h5 h6
    have hkl : k < xs.length := by omega
    have hkc : k < cs.length := by omega
    have he : cs[k]? = some xs[k] := by
      have : (cs.take n)[k]? = some xs[k] := by rw [h6]; exact List.getElem?_eq_getElem hkl
      rwa [List.getElem?_take, if_pos hk] at this
    refine ⟨g, c, xs[k], rfl, rfl, h2.lt, List.getElem?_eq_getElem hkl, h2.cell k he, h2.frozen k hkc, fun v => ⟨by rw [List.length_set, Nat.mul_one]; exact hlen, .inr ⟨g, c, cs.set k v, rfl, h2.set k v, h3, h4, by rw [List.length_set, Nat.mul_one]; exact h5, ?_⟩⟩⟩
    rw [Nat.mul_one, List.take_set, h6]
theorem Reads.pre {w : World} {ao : Option Addr} {n m cap : Nat} {xs ys : List Value} (h : Reads w 1 (.slice ao n cap) n (xs ++ ys)) (hm : xs.length = m) : Reads w 1 (.slice ao m cap) m xs := by
  obtain ⟨h1, ao', cap', e, h2, h3, h4⟩ := h
  simp only [Value.slice.injEq, true_and] at e
  obtain ⟨rfl, rfl⟩ := e
  rw [List.length_append, Nat.mul_one] at h1
  refine ⟨by omega, ao, cap, rfl, by omega, h3, fun hne => ?_⟩
  obtain ⟨b, off, h5, h6⟩ := h4 (by simp [hne])
  refine ⟨b, off, h5, fun j u hj => h6 j u ?_⟩
  rw [List.getElem?_append_left (List.getElem?_eq_some_iff.1 hj).1]
  exact hj
theorem foot_len {ao : Option Addr} {n m c : Nat} : inFoot (.slice ao n c) = inFoot (.slice ao m c) := by
  unfold inFoot foot
  cases ao <;> cases c <;> rfl

theorem keep_ends {w4 w8 : World} {g c : Nat} {ks : List Int} {K : Nat → Prop} (hO : Own w4 3 1 (.slice (some ⟨g, 0, none⟩) (ks.length + 2) (c + 1)) (ks.length + 2) (intsV (ks ++ [-71, -72]))) (e : Ext K w4 w8) (hg : ¬ K g) :
    Own w8 3 1 (.slice (some ⟨g, 0, none⟩) (ks.length + 2) (c + 1)) (ks.length + 2) (intsV (ks ++ [-71, -72])) ∧ w8.cell? ⟨g, ks.length, none⟩ = some (.int .i64 (-71)) ∧ w8.cell? ⟨g, ks.length + 1, none⟩ = some (.int .i64 (-72)) := by
  have hO8 := hO.ext e fun k hk hf => hg (by have hk : some g = some k := hk; rw [Option.some.inj hk]; exact hf)
  obtain ⟨g1, c1, u1, q1, q2, -, hu1, j1, -⟩ := own1_at hO8 (show ks.length < ks.length + 2 by omega)
  obtain ⟨g2, c2, u2, q3, q4, -, hu2, j3, -⟩ := own1_at hO8 (show ks.length + 1 < ks.length + 2 by omega)
  simp only [Option.some.injEq, Addr.mk.injEq, and_true] at q1 q3
  subst q1 q3
  have hu1' : (intsV (ks ++ [-71, -72]))[ks.length]? = some (.int .i64 (-71)) := by unfold intsV; rw [List.map_append, List.getElem?_append_right (by simp)]; simp
  have hu2' : (intsV (ks ++ [-71, -72]))[ks.length + 1]? = some (.int .i64 (-72)) := by unfold intsV; rw [List.map_append, List.getElem?_append_right (by simp)]; simp
  rw [hu1'] at hu1
  rw [hu2'] at hu2
  rw [← Option.some.inj hu1] at j1
  rw [← Option.some.inj hu2] at j3
  exact ⟨hO8, j1, j3⟩
/-- the box of a crash's image, made behind the crash -/
theorem box_late {w4 w5 : World} {d q : Nat} {D E : Dk} {K : Nat → Prop} {v : Value} {l : List FI} (hP : PQ w5 d q D E K) (hO : ImgO w5 v l) (e : Ext K w4 w5) :
    At (w5.alloc (.cells #[v] 36 (0, 0))) w5.heap.size 36 [v] ∧ ImgV (w5.alloc (.cells #[v] 36 (0, 0))) v l ∧ PQ (w5.alloc (.cells #[v] 36 (0, 0))) d q D E K ∧ Ext K w4 (w5.alloc (.cells #[v] 36 (0, 0))) ∧ w4.heap.size ≤ w5.heap.size ∧ w5.heap.size < (w5.alloc (.cells #[v] 36 (0, 0))).heap.size :=
  have e2 : Ext Nil w5 (w5.alloc (.cells #[v] 36 (0, 0))) := (Ext.refl _ _).alloc _
  ⟨At.new w5 [v] 36, (hO.ext e2 fun _ _ h => h).see, hP.ext0 e2, e.trans e2 fun _ _ h => h.elim, e.size, by simp⟩
/-- the box, made ahead of the crash -/
theorem box_early {w4 w5 : World} {d q : Nat} {D E : Dk} {K : Nat → Prop} {v : Value} {l : List FI} (hK : ∀ k, K k → k < w4.heap.size) (hP : PQ w5 d q D E K) (hO : ImgO w5 v l) (hn : ∀ k ∈ ibl v l, (w4.alloc (.cells #[.slice none 0 0] 36 (0, 0))).heap.size ≤ k) (e : Ext K (w4.alloc (.cells #[.slice none 0 0] 36 (0, 0))) w5) :
    At (w5.setCell ⟨w4.heap.size, 0, none⟩ v) w4.heap.size 36 [v] ∧ ImgV (w5.setCell ⟨w4.heap.size, 0, none⟩ v) v l ∧ PQ (w5.setCell ⟨w4.heap.size, 0, none⟩ v) d q D E K ∧ Ext K w4 (w5.setCell ⟨w4.heap.size, 0, none⟩ v) ∧ w4.heap.size ≤ w4.heap.size ∧ w4.heap.size < (w5.setCell ⟨w4.heap.size, 0, none⟩ v).heap.size ∧
      w5.cell? ⟨w4.heap.size, 0, none⟩ = some (.slice none 0 0) ∧ w5.frozen? ⟨w4.heap.size, 0, none⟩ = false := by
  have e2 : Ext (One w4.heap.size) w5 (w5.setCell ⟨w4.heap.size, 0, none⟩ v) := (Ext.refl (One w4.heap.size) w5).setCell (p := ⟨w4.heap.size, 0, none⟩) (fun _ => rfl) v
  have hs : (w4.alloc (.cells #[.slice none 0 0] 36 (0, 0))).heap.size = w4.heap.size + 1 := by simp
  have hA := (At.new w4 [.slice none 0 0] 36).ext e fun hk => by have := hK _ hk; omega
  have h5 := e.size
  rw [hs] at h5 hn
  refine ⟨hA.set 0 v, (hO.ext e2 fun k hk e => by have e : k = w4.heap.size := e; have := hn k hk; omega).see, hP.ext e2 fun k hk e => by have e : k = w4.heap.size := e; have := hK k hk; omega, ?_, Nat.le_refl _, by simp [World.setCell]; omega, hA.cell 0 rfl, hA.frozen 0⟩
  exact (((Ext.refl K w4).alloc _).same e).trans e2 fun i hi e => by have e : i = w4.heap.size := e; omega
set_option maxRecDepth 20000 in
set_option maxHeartbeats 2000000 in
theorem crashes_m (w : World) (d q : Nat) (D : Dk) (K : Nat → Prop) (h : PQ w d q D D K) (o : OpD) (B : List UInt8) (ks : List Int) (ho : OpOk w o B ks) (hoK : ∀ k, inFoot (.slice o.kx o.kn o.kc) k → ¬ K k) (hkl : ks.length ≤ 1073741824) :
    Calls Try.prog 81 #[.agg #[.pointer (some ⟨d, 0, none⟩), .pointer (some ⟨q, 0, none⟩)], .agg o.cells.toArray] w (Stepped w d q K D.crash.1) := by
  obtain ⟨KK, who, s, dx, dn, dc, N, t0, t1, t2, kx, kn, kc, junk⟩ := o
  obtain ⟨-, -, -, -, hkn, hkeep, hklt, hj⟩ := ho
  simp only [] at hkn hkeep hklt hoK hj
  subst hkn
  obtain ⟨jb, rfl⟩ : ∃ jb : UInt8, junk = (jb.toNat : Int) := ⟨UInt8.ofNat junk.toNat, by simp [UInt8.toNat_ofNat']; omega⟩
  unfold OpD.cells
  simp only []
  obtain ⟨W1, hW1⟩ : ∃ W1, W1 = w.alloc (.cells #[.pointer (some ⟨d, 0, none⟩), .pointer (some ⟨q, 0, none⟩)] 82 (0, 0)) := ⟨_, rfl⟩
  have e1 : Ext Nil w W1 := by rw [hW1]; exact (Ext.refl _ _).alloc _
  have a1 : At W1 w.heap.size 82 [.pointer (some ⟨d, 0, none⟩), .pointer (some ⟨q, 0, none⟩)] := by rw [hW1]; exact At.new w [.pointer (some ⟨d, 0, none⟩), .pointer (some ⟨q, 0, none⟩)] 82
  have s1 : W1.heap.size = w.heap.size + 1 := by rw [hW1]; simp
  obtain ⟨W2, hW2⟩ : ∃ W2, W2 = W1.alloc (.cells #[.int .i64 KK, .int .i64 who, .string s, .slice dx dn dc, .int .i64 N, .int .i64 t0, .int .i64 t1, .bool t2, .slice kx ks.length kc, .int .u8 (jb.toNat : Int)] 47 (0, 0)) := ⟨_, rfl⟩
  have e2 : Ext Nil W1 W2 := by rw [hW2]; exact (Ext.refl _ _).alloc _
  have a2 : At W2 W1.heap.size 47 [.int .i64 KK, .int .i64 who, .string s, .slice dx dn dc, .int .i64 N, .int .i64 t0, .int .i64 t1, .bool t2, .slice kx ks.length kc, .int .u8 (jb.toNat : Int)] := by rw [hW2]; exact At.new W1 [.int .i64 KK, .int .i64 who, .string s, .slice dx dn dc, .int .i64 N, .int .i64 t0, .int .i64 t1, .bool t2, .slice kx ks.length kc, .int .u8 (jb.toNat : Int)] 47
  rw [s1] at a2
  have s2 : W2.heap.size = w.heap.size + 2 := by rw [hW2]; simp [s1]
  have eW := e1.same e2
  have a1 := a1.ext e2 fun h => h
  have hKr := hkeep.ext eW fun _ _ h => h
  obtain ⟨ao3, cap3, w3, hrun3, O3, S3⟩ := run_appendK (w := W2) (v := .slice none 0 0) (l := []) (m := ks) (Own.nil _ _ _) hKr (by simp; omega) 39
  simp only [List.length_nil, Nat.zero_add, List.nil_append] at hrun3 O3 S3
  have S3 : Step Nil W2 (inFoot (.slice ao3 ks.length cap3)) w3 := ⟨S3.1.mono (fun i _ h => by simp [inFoot, foot] at h), fun i hi => (S3.2 i hi).imp (fun h => by simp [inFoot, foot] at h) id⟩
  have eT : Ext Nil w3 (w3.alloc (.cells #[.int .i64 (-71), .int .i64 (-72)] 3 (0, 0))) := (Ext.refl _ _).alloc _
  have hT : Reads (w3.alloc (.cells #[.int .i64 (-71), .int .i64 (-72)] 3 (0, 0))) 1 (.slice (some ⟨w3.heap.size, 0, none⟩) 2 2) 2 (intsV [-71, -72]) :=
    ⟨rfl, _, _, rfl, Nat.le_refl _, by simp [maxLen], fun _ => ⟨_, _, rfl, fun j u hj => by rw [Nat.zero_add]; exact (At.new w3 [.int .i64 (-71), .int .i64 (-72)] 3).cell j hj⟩⟩
  obtain ⟨ao4, cap4, w4, hrun4, O4, S4⟩ := run_appendK (w := w3.alloc (.cells #[.int .i64 (-71), .int .i64 (-72)] 3 (0, 0))) (l := ks) (m := [-71, -72]) (O3.ext eT fun _ _ h => h) hT (by simp; omega) 39
  simp only [List.length_cons, List.length_nil, Nat.zero_add, Nat.reduceAdd] at hrun4 O4 S4
  have hnew3 : ∀ i, inFoot (.slice ao3 ks.length cap3) i → w.heap.size + 2 ≤ i := fun i hi => by have := (S3.2 i hi).resolve_left fun h => h; omega
  have hz3 := S3.1.size
  have hzT := eT.size
  have hz4 := S4.1.size
  have hnew4 : ∀ i, inFoot (.slice ao4 (ks.length + 2) cap4) i → w.heap.size + 2 ≤ i ∧ i < w4.heap.size := fun i hi => ⟨by
    rcases S4.2 i hi with h | h
    · exact hnew3 i h
    · omega, O4.lt i hi⟩
  have e4 : Ext Nil w w4 := ((eW.same S3.1).same eT).trans S4.1 fun i hi hf => by have := hnew3 i hf; omega
  have b1 := ((a1.ext S3.1 fun h => h).ext eT fun h => h).ext S4.1 fun hf => by have := hnew3 _ hf; omega
  have b2 := ((a2.ext S3.1 fun h => h).ext eT fun h => h).ext S4.1 fun hf => by have := hnew3 _ hf; omega
  obtain ⟨g4, c4, rfl, rfl, hg4⟩ := own_head O4 (by omega)
  have p0 := b1.cell 0 rfl
  have p1 := b1.cell 1 rfl
  have o8 := b2.cell 8 rfl
  have o9 := b2.cell 9 rfl
  have z8 := a2.cell 8 rfl
  have x8 := (a2.ext S3.1 fun h => h).cell 8 rfl
  have HP4 := Lib.hid (h.ext0 e4); have HP0 := Lib.hid h; have HE4 := Lib.hid e4; have HB1 := Lib.hid b1; have HB2 := Lib.hid b2; have HO4 := Lib.hid O4; have HN4 := Lib.hid hnew4; have HKR := Lib.hid hkeep; have HKLT := Lib.hid hklt; have HOK := Lib.hid hoK
  have hle4 : ks.length ≤ c4 + 1 := by obtain ⟨_, _, e, h, _⟩ := Own.shape O4; simp only [Value.slice.injEq] at e; omega
  have HZ := Lib.hid (show w.heap.size + 2 ≤ w4.heap.size by omega)
  clear e1 e2 a1 a2 s1 s2 eW hKr O3 S3 eT hT O4 S4 hnew3 hz3 hzT hz4 hnew4 e4 b1 b2 h hkeep hklt hoK hj
  subst hW2 hW1
  go_enter Try.func81, Try.ntmps81
  go_wp2_with (first
    | (at_builtin; refine wpList_append_run rfl (.tmp 12) (.tmp 14) 39 39 rfl _ _ _ rfl rfl hrun3 ?_; clear z8)
    | (at_builtin; refine wpList_append_run rfl (.tmp 16) (.tmp 17) 39 39 rfl _ _ _ rfl rfl hrun4 ?_; clear x8))
  have HPC := Lib.hid (pq_crash (HP4.out.ext0 (Ext.refl Nil w4).drew) (.slice (some ⟨g4, 0, none⟩) ks.length (c4 + 1)) ks (Reads.pre (ys := intsV [-71, -72]) (by have := Own.reads (HO4.out.ext (F := Nil) (Ext.refl Nil w4).drew fun _ _ h => h); unfold intsV at this; rw [List.map_append] at this; exact this) (by simp)) (fun k hk => by rw [foot_len (m := ks.length + 2)] at hk; have := (HN4.out k hk).1; exact fun h => by have := HP0.out.lt k h; omega) jb)
  have HPC2 := Lib.hid (pq_crash (HP4.out.ext0 ((Ext.refl Nil w4).drew.alloc (.cells #[.slice none 0 0] 36 (0, 0)))) (.slice (some ⟨g4, 0, none⟩) ks.length (c4 + 1)) ks (Reads.pre (ys := intsV [-71, -72]) (by have := Own.reads (HO4.out.ext (F := Nil) ((Ext.refl Nil w4).drew.alloc (.cells #[.slice none 0 0] 36 (0, 0))) fun _ _ h => h); unfold intsV at this; rw [List.map_append] at this; exact this) (by simp)) (fun k hk => by rw [foot_len (m := ks.length + 2)] at hk; have := (HN4.out k hk).1; exact fun h => by have := HP0.out.lt k h; omega) jb)
  have hle5 : ¬ (c4 : Int) + 1 < (ks.length : Int) := by omega
  clear hrun3 hrun4
  refine wp_region_held_drew (S := fun w' => w'.cell? ⟨w.heap.size, 0, none⟩ = some (.pointer (some ⟨d, 0, none⟩)) ∧ w'.cell? ⟨w.heap.size + 1, 9, none⟩ = some (.int .u8 (jb.toNat : Int))) (by kernel_rfl) ⟨p0, o9⟩ (fun hHeld => ?_)
  refine wpAnyH_take (i := 0) (v := .pointer (some ⟨w.heap.size, 0, none⟩)) rfl (by kernel_rfl) (by kernel_rfl) (by kernel_rfl) (fun _ _ _ h => h) (Or.inl ⟨by rfl, ?y1⟩) (by assumption) ?r1
  case y1 => (intro w hSw; obtain ⟨s1, s2⟩ := hSw; go_simp)
  simp only [Act.put]
  refine wpAnyH_take (i := 1) (v := .pointer (some ⟨d, 0, none⟩)) rfl (by kernel_rfl) (by kernel_rfl) (by kernel_rfl) (fun _ _ _ h => h) (Or.inl ⟨by rfl, ?y2⟩) (by assumption) ?r2
  case y2 => (intro w hSw; obtain ⟨s1, s2⟩ := hSw; go_simp)
  simp only [Act.put]
  refine wpAnyH_take (i := 2) (v := .slice (some ⟨g4, 0, none⟩) (ks.length + 2) (c4 + 1)) rfl (by kernel_rfl) (by kernel_rfl) (by kernel_rfl) (fun _ _ _ h => h) (Or.inl ⟨by rfl, ?y3⟩) (by assumption) ?r3
  case y3 => (intro w hSw; obtain ⟨s1, s2⟩ := hSw; go_simp)
  simp only [Act.put]
  refine wpAnyH_take (i := 3) (v := .int .i64 ks.length) rfl (by kernel_rfl) (by kernel_rfl) (by kernel_rfl) (fun _ _ _ h => h) (Or.inl ⟨by rfl, ?y4⟩) (by assumption) ?r4
  case y4 => (intro w hSw; obtain ⟨s1, s2⟩ := hSw; go_simp)
  simp only [Act.put]
  refine wpAnyH_take (i := 4) (v := .slice (some ⟨g4, 0, none⟩) ks.length (c4 + 1)) rfl (by kernel_rfl) (by kernel_rfl) (by kernel_rfl) (fun _ _ _ h => h) (Or.inl ⟨by rfl, ?y5⟩) (by assumption) ?r5
  case y5 => (intro w hSw; obtain ⟨s1, s2⟩ := hSw; go_simp)
  simp only [Act.put]
  refine wpAnyH_take (i := 5) (v := .pointer (some ⟨w.heap.size + 1, 9, none⟩)) rfl (by kernel_rfl) (by kernel_rfl) (by kernel_rfl) (fun _ _ _ h => h) (Or.inl ⟨by rfl, ?y6⟩) (by assumption) ?r6
  case y6 => (intro w hSw; obtain ⟨s1, s2⟩ := hSw; go_simp)
  simp only [Act.put]
  refine wpAnyH_take (i := 6) (v := .int .u8 (jb.toNat : Int)) rfl (by kernel_rfl) (by kernel_rfl) (by kernel_rfl) (fun _ _ _ h => h) (Or.inl ⟨by rfl, ?y7⟩) (by assumption) ?r7
  case y7 => (intro w hSw; obtain ⟨s1, s2⟩ := hSw; go_simp)
  simp only [Act.put]
  refine wpAnyH_ready (rs := [7, 11]) (by kernel_rfl) (by simp) (AllReadyH.cons rfl (fun KK' hK => ?o7) (AllReadyH.cons rfl (fun KK' hK => ?o11) AllReadyH.nil))
  case o7 =>
    go_simp
    refine (HPC.out).mono ?_
    rintro e w5 ⟨v1, l1, rfl, c1, c2, c3, c4', c5⟩
    have c5 : Ext K w4 w5 := ((Ext.refl K w4).drew).same c5
    have c3 : ∀ k ∈ ibl v1 l1, w4.heap.size ≤ k := c3
    have hbx := box_late (w4 := w4) c4' c2 c5
    have HINX := Lib.hid c3; have HALX := Lib.hid c5.size; have HIN := Lib.hid (fun k (hk : k ∈ ibl v1 l1) => Nat.le_trans HZ.out (c3 k hk)); have HAL := Lib.hid (show w.heap.size ≤ w5.heap.size from Nat.le_trans (Nat.le_trans (Nat.le_add_right _ _) HZ.out) c5.size)
    obtain ⟨va1, vc1, rfl, -, -⟩ := c2.see.shape
    have HC0 := Lib.hid c1
    have HA6 := Lib.hid hbx.1; have HI6 := Lib.hid hbx.2.1; have HP6 := Lib.hid hbx.2.2.1; have HX6 := Lib.hid hbx.2.2.2.1
    clear hbx
    have HC5 := Lib.hid c5
    clear c1 c2 c3 c4' c5
    go_wp2_with fail
    refine hK.out _ _ ⟨HC5.out.cell p0 (fun hk => by have := HP0.out.lt _ hk; exact absurd this (Nat.lt_irrefl _)), HC5.out.cell o9 (fun hk => by have := HP0.out.lt _ hk; exact absurd this (Nat.not_lt.2 (Nat.le_succ _)))⟩ (fun hHeld => ?_)
    clear hK KK'
    refine wpAnyH_take (i := 8) (v := .tuple #[.agg #[.slice va1 l1.length vc1], .int .i64 D.crash.2]) rfl (by kernel_rfl) (by kernel_rfl) (by kernel_rfl) (fun _ _ _ h => h) (Or.inl ⟨by rfl, ?y8⟩) (by assumption) ?r8
    case y8 => (intro w hSw; obtain ⟨s1, s2⟩ := hSw; go_simp)
    simp only [Act.put]
    refine wpAnyH_take (i := 9) (v := .agg #[.slice va1 l1.length vc1]) rfl (by kernel_rfl) (by kernel_rfl) (by kernel_rfl) (fun _ _ _ h => h) (Or.inl ⟨by rfl, ?y9⟩) (by assumption) ?r9
    case y9 => (intro w hSw; obtain ⟨s1, s2⟩ := hSw; go_simp)
    simp only [Act.put]
    refine wpAnyH_take (i := 10) (v := .int .i64 D.crash.2) rfl (by kernel_rfl) (by kernel_rfl) (by kernel_rfl) (fun _ _ _ h => h) (Or.inl ⟨by rfl, ?y10⟩) (by assumption) ?r10
    case y10 => (intro w hSw; obtain ⟨s1, s2⟩ := hSw; go_simp)
    simp only [Act.put]
    refine wpAnyH_ready (rs := [11]) (by kernel_rfl) (by simp) (AllReadyH.cons rfl (fun KK' hK => ?_) AllReadyH.nil)
    go_simp
    refine hK.out _ _ ⟨((Ext.refl Nil w5).alloc _).cell hHeld.1 fun h => h, ((Ext.refl Nil w5).alloc _).cell hHeld.2 fun h => h⟩ (fun hHeld2 => ?_)
    clear hK KK'
    refine wpAnyH_ready (rs := [12]) (by kernel_rfl) (by simp) (AllReadyH.cons rfl (fun KK' hK => ?_) AllReadyH.nil)
    go_simp
    refine hK.out _ _ ⟨((Ext.refl Nil w5).alloc _).cell hHeld.1 fun h => h, ((Ext.refl Nil w5).alloc _).cell hHeld.2 fun h => h⟩ (fun hHeld3 => ?_)
    clear hK KK'
    refine wpAnyH_take (i := 13) (v := .int .i64 D.crash.2) rfl (by kernel_rfl) (by kernel_rfl) (by kernel_rfl) (fun _ _ _ h => h) (Or.inl ⟨by rfl, ?y11⟩) (by assumption) ?r11
    case y11 => (intro w hSw; obtain ⟨s1, s2⟩ := hSw; go_simp)
    simp only [Act.put]
    refine wpAnyH_done (by kernel_rfl) ?_ _
    clear hHeld hHeld2 hHeld3
    generalize w5.alloc (.cells #[.slice va1 l1.length vc1] 36 (0, 0)) = w6 at *
    have hH := (HKR.out.ext (F := K) (HE4.out.mono fun _ _ h => h.elim) HOK.out).ext HX6.out HOK.out
    have hK4 : ∀ k, K k → k < w.heap.size := HP0.out.lt
    have o86 := (HB2.out.ext HX6.out fun hk => by have := hK4 _ hk; omega).cell 8 rfl
    have o96 := (HB2.out.ext HX6.out fun hk => by have := hK4 _ hk; omega).cell 9 rfl
    have p16 := (HB1.out.ext HX6.out fun hk => by have := hK4 _ hk; omega).cell 1 rfl
    have HQC := Lib.hid (qq_crash HP6.out (.slice kx ks.length kc) ks hH HOK.out jb)
    have HGK4 := Lib.hid (show ¬ K g4 from fun hk => by have := (HN4.out g4 rfl).1; have := hK4 _ hk; omega); have w71 : IntKind.i64.wrap ((ks.length : Int) + 1) = ((ks.length + 1 : Nat) : Int) := (by rw [IntWalk.i64_in _ (by omega)]; omega); have HK4 := Lib.hid hK4; have HKR6 := Lib.hid hH
    clear hK4 hH
    go_wp2_with (go_at_call 44; refine (HQC.out).mono ?_; rintro e w7 ⟨v2, l2, rfl, c1, c2, c3, c4', c5⟩; have HIN2 := Lib.hid (fun k (hk : k ∈ ibl v2 l2) => Nat.le_trans HX6.out.size (c3 k hk)); have HQ7 := Lib.hid (box_late (w4 := w6) c4' c2 c5); have HC1 := Lib.hid c1; obtain ⟨va2, vc2, rfl, -, -⟩ := c2.see.shape; have HKE := Lib.hid (keep_ends HO4.out (HX6.out.same HQ7.out.2.2.2.1) HGK4.out); have j1 := HKE.out.2.1; have j3 := HKE.out.2.2; clear c1 c2 c3 c4' c5)
    have h8a := HQ7.out.1
    have h8i := HQ7.out.2.1
    have h8p := HQ7.out.2.2.1
    have h8x := HQ7.out.2.2.2.1
    have h8s := HQ7.out.2.2.2.2.1
    generalize w7.alloc (.cells #[.slice va2 l2.length vc2] 36 (0, 0)) = w8 at *
    have hk8 : ∀ k, K k → k < w.heap.size := HK4.out
    have hz := HZ.out
    have hw46 := HX6.out.size
    have hO8 := HKE.out.1
    have hA8 := HA6.out.ext h8x fun hk => by have := hk8 _ hk; have := HAL.out; omega
    have hV8 := HI6.out.ext h8x fun i hi hk => by have := HIN.out i hi; have := hk8 i hk; omega
    have hB8 := (HB2.out.ext HX6.out fun hk => by have := hk8 _ hk; omega).ext h8x fun hk => by have := hk8 _ hk; omega
    have hR8 := HKR6.out.ext h8x HOK.out
    have hx8 : Ext K w w8 := ((HE4.out.mono fun _ _ h => h.elim).same HX6.out).same h8x
    have HO8 := Lib.hid hO8; have HA8 := Lib.hid hA8; have HV8 := Lib.hid hV8; have HB8 := Lib.hid hB8; have HR8 := Lib.hid hR8; have HX8 := Lib.hid hx8; have H8A := Lib.hid h8a; have H8I := Lib.hid h8i; have H8P := Lib.hid h8p
    have HGA := Lib.hid (show ¬ w5.heap.size = g4 from fun e => by have := (HN4.out g4 rfl).2; have := HALX.out; omega)
    have HGB := Lib.hid (show ¬ w7.heap.size = g4 from fun e => by have := (HN4.out g4 rfl).2; omega)
    have HIG := Lib.hid (show ∀ k ∈ ibl (.slice va1 l1.length vc1) l1, k ≠ g4 from fun k hk e => by have := (HN4.out g4 rfl).2; have := HINX.out k hk; omega)
    have HIG2 := Lib.hid (show ∀ k ∈ ibl (.slice va2 l2.length vc2) l2, k ≠ g4 from fun k hk e => by have := (HN4.out g4 rfl).2; have := HIN2.out k hk; omega)
    have HGK := Lib.hid (show ∀ k, K k → k ≠ g4 from fun k hk e => by have := (HN4.out g4 rfl).1; have := hk8 k hk; omega)
    clear hO8 hA8 hV8 hB8 hR8 hx8 h8a h8i h8p h8x h8s hk8 hw46 hz j1 j3 w71
    go_loopw [11] (fun i wr => ∃ (k : Nat) (xs : List Int), i = .int .i64 (k : Int) ∧ k ≤ ks.length ∧ (∀ j, k ≤ j → j < ks.length → xs[j]? = ks[j]?) ∧ Own wr 3 1 (.slice (some ⟨g4, 0, none⟩) (ks.length + 2) (c4 + 1)) (ks.length + 2) (intsV xs) ∧ Ext (One g4) w8 wr) (fun i _ => ks.length - (intOf i).toNat)
    case atStart => exact ⟨0, ks ++ [-71, -72], rfl, Nat.zero_le _, (fun j _ hj => by rw [List.getElem?_append_left hj]), HO8.out, Ext.refl _ _⟩
    case round =>
      obtain ⟨k, xs, rfl, hk, hsame, hown, hext⟩ := hrel
      have hbO := HB8.out.ext hext (fun e => by have e : w.heap.size + 1 = g4 := e; have := (HN4.out g4 rfl).1; omega)
      have y8 := hbO.cell 8 rfl
      by_cases hlt : k < ks.length
      · obtain ⟨g', c', u, q1, q2, -, hu, i1, i2, hset⟩ := own1_at hown (show k < ks.length + 2 by omega)
        simp only [Option.some.injEq, Addr.mk.injEq, and_true] at q1
        subst q1
        have hxk : xs[k]? = some ks[k] := by rw [hsame k (Nat.le_refl _) hlt]; exact List.getElem?_eq_getElem hlt
        have hu2 : (intsV xs)[k]? = some (.int .i64 ks[k]) := by unfold intsV; rw [List.getElem?_map, hxk]; rfl
        rw [hu2] at hu
        rw [← Option.some.inj hu] at i1
        obtain ⟨kb, ko, rfl, hkat⟩ := HKR.out.intsAt (by intro e; rw [e] at hlt; simp at hlt)
        have hkw := hkat k hlt
        have hkbl : kb < w.heap.size := (cell_spot hkw).2
        obtain ⟨kb', ko', hke, hkat8⟩ := HR8.out.intsAt (by intro e; rw [e] at hlt; simp at hlt)
        simp only [Option.some.injEq, Addr.mk.injEq, and_true] at hke
        obtain ⟨rfl, rfl⟩ := hke
        have kc8 := hext.cell (hkat8 k hlt) (fun e => by have e : kb = g4 := e; have := (HN4.out g4 rfl).1; omega)
        have hsetk := hset (.int .i64 9)
        have hiv : (intsV xs).set k (.int .i64 9) = intsV (xs.set k 9) := by unfold intsV; rw [List.map_set]
        rw [hiv] at hsetk
        have hsm : ∀ j, k + 1 ≤ j → j < ks.length → (xs.set k 9)[j]? = ks[j]? := fun j h1 h2 => by rw [List.getElem?_set_ne (by omega)]; exact hsame j (by omega) h2
        have hsetn := fun n => hsetk.ext (F := Nil) ((Ext.refl Nil _).drewN n) fun _ _ h => h
        have heq : ((ks[k] : Int) != ks[k]) = false := by simp
        have HSN := Lib.hid hsetn; have HSM := Lib.hid hsm; have HXT := Lib.hid hext
        clear hset hsetk hiv hsetn hsm hext hown hsame hxk hu hu2 hkat hkat8 hkw
        generalize ks[k] = kk at *
        go_wp2_with fail
        go_quiet (fail)
        go_wp2_with fail
        exact ⟨⟨k + 1, xs.set k 9, by first | rfl | go_num, by omega, HSM.out, HSN.out _, (HXT.out.drewN _).setCell (p := ⟨g4, k, none⟩) (fun _ => rfl) _⟩, by simp [intOf]; omega⟩
      · obtain rfl : k = ks.length := by omega
        have hnot : ¬ ((ks.length : Nat) : Int) < (ks.length : Int) := by omega
        have hA := (HA8.out.ext hext fun e => HGA.out e).cell 0 rfl
        have hA2 := (H8A.out.ext hext fun e => HGB.out e).cell 0 rfl
        have hV := HV8.out.ext hext fun k hk e => HIG.out k hk e
        have hV2 := H8I.out.ext hext fun k hk e => HIG2.out k hk e
        have HSI := Lib.hid (sameImage_m wr (.slice va1 l1.length vc1) (.slice va2 l2.length vc2) l1 l2 hV hV2)
        have HPE := Lib.hid (H8P.out.ext hext fun k hk e => HGK.out k hk e)
        have HXE := Lib.hid (HX8.out.trans hext fun i hi e => by have e : i = g4 := e; have := (HN4.out g4 rfl).1; omega)
        have HEQ := Lib.hid (show decide (l1.map FI.pair = l2.map FI.pair) = true from decide_eq_true (by rw [HC0.out, HC1.out]))
        have hcc : (D.crash.2 == D.crash.2) = true := by simp
        clear hext hown hsame hV hV2
        go_wp2_with (first
          | (go_at_call 18; refine (num_any _ _).mono ?_; rintro e w' ⟨rfl, rfl⟩)
          | (go_at_call 35; refine (HSI.out).mono ?_; rintro e w9 ⟨rfl, e9⟩; rw [HEQ.out]; have HP9 := Lib.hid (HPE.out.ext0 e9); have HX9 := Lib.hid (HXE.out.trans e9 fun _ _ h => h.elim); clear e9))
        go_ret
        exact ⟨rfl, K, HP9.out, HX9.out, fun k hk => .inl hk⟩
  case o11 =>
    go_simp
    refine hK.out _ _ ⟨((Ext.refl Nil w4).drew.alloc _).cell p0 fun h => h, ((Ext.refl Nil w4).drew.alloc _).cell o9 fun h => h⟩ (fun hHeld1 => ?_)
    clear hK KK'
    refine wpAnyH_ready (rs := [7]) (by kernel_rfl) (by simp) (AllReadyH.cons rfl (fun KK' hK => ?_) AllReadyH.nil)
    go_simp
    refine (HPC2.out).mono ?_
    rintro e w5 ⟨v1, l1, rfl, c1, c2, c3, c4', c5⟩
    have hbx := box_early (w4 := w4.drew) HP4.out.lt c4' c2 c3 c5
    rw [show w4.drew.heap.size = w4.heap.size from rfl] at hbx
    have HINX := Lib.hid (fun k (hk : k ∈ ibl v1 l1) => by have h9 := c3 k hk; have h8 : w4.heap.size + 1 = (w4.drew.alloc (.cells #[.slice none 0 0] 36 (0, 0))).heap.size := (by simp); exact (show w4.heap.size ≤ k by omega)); have HALX := Lib.hid (Nat.le_refl w4.heap.size); have HIN := Lib.hid (fun k (hk : k ∈ ibl v1 l1) => by have h9 := c3 k hk; have h8 : w4.heap.size + 1 = (w4.drew.alloc (.cells #[.slice none 0 0] 36 (0, 0))).heap.size := (by simp); have := HZ.out; exact (show w.heap.size + 2 ≤ k by omega)); have HAL := Lib.hid (show w.heap.size ≤ w4.heap.size from Nat.le_trans (Nat.le_add_right _ _) HZ.out)
    obtain ⟨va1, vc1, rfl, -, -⟩ := c2.see.shape
    have HC0 := Lib.hid c1
    have HA6 := Lib.hid hbx.1; have HI6 := Lib.hid hbx.2.1; have HP6 := Lib.hid hbx.2.2.1; have HX6 := Lib.hid ((show Ext K w4 _ from ((Ext.refl K w4).drew).same hbx.2.2.2.1))
    have y7 := hbx.2.2.2.2.2.2.1
    have y8 := hbx.2.2.2.2.2.2.2
    have y7 : w5.cell? ⟨w4.heap.size, 0, none⟩ = some (.slice none 0 0) := y7
    have y8 : w5.frozen? ⟨w4.heap.size, 0, none⟩ = false := y8
    have hk1 : w5.cell? ⟨w.heap.size, 0, none⟩ = some (.pointer (some ⟨d, 0, none⟩)) := c5.cell hHeld1.1 (fun hk => by have := HP0.out.lt _ hk; exact absurd this (Nat.lt_irrefl _))
    have hk2 : w5.cell? ⟨w.heap.size + 1, 9, none⟩ = some (.int .u8 (jb.toNat : Int)) := c5.cell hHeld1.2 (fun hk => by have := HP0.out.lt _ hk; exact absurd this (Nat.not_lt.2 (Nat.le_succ _)))
    have HKK := Lib.hid (And.intro hk1 hk2)
    clear hbx c1 c2 c3 c4' c5 hk1 hk2
    go_wp2_with fail
    refine hK.out _ _ HKK.out (fun hHeld2 => ?_)
    clear hK KK'
    refine wpAnyH_take (i := 8) (v := .tuple #[.agg #[.slice va1 l1.length vc1], .int .i64 D.crash.2]) rfl (by kernel_rfl) (by kernel_rfl) (by kernel_rfl) (fun _ _ _ h => h) (Or.inl ⟨by rfl, ?y12⟩) (by assumption) ?r12
    case y12 => (intro w hSw; obtain ⟨s1, s2⟩ := hSw; go_simp)
    simp only [Act.put]
    refine wpAnyH_take (i := 9) (v := .agg #[.slice va1 l1.length vc1]) rfl (by kernel_rfl) (by kernel_rfl) (by kernel_rfl) (fun _ _ _ h => h) (Or.inl ⟨by rfl, ?y13⟩) (by assumption) ?r13
    case y13 => (intro w hSw; obtain ⟨s1, s2⟩ := hSw; go_simp)
    simp only [Act.put]
    refine wpAnyH_take (i := 10) (v := .int .i64 D.crash.2) rfl (by kernel_rfl) (by kernel_rfl) (by kernel_rfl) (fun _ _ _ h => h) (Or.inl ⟨by rfl, ?y14⟩) (by assumption) ?r14
    case y14 => (intro w hSw; obtain ⟨s1, s2⟩ := hSw; go_simp)
    simp only [Act.put]
    refine wpAnyH_ready (rs := [12]) (by kernel_rfl) (by simp) (AllReadyH.cons rfl (fun KK' hK => ?_) AllReadyH.nil)
    go_simp
    have n0 : (⟨w4.heap.size, 0, none⟩ : Addr) ≠ ⟨w.heap.size, 0, none⟩ := by intro e; simp only [Addr.mk.injEq] at e; have := HZ.out; omega
    have n1 : (⟨w4.heap.size, 0, none⟩ : Addr) ≠ ⟨w.heap.size + 1, 9, none⟩ := by intro e; simp only [Addr.mk.injEq] at e; have := HZ.out; omega
    refine hK.out _ _ ⟨(World.cell?_setCell_other _ _ _ _ n0).trans HKK.out.1, (World.cell?_setCell_other _ _ _ _ n1).trans HKK.out.2⟩ (fun hHeld3 => ?_)
    clear hK KK'
    refine wpAnyH_take (i := 13) (v := .int .i64 D.crash.2) rfl (by kernel_rfl) (by kernel_rfl) (by kernel_rfl) (fun _ _ _ h => h) (Or.inl ⟨by rfl, ?y15⟩) (by assumption) ?r15
    case y15 => (intro w hSw; obtain ⟨s1, s2⟩ := hSw; go_simp)
    simp only [Act.put]
    refine wpAnyH_done (by kernel_rfl) ?_ _
    clear hHeld hHeld1 hHeld2 hHeld3 n0 n1 y7 y8
    generalize w5.setCell ⟨w4.heap.size, 0, none⟩ (.slice va1 l1.length vc1) = w6 at *
    have hH := (HKR.out.ext (F := K) (HE4.out.mono fun _ _ h => h.elim) HOK.out).ext HX6.out HOK.out
    have hK4 : ∀ k, K k → k < w.heap.size := HP0.out.lt
    have o86 := (HB2.out.ext HX6.out fun hk => by have := hK4 _ hk; omega).cell 8 rfl
    have o96 := (HB2.out.ext HX6.out fun hk => by have := hK4 _ hk; omega).cell 9 rfl
    have p16 := (HB1.out.ext HX6.out fun hk => by have := hK4 _ hk; omega).cell 1 rfl
    have HQC := Lib.hid (qq_crash HP6.out (.slice kx ks.length kc) ks hH HOK.out jb)
    have HGK4 := Lib.hid (show ¬ K g4 from fun hk => by have := (HN4.out g4 rfl).1; have := hK4 _ hk; omega); have w71 : IntKind.i64.wrap ((ks.length : Int) + 1) = ((ks.length + 1 : Nat) : Int) := (by rw [IntWalk.i64_in _ (by omega)]; omega); have HK4 := Lib.hid hK4; have HKR6 := Lib.hid hH
    clear hK4 hH
    go_wp2_with (go_at_call 44; refine (HQC.out).mono ?_; rintro e w7 ⟨v2, l2, rfl, c1, c2, c3, c4', c5⟩; have HIN2 := Lib.hid (fun k (hk : k ∈ ibl v2 l2) => Nat.le_trans HX6.out.size (c3 k hk)); have HQ7 := Lib.hid (box_late (w4 := w6) c4' c2 c5); have HC1 := Lib.hid c1; obtain ⟨va2, vc2, rfl, -, -⟩ := c2.see.shape; have HKE := Lib.hid (keep_ends HO4.out (HX6.out.same HQ7.out.2.2.2.1) HGK4.out); have j1 := HKE.out.2.1; have j3 := HKE.out.2.2; clear c1 c2 c3 c4' c5)
    have h8a := HQ7.out.1
    have h8i := HQ7.out.2.1
    have h8p := HQ7.out.2.2.1
    have h8x := HQ7.out.2.2.2.1
    have h8s := HQ7.out.2.2.2.2.1
    generalize w7.alloc (.cells #[.slice va2 l2.length vc2] 36 (0, 0)) = w8 at *
    have hk8 : ∀ k, K k → k < w.heap.size := HK4.out
    have hz := HZ.out
    have hw46 := HX6.out.size
    have hO8 := HKE.out.1
    have hA8 := HA6.out.ext h8x fun hk => by have := hk8 _ hk; have := HAL.out; omega
    have hV8 := HI6.out.ext h8x fun i hi hk => by have := HIN.out i hi; have := hk8 i hk; omega
    have hB8 := (HB2.out.ext HX6.out fun hk => by have := hk8 _ hk; omega).ext h8x fun hk => by have := hk8 _ hk; omega
    have hR8 := HKR6.out.ext h8x HOK.out
    have hx8 : Ext K w w8 := ((HE4.out.mono fun _ _ h => h.elim).same HX6.out).same h8x
    have HO8 := Lib.hid hO8; have HA8 := Lib.hid hA8; have HV8 := Lib.hid hV8; have HB8 := Lib.hid hB8; have HR8 := Lib.hid hR8; have HX8 := Lib.hid hx8; have H8A := Lib.hid h8a; have H8I := Lib.hid h8i; have H8P := Lib.hid h8p
    have HGA := Lib.hid (show ¬ w4.heap.size = g4 from fun e => by have := (HN4.out g4 rfl).2; have := HALX.out; omega)
    have HGB := Lib.hid (show ¬ w7.heap.size = g4 from fun e => by have := (HN4.out g4 rfl).2; omega)
    have HIG := Lib.hid (show ∀ k ∈ ibl (.slice va1 l1.length vc1) l1, k ≠ g4 from fun k hk e => by have := (HN4.out g4 rfl).2; have := HINX.out k hk; omega)
    have HIG2 := Lib.hid (show ∀ k ∈ ibl (.slice va2 l2.length vc2) l2, k ≠ g4 from fun k hk e => by have := (HN4.out g4 rfl).2; have := HIN2.out k hk; omega)
    have HGK := Lib.hid (show ∀ k, K k → k ≠ g4 from fun k hk e => by have := (HN4.out g4 rfl).1; have := hk8 k hk; omega)
    clear hO8 hA8 hV8 hB8 hR8 hx8 h8a h8i h8p h8x h8s hk8 hw46 hz j1 j3 w71
    go_loopw [11] (fun i wr => ∃ (k : Nat) (xs : List Int), i = .int .i64 (k : Int) ∧ k ≤ ks.length ∧ (∀ j, k ≤ j → j < ks.length → xs[j]? = ks[j]?) ∧ Own wr 3 1 (.slice (some ⟨g4, 0, none⟩) (ks.length + 2) (c4 + 1)) (ks.length + 2) (intsV xs) ∧ Ext (One g4) w8 wr) (fun i _ => ks.length - (intOf i).toNat)
    case atStart => exact ⟨0, ks ++ [-71, -72], rfl, Nat.zero_le _, (fun j _ hj => by rw [List.getElem?_append_left hj]), HO8.out, Ext.refl _ _⟩
    case round =>
      obtain ⟨k, xs, rfl, hk, hsame, hown, hext⟩ := hrel
      have hbO := HB8.out.ext hext (fun e => by have e : w.heap.size + 1 = g4 := e; have := (HN4.out g4 rfl).1; omega)
      have y8 := hbO.cell 8 rfl
      by_cases hlt : k < ks.length
      · obtain ⟨g', c', u, q1, q2, -, hu, i1, i2, hset⟩ := own1_at hown (show k < ks.length + 2 by omega)
        simp only [Option.some.injEq, Addr.mk.injEq, and_true] at q1
        subst q1
        have hxk : xs[k]? = some ks[k] := by rw [hsame k (Nat.le_refl _) hlt]; exact List.getElem?_eq_getElem hlt
        have hu2 : (intsV xs)[k]? = some (.int .i64 ks[k]) := by unfold intsV; rw [List.getElem?_map, hxk]; rfl
        rw [hu2] at hu
        rw [← Option.some.inj hu] at i1
        obtain ⟨kb, ko, rfl, hkat⟩ := HKR.out.intsAt (by intro e; rw [e] at hlt; simp at hlt)
        have hkw := hkat k hlt
        have hkbl : kb < w.heap.size := (cell_spot hkw).2
        obtain ⟨kb', ko', hke, hkat8⟩ := HR8.out.intsAt (by intro e; rw [e] at hlt; simp at hlt)
        simp only [Option.some.injEq, Addr.mk.injEq, and_true] at hke
        obtain ⟨rfl, rfl⟩ := hke
        have kc8 := hext.cell (hkat8 k hlt) (fun e => by have e : kb = g4 := e; have := (HN4.out g4 rfl).1; omega)
        have hsetk := hset (.int .i64 9)
        have hiv : (intsV xs).set k (.int .i64 9) = intsV (xs.set k 9) := by unfold intsV; rw [List.map_set]
        rw [hiv] at hsetk
        have hsm : ∀ j, k + 1 ≤ j → j < ks.length → (xs.set k 9)[j]? = ks[j]? := fun j h1 h2 => by rw [List.getElem?_set_ne (by omega)]; exact hsame j (by omega) h2
        have hsetn := fun n => hsetk.ext (F := Nil) ((Ext.refl Nil _).drewN n) fun _ _ h => h
        have heq : ((ks[k] : Int) != ks[k]) = false := by simp
        have HSN := Lib.hid hsetn; have HSM := Lib.hid hsm; have HXT := Lib.hid hext
        clear hset hsetk hiv hsetn hsm hext hown hsame hxk hu hu2 hkat hkat8 hkw
        generalize ks[k] = kk at *
        go_wp2_with fail
        go_quiet (fail)
        go_wp2_with fail
        exact ⟨⟨k + 1, xs.set k 9, by first | rfl | go_num, by omega, HSM.out, HSN.out _, (HXT.out.drewN _).setCell (p := ⟨g4, k, none⟩) (fun _ => rfl) _⟩, by simp [intOf]; omega⟩
      · obtain rfl : k = ks.length := by omega
        have hnot : ¬ ((ks.length : Nat) : Int) < (ks.length : Int) := by omega
        have hA := (HA8.out.ext hext fun e => HGA.out e).cell 0 rfl
        have hA2 := (H8A.out.ext hext fun e => HGB.out e).cell 0 rfl
        have hV := HV8.out.ext hext fun k hk e => HIG.out k hk e
        have hV2 := H8I.out.ext hext fun k hk e => HIG2.out k hk e
        have HSI := Lib.hid (sameImage_m wr (.slice va1 l1.length vc1) (.slice va2 l2.length vc2) l1 l2 hV hV2)
        have HPE := Lib.hid (H8P.out.ext hext fun k hk e => HGK.out k hk e)
        have HXE := Lib.hid (HX8.out.trans hext fun i hi e => by have e : i = g4 := e; have := (HN4.out g4 rfl).1; omega)
        have HEQ := Lib.hid (show decide (l1.map FI.pair = l2.map FI.pair) = true from decide_eq_true (by rw [HC0.out, HC1.out]))
        have hcc : (D.crash.2 == D.crash.2) = true := by simp
        clear hext hown hsame hV hV2
        go_wp2_with (first
          | (go_at_call 18; refine (num_any _ _).mono ?_; rintro e w' ⟨rfl, rfl⟩)
          | (go_at_call 35; refine (HSI.out).mono ?_; rintro e w9 ⟨rfl, e9⟩; rw [HEQ.out]; have HP9 := Lib.hid (HPE.out.ext0 e9); have HX9 := Lib.hid (HXE.out.trans e9 fun _ _ h => h.elim); clear e9))
        go_ret
        exact ⟨rfl, K, HP9.out, HX9.out, fun k hk => .inl hk⟩
end Go.Proofs.Ytnppneilbkmnfaa
