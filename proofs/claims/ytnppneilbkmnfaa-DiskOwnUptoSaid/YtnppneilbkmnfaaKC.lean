/- The law's Pair.step: any call at both disks. Condition: both stand at the same plain disk, apart; what is read is none of theirs; few calls were made. -/
import Derived.Test.YtnppneilbkmnfaaKB
namespace Go.Proofs.Ytnppneilbkmnfaa
open Go.RowKit

/-- the disk behind a step -/
def Dk.steps (D : Dk) (o : OpD) (B : List UInt8) : Dk := if o.K = 12 then D.crash.1 else (D.does o B).1
theorem Stepped.of {w W : World} {d q : Nat} {K : Nat → Prop} {D : Dk} {e : Ending} {w' : World} (e0 : Ext Nil w W) (h : Stepped W d q K D e w') : Stepped w d q K D e w' := by
  obtain ⟨h1, K', h2, h3⟩ := h
  exact ⟨h1, K', h2, (e0.mono fun _ _ h => h.elim).same h3.1, fun k hk => (h3.2 k hk).imp id fun h => Nat.le_trans e0.size h⟩
theorem Stepped.ret {w w' : World} {d q : Nat} {K : Nat → Prop} {D : Dk} {e : Ending} (he : e = .returned (.bool true)) (h : Stepped w d q K D (.returned (.bool true)) w') : Stepped w d q K D e w' := by rw [he]; exact h
theorem Stepped.still {w w' : World} {d q : Nat} {K : Nat → Prop} {D : Dk} (h : PQ w d q D D K) (e : Ext Nil w w') : Stepped w d q K D (.returned (.bool true)) w' :=
  ⟨rfl, K, h.ext0 e, e.mono fun _ _ h => h.elim, fun _ h => .inl h⟩

set_option maxRecDepth 20000 in
set_option maxHeartbeats 1000000 in
theorem step1_m (w : World) (d q : Nat) (D : Dk) (K : Nat → Prop) (h : PQ w d q D D K) (o : OpD) (B : List UInt8) (ks : List Int) (ho : OpOk w o B ks) (hoK : ∀ k, inFoot (.slice o.dx o.dn o.dc) k → ¬ K k) (hoK2 : ∀ k, inFoot (.slice o.kx o.kn o.kc) k → ¬ K k) (hc : D.calls ≤ 1099511627776) (ha : D.arms.length ≤ 1099511627776) (hb : B.length ≤ 1073741824) (hkl : ks.length ≤ 1073741824) (hk : o.K = 1) :
    Calls Try.prog 41 #[.agg #[.pointer (some ⟨d, 0, none⟩), .pointer (some ⟨q, 0, none⟩)], .agg o.cells.toArray] w (Stepped w d q K (D.steps o B)) := by
  have hdef : D.steps o B = (D.does o B).1 := by unfold Dk.steps; rw [if_neg (by omega)]
  rw [hdef]
  clear hdef
  have HO := Lib.hid ho
  obtain ⟨KK, who, s, dx, dn, dc, N, t0, t1, t2, kx, kn, kc, junk⟩ := o
  have hs := ho.name
  simp only [] at hs hk hoK hoK2 HO
  clear ho
  unfold OpD.cells
  simp only []
  obtain ⟨W1, hW1⟩ : ∃ W1, W1 = w.alloc (.cells #[.pointer (some ⟨d, 0, none⟩), .pointer (some ⟨q, 0, none⟩)] 82 (0, 0)) := ⟨_, rfl⟩
  have e1 : Ext Nil w W1 := by rw [hW1]; exact (Ext.refl _ _).alloc _
  have a1 : At W1 w.heap.size 82 [.pointer (some ⟨d, 0, none⟩), .pointer (some ⟨q, 0, none⟩)] := by rw [hW1]; exact At.new w [.pointer (some ⟨d, 0, none⟩), .pointer (some ⟨q, 0, none⟩)] 82
  have s1 : W1.heap.size = w.heap.size + 1 := by rw [hW1]; simp
  have e2 : Ext Nil W1 (W1.alloc (.cells #[.int .i64 KK, .int .i64 who, .string s, .slice dx dn dc, .int .i64 N, .int .i64 t0, .int .i64 t1, .bool t2, .slice kx kn kc, .int .u8 junk] 47 (0, 0))) := (Ext.refl _ _).alloc _
  have a2 := At.new W1 [.int .i64 KK, .int .i64 who, .string s, .slice dx dn dc, .int .i64 N, .int .i64 t0, .int .i64 t1, .bool t2, .slice kx kn kc, .int .u8 junk] 47
  rw [s1] at a2
  have a1 := a1.ext e2 fun h => h
  have eW := e1.same e2
  have hP := h.ext0 eW
  have hO2 := HO.out.ext0 eW
  have hlt := h.lt
  have HP := Lib.hid hP; have HA1 := Lib.hid a1; have HA2 := Lib.hid a2; have EW := Lib.hid eW; have HO2 := Lib.hid hO2; have HOK := Lib.hid hoK; have HOK2 := Lib.hid hoK2; have HLT := Lib.hid hlt
  have p0 := HA1.out.cell 0 rfl
  have p1 := HA1.out.cell 1 rfl
  have z0 := HA2.out.cell 0 rfl
  have z1 := HA2.out.cell 1 rfl
  have z2 := HA2.out.cell 2 rfl
  have z3 := HA2.out.cell 3 rfl
  have z4 := HA2.out.cell 4 rfl
  have z5 := HA2.out.cell 5 rfl
  have z6 := HA2.out.cell 6 rfl
  have z7 := HA2.out.cell 7 rfl
  have z8 := HA2.out.cell 8 rfl
  have z9 := HA2.out.cell 9 rfl
  have hu := And.intro hc (And.intro ha (And.intro hb hkl))
  clear e1 e2 a1 a2 eW hP hO2 h HO hoK hoK2 s1 hlt hu
  subst hW1
  subst hk
  go_enter Try.func41, Try.ntmps41
  go_wp2_with (go_at_call 75; refine (writes_m _ d q D K HP.out ⟨1, who, s, dx, dn, dc, N, t0, t1, t2, kx, kn, kc, junk⟩ B ks HO2.out HOK.out hc ha hb (by simp)).mono ?_; rintro e w3 hq; have HQ := Lib.hid hq; obtain ⟨rfl, hq2⟩ := hq; clear hq2)
  go_ret
  exact Stepped.of EW.out HQ.out
set_option maxRecDepth 20000 in
set_option maxHeartbeats 1000000 in
theorem step2_m (w : World) (d q : Nat) (D : Dk) (K : Nat → Prop) (h : PQ w d q D D K) (o : OpD) (B : List UInt8) (ks : List Int) (ho : OpOk w o B ks) (hoK : ∀ k, inFoot (.slice o.dx o.dn o.dc) k → ¬ K k) (hoK2 : ∀ k, inFoot (.slice o.kx o.kn o.kc) k → ¬ K k) (hc : D.calls ≤ 1099511627776) (ha : D.arms.length ≤ 1099511627776) (hb : B.length ≤ 1073741824) (hkl : ks.length ≤ 1073741824) (hk : o.K = 2) :
    Calls Try.prog 41 #[.agg #[.pointer (some ⟨d, 0, none⟩), .pointer (some ⟨q, 0, none⟩)], .agg o.cells.toArray] w (Stepped w d q K (D.steps o B)) := by
  have hdef : D.steps o B = (D.does o B).1 := by unfold Dk.steps; rw [if_neg (by omega)]
  rw [hdef]
  clear hdef
  have HO := Lib.hid ho
  obtain ⟨KK, who, s, dx, dn, dc, N, t0, t1, t2, kx, kn, kc, junk⟩ := o
  have hs := ho.name
  simp only [] at hs hk hoK hoK2 HO
  clear ho
  unfold OpD.cells
  simp only []
  obtain ⟨W1, hW1⟩ : ∃ W1, W1 = w.alloc (.cells #[.pointer (some ⟨d, 0, none⟩), .pointer (some ⟨q, 0, none⟩)] 82 (0, 0)) := ⟨_, rfl⟩
  have e1 : Ext Nil w W1 := by rw [hW1]; exact (Ext.refl _ _).alloc _
  have a1 : At W1 w.heap.size 82 [.pointer (some ⟨d, 0, none⟩), .pointer (some ⟨q, 0, none⟩)] := by rw [hW1]; exact At.new w [.pointer (some ⟨d, 0, none⟩), .pointer (some ⟨q, 0, none⟩)] 82
  have s1 : W1.heap.size = w.heap.size + 1 := by rw [hW1]; simp
  have e2 : Ext Nil W1 (W1.alloc (.cells #[.int .i64 KK, .int .i64 who, .string s, .slice dx dn dc, .int .i64 N, .int .i64 t0, .int .i64 t1, .bool t2, .slice kx kn kc, .int .u8 junk] 47 (0, 0))) := (Ext.refl _ _).alloc _
  have a2 := At.new W1 [.int .i64 KK, .int .i64 who, .string s, .slice dx dn dc, .int .i64 N, .int .i64 t0, .int .i64 t1, .bool t2, .slice kx kn kc, .int .u8 junk] 47
  rw [s1] at a2
  have a1 := a1.ext e2 fun h => h
  have eW := e1.same e2
  have hP := h.ext0 eW
  have hO2 := HO.out.ext0 eW
  have hlt := h.lt
  have HP := Lib.hid hP; have HA1 := Lib.hid a1; have HA2 := Lib.hid a2; have EW := Lib.hid eW; have HO2 := Lib.hid hO2; have HOK := Lib.hid hoK; have HOK2 := Lib.hid hoK2; have HLT := Lib.hid hlt
  have p0 := HA1.out.cell 0 rfl
  have p1 := HA1.out.cell 1 rfl
  have z0 := HA2.out.cell 0 rfl
  have z1 := HA2.out.cell 1 rfl
  have z2 := HA2.out.cell 2 rfl
  have z3 := HA2.out.cell 3 rfl
  have z4 := HA2.out.cell 4 rfl
  have z5 := HA2.out.cell 5 rfl
  have z6 := HA2.out.cell 6 rfl
  have z7 := HA2.out.cell 7 rfl
  have z8 := HA2.out.cell 8 rfl
  have z9 := HA2.out.cell 9 rfl
  have hu := And.intro hc (And.intro ha (And.intro hb hkl))
  clear e1 e2 a1 a2 eW hP hO2 h HO hoK hoK2 s1 hlt hu
  subst hW1
  subst hk
  go_enter Try.func41, Try.ntmps41
  go_wp2_with (go_at_call 75; refine (writes_m _ d q D K HP.out ⟨2, who, s, dx, dn, dc, N, t0, t1, t2, kx, kn, kc, junk⟩ B ks HO2.out HOK.out hc ha hb (by simp)).mono ?_; rintro e w3 hq; have HQ := Lib.hid hq; obtain ⟨rfl, hq2⟩ := hq; clear hq2)
  go_ret
  exact Stepped.of EW.out HQ.out
set_option maxRecDepth 20000 in
set_option maxHeartbeats 1000000 in
theorem step3_m (w : World) (d q : Nat) (D : Dk) (K : Nat → Prop) (h : PQ w d q D D K) (o : OpD) (B : List UInt8) (ks : List Int) (ho : OpOk w o B ks) (hoK : ∀ k, inFoot (.slice o.dx o.dn o.dc) k → ¬ K k) (hoK2 : ∀ k, inFoot (.slice o.kx o.kn o.kc) k → ¬ K k) (hc : D.calls ≤ 1099511627776) (ha : D.arms.length ≤ 1099511627776) (hb : B.length ≤ 1073741824) (hkl : ks.length ≤ 1073741824) (hk : o.K = 3) :
    Calls Try.prog 41 #[.agg #[.pointer (some ⟨d, 0, none⟩), .pointer (some ⟨q, 0, none⟩)], .agg o.cells.toArray] w (Stepped w d q K (D.steps o B)) := by
  have hdef : D.steps o B = (D.does o B).1 := by unfold Dk.steps; rw [if_neg (by omega)]
  rw [hdef]
  clear hdef
  have HO := Lib.hid ho
  obtain ⟨KK, who, s, dx, dn, dc, N, t0, t1, t2, kx, kn, kc, junk⟩ := o
  have hs := ho.name
  simp only [] at hs hk hoK hoK2 HO
  clear ho
  unfold OpD.cells
  simp only []
  obtain ⟨W1, hW1⟩ : ∃ W1, W1 = w.alloc (.cells #[.pointer (some ⟨d, 0, none⟩), .pointer (some ⟨q, 0, none⟩)] 82 (0, 0)) := ⟨_, rfl⟩
  have e1 : Ext Nil w W1 := by rw [hW1]; exact (Ext.refl _ _).alloc _
  have a1 : At W1 w.heap.size 82 [.pointer (some ⟨d, 0, none⟩), .pointer (some ⟨q, 0, none⟩)] := by rw [hW1]; exact At.new w [.pointer (some ⟨d, 0, none⟩), .pointer (some ⟨q, 0, none⟩)] 82
  have s1 : W1.heap.size = w.heap.size + 1 := by rw [hW1]; simp
  have e2 : Ext Nil W1 (W1.alloc (.cells #[.int .i64 KK, .int .i64 who, .string s, .slice dx dn dc, .int .i64 N, .int .i64 t0, .int .i64 t1, .bool t2, .slice kx kn kc, .int .u8 junk] 47 (0, 0))) := (Ext.refl _ _).alloc _
  have a2 := At.new W1 [.int .i64 KK, .int .i64 who, .string s, .slice dx dn dc, .int .i64 N, .int .i64 t0, .int .i64 t1, .bool t2, .slice kx kn kc, .int .u8 junk] 47
  rw [s1] at a2
  have a1 := a1.ext e2 fun h => h
  have eW := e1.same e2
  have hP := h.ext0 eW
  have hO2 := HO.out.ext0 eW
  have hlt := h.lt
  have HP := Lib.hid hP; have HA1 := Lib.hid a1; have HA2 := Lib.hid a2; have EW := Lib.hid eW; have HO2 := Lib.hid hO2; have HOK := Lib.hid hoK; have HOK2 := Lib.hid hoK2; have HLT := Lib.hid hlt
  have p0 := HA1.out.cell 0 rfl
  have p1 := HA1.out.cell 1 rfl
  have z0 := HA2.out.cell 0 rfl
  have z1 := HA2.out.cell 1 rfl
  have z2 := HA2.out.cell 2 rfl
  have z3 := HA2.out.cell 3 rfl
  have z4 := HA2.out.cell 4 rfl
  have z5 := HA2.out.cell 5 rfl
  have z6 := HA2.out.cell 6 rfl
  have z7 := HA2.out.cell 7 rfl
  have z8 := HA2.out.cell 8 rfl
  have z9 := HA2.out.cell 9 rfl
  have hu := And.intro hc (And.intro ha (And.intro hb hkl))
  clear e1 e2 a1 a2 eW hP hO2 h HO hoK hoK2 s1 hlt hu
  subst hW1
  subst hk
  go_enter Try.func41, Try.ntmps41
  go_wp2_with (go_at_call 75; refine (writes_m _ d q D K HP.out ⟨3, who, s, dx, dn, dc, N, t0, t1, t2, kx, kn, kc, junk⟩ B ks HO2.out HOK.out hc ha hb (by simp)).mono ?_; rintro e w3 hq; have HQ := Lib.hid hq; obtain ⟨rfl, hq2⟩ := hq; clear hq2)
  go_ret
  exact Stepped.of EW.out HQ.out
set_option maxRecDepth 20000 in
set_option maxHeartbeats 1000000 in
theorem step4_m (w : World) (d q : Nat) (D : Dk) (K : Nat → Prop) (h : PQ w d q D D K) (o : OpD) (B : List UInt8) (ks : List Int) (ho : OpOk w o B ks) (hoK : ∀ k, inFoot (.slice o.dx o.dn o.dc) k → ¬ K k) (hoK2 : ∀ k, inFoot (.slice o.kx o.kn o.kc) k → ¬ K k) (hc : D.calls ≤ 1099511627776) (ha : D.arms.length ≤ 1099511627776) (hb : B.length ≤ 1073741824) (hkl : ks.length ≤ 1073741824) (hk : o.K = 4) :
    Calls Try.prog 41 #[.agg #[.pointer (some ⟨d, 0, none⟩), .pointer (some ⟨q, 0, none⟩)], .agg o.cells.toArray] w (Stepped w d q K (D.steps o B)) := by
  have hdef : D.steps o B = (D.does o B).1 := by unfold Dk.steps; rw [if_neg (by omega)]
  rw [hdef]
  clear hdef
  have HO := Lib.hid ho
  obtain ⟨KK, who, s, dx, dn, dc, N, t0, t1, t2, kx, kn, kc, junk⟩ := o
  have hs := ho.name
  simp only [] at hs hk hoK hoK2 HO
  clear ho
  unfold OpD.cells
  simp only []
  obtain ⟨W1, hW1⟩ : ∃ W1, W1 = w.alloc (.cells #[.pointer (some ⟨d, 0, none⟩), .pointer (some ⟨q, 0, none⟩)] 82 (0, 0)) := ⟨_, rfl⟩
  have e1 : Ext Nil w W1 := by rw [hW1]; exact (Ext.refl _ _).alloc _
  have a1 : At W1 w.heap.size 82 [.pointer (some ⟨d, 0, none⟩), .pointer (some ⟨q, 0, none⟩)] := by rw [hW1]; exact At.new w [.pointer (some ⟨d, 0, none⟩), .pointer (some ⟨q, 0, none⟩)] 82
  have s1 : W1.heap.size = w.heap.size + 1 := by rw [hW1]; simp
  have e2 : Ext Nil W1 (W1.alloc (.cells #[.int .i64 KK, .int .i64 who, .string s, .slice dx dn dc, .int .i64 N, .int .i64 t0, .int .i64 t1, .bool t2, .slice kx kn kc, .int .u8 junk] 47 (0, 0))) := (Ext.refl _ _).alloc _
  have a2 := At.new W1 [.int .i64 KK, .int .i64 who, .string s, .slice dx dn dc, .int .i64 N, .int .i64 t0, .int .i64 t1, .bool t2, .slice kx kn kc, .int .u8 junk] 47
  rw [s1] at a2
  have a1 := a1.ext e2 fun h => h
  have eW := e1.same e2
  have hP := h.ext0 eW
  have hO2 := HO.out.ext0 eW
  have hlt := h.lt
  have HP := Lib.hid hP; have HA1 := Lib.hid a1; have HA2 := Lib.hid a2; have EW := Lib.hid eW; have HO2 := Lib.hid hO2; have HOK := Lib.hid hoK; have HOK2 := Lib.hid hoK2; have HLT := Lib.hid hlt
  have p0 := HA1.out.cell 0 rfl
  have p1 := HA1.out.cell 1 rfl
  have z0 := HA2.out.cell 0 rfl
  have z1 := HA2.out.cell 1 rfl
  have z2 := HA2.out.cell 2 rfl
  have z3 := HA2.out.cell 3 rfl
  have z4 := HA2.out.cell 4 rfl
  have z5 := HA2.out.cell 5 rfl
  have z6 := HA2.out.cell 6 rfl
  have z7 := HA2.out.cell 7 rfl
  have z8 := HA2.out.cell 8 rfl
  have z9 := HA2.out.cell 9 rfl
  have hu := And.intro hc (And.intro ha (And.intro hb hkl))
  clear e1 e2 a1 a2 eW hP hO2 h HO hoK hoK2 s1 hlt hu
  subst hW1
  subst hk
  go_enter Try.func41, Try.ntmps41
  go_wp2_with (go_at_call 75; refine (writes_m _ d q D K HP.out ⟨4, who, s, dx, dn, dc, N, t0, t1, t2, kx, kn, kc, junk⟩ B ks HO2.out HOK.out hc ha hb (by simp)).mono ?_; rintro e w3 hq; have HQ := Lib.hid hq; obtain ⟨rfl, hq2⟩ := hq; clear hq2)
  go_ret
  exact Stepped.of EW.out HQ.out
set_option maxRecDepth 20000 in
set_option maxHeartbeats 1000000 in
theorem step5_m (w : World) (d q : Nat) (D : Dk) (K : Nat → Prop) (h : PQ w d q D D K) (o : OpD) (B : List UInt8) (ks : List Int) (ho : OpOk w o B ks) (hoK : ∀ k, inFoot (.slice o.dx o.dn o.dc) k → ¬ K k) (hoK2 : ∀ k, inFoot (.slice o.kx o.kn o.kc) k → ¬ K k) (hc : D.calls ≤ 1099511627776) (ha : D.arms.length ≤ 1099511627776) (hb : B.length ≤ 1073741824) (hkl : ks.length ≤ 1073741824) (hk : o.K = 5) :
    Calls Try.prog 41 #[.agg #[.pointer (some ⟨d, 0, none⟩), .pointer (some ⟨q, 0, none⟩)], .agg o.cells.toArray] w (Stepped w d q K (D.steps o B)) := by
  have hdef : D.steps o B = (D.does o B).1 := by unfold Dk.steps; rw [if_neg (by omega)]
  rw [hdef]
  clear hdef
  have HO := Lib.hid ho
  obtain ⟨KK, who, s, dx, dn, dc, N, t0, t1, t2, kx, kn, kc, junk⟩ := o
  have hs := ho.name
  simp only [] at hs hk hoK hoK2 HO
  clear ho
  unfold OpD.cells
  simp only []
  obtain ⟨W1, hW1⟩ : ∃ W1, W1 = w.alloc (.cells #[.pointer (some ⟨d, 0, none⟩), .pointer (some ⟨q, 0, none⟩)] 82 (0, 0)) := ⟨_, rfl⟩
  have e1 : Ext Nil w W1 := by rw [hW1]; exact (Ext.refl _ _).alloc _
  have a1 : At W1 w.heap.size 82 [.pointer (some ⟨d, 0, none⟩), .pointer (some ⟨q, 0, none⟩)] := by rw [hW1]; exact At.new w [.pointer (some ⟨d, 0, none⟩), .pointer (some ⟨q, 0, none⟩)] 82
  have s1 : W1.heap.size = w.heap.size + 1 := by rw [hW1]; simp
  have e2 : Ext Nil W1 (W1.alloc (.cells #[.int .i64 KK, .int .i64 who, .string s, .slice dx dn dc, .int .i64 N, .int .i64 t0, .int .i64 t1, .bool t2, .slice kx kn kc, .int .u8 junk] 47 (0, 0))) := (Ext.refl _ _).alloc _
  have a2 := At.new W1 [.int .i64 KK, .int .i64 who, .string s, .slice dx dn dc, .int .i64 N, .int .i64 t0, .int .i64 t1, .bool t2, .slice kx kn kc, .int .u8 junk] 47
  rw [s1] at a2
  have a1 := a1.ext e2 fun h => h
  have eW := e1.same e2
  have hP := h.ext0 eW
  have hO2 := HO.out.ext0 eW
  have hlt := h.lt
  have HP := Lib.hid hP; have HA1 := Lib.hid a1; have HA2 := Lib.hid a2; have EW := Lib.hid eW; have HO2 := Lib.hid hO2; have HOK := Lib.hid hoK; have HOK2 := Lib.hid hoK2; have HLT := Lib.hid hlt
  have p0 := HA1.out.cell 0 rfl
  have p1 := HA1.out.cell 1 rfl
  have z0 := HA2.out.cell 0 rfl
  have z1 := HA2.out.cell 1 rfl
  have z2 := HA2.out.cell 2 rfl
  have z3 := HA2.out.cell 3 rfl
  have z4 := HA2.out.cell 4 rfl
  have z5 := HA2.out.cell 5 rfl
  have z6 := HA2.out.cell 6 rfl
  have z7 := HA2.out.cell 7 rfl
  have z8 := HA2.out.cell 8 rfl
  have z9 := HA2.out.cell 9 rfl
  have hu := And.intro hc (And.intro ha (And.intro hb hkl))
  clear e1 e2 a1 a2 eW hP hO2 h HO hoK hoK2 s1 hlt hu
  subst hW1
  subst hk
  go_enter Try.func41, Try.ntmps41
  go_wp2_with (go_at_call 75; refine (writes_m _ d q D K HP.out ⟨5, who, s, dx, dn, dc, N, t0, t1, t2, kx, kn, kc, junk⟩ B ks HO2.out HOK.out hc ha hb (by simp)).mono ?_; rintro e w3 hq; have HQ := Lib.hid hq; obtain ⟨rfl, hq2⟩ := hq; clear hq2)
  go_ret
  exact Stepped.of EW.out HQ.out
set_option maxRecDepth 20000 in
set_option maxHeartbeats 1000000 in
theorem step12_m (w : World) (d q : Nat) (D : Dk) (K : Nat → Prop) (h : PQ w d q D D K) (o : OpD) (B : List UInt8) (ks : List Int) (ho : OpOk w o B ks) (hoK : ∀ k, inFoot (.slice o.dx o.dn o.dc) k → ¬ K k) (hoK2 : ∀ k, inFoot (.slice o.kx o.kn o.kc) k → ¬ K k) (hc : D.calls ≤ 1099511627776) (ha : D.arms.length ≤ 1099511627776) (hb : B.length ≤ 1073741824) (hkl : ks.length ≤ 1073741824) (hk : o.K = 12) :
    Calls Try.prog 41 #[.agg #[.pointer (some ⟨d, 0, none⟩), .pointer (some ⟨q, 0, none⟩)], .agg o.cells.toArray] w (Stepped w d q K (D.steps o B)) := by
  have hdef : D.steps o B = D.crash.1 := by unfold Dk.steps; rw [if_pos hk]
  rw [hdef]
  clear hdef
  have HO := Lib.hid ho
  obtain ⟨KK, who, s, dx, dn, dc, N, t0, t1, t2, kx, kn, kc, junk⟩ := o
  have hs := ho.name
  simp only [] at hs hk hoK hoK2 HO
  clear ho
  unfold OpD.cells
  simp only []
  obtain ⟨W1, hW1⟩ : ∃ W1, W1 = w.alloc (.cells #[.pointer (some ⟨d, 0, none⟩), .pointer (some ⟨q, 0, none⟩)] 82 (0, 0)) := ⟨_, rfl⟩
  have e1 : Ext Nil w W1 := by rw [hW1]; exact (Ext.refl _ _).alloc _
  have a1 : At W1 w.heap.size 82 [.pointer (some ⟨d, 0, none⟩), .pointer (some ⟨q, 0, none⟩)] := by rw [hW1]; exact At.new w [.pointer (some ⟨d, 0, none⟩), .pointer (some ⟨q, 0, none⟩)] 82
  have s1 : W1.heap.size = w.heap.size + 1 := by rw [hW1]; simp
  have e2 : Ext Nil W1 (W1.alloc (.cells #[.int .i64 KK, .int .i64 who, .string s, .slice dx dn dc, .int .i64 N, .int .i64 t0, .int .i64 t1, .bool t2, .slice kx kn kc, .int .u8 junk] 47 (0, 0))) := (Ext.refl _ _).alloc _
  have a2 := At.new W1 [.int .i64 KK, .int .i64 who, .string s, .slice dx dn dc, .int .i64 N, .int .i64 t0, .int .i64 t1, .bool t2, .slice kx kn kc, .int .u8 junk] 47
  rw [s1] at a2
  have a1 := a1.ext e2 fun h => h
  have eW := e1.same e2
  have hP := h.ext0 eW
  have hO2 := HO.out.ext0 eW
  have hlt := h.lt
  have HP := Lib.hid hP; have HA1 := Lib.hid a1; have HA2 := Lib.hid a2; have EW := Lib.hid eW; have HO2 := Lib.hid hO2; have HOK := Lib.hid hoK; have HOK2 := Lib.hid hoK2; have HLT := Lib.hid hlt
  have p0 := HA1.out.cell 0 rfl
  have p1 := HA1.out.cell 1 rfl
  have z0 := HA2.out.cell 0 rfl
  have z1 := HA2.out.cell 1 rfl
  have z2 := HA2.out.cell 2 rfl
  have z3 := HA2.out.cell 3 rfl
  have z4 := HA2.out.cell 4 rfl
  have z5 := HA2.out.cell 5 rfl
  have z6 := HA2.out.cell 6 rfl
  have z7 := HA2.out.cell 7 rfl
  have z8 := HA2.out.cell 8 rfl
  have z9 := HA2.out.cell 9 rfl
  have hu := And.intro hc (And.intro ha (And.intro hb hkl))
  clear e1 e2 a1 a2 eW hP hO2 h HO hoK hoK2 s1 hlt hu
  subst hW1
  subst hk
  go_enter Try.func41, Try.ntmps41
  go_wp2_with (go_at_call 81; refine (crashes_m _ d q D K HP.out ⟨12, who, s, dx, dn, dc, N, t0, t1, t2, kx, kn, kc, junk⟩ B ks HO2.out HOK2.out hkl).mono ?_; rintro e w3 hq; have HQ := Lib.hid hq; obtain ⟨rfl, hq2⟩ := hq; clear hq2)
  go_ret
  exact Stepped.of EW.out HQ.out
set_option maxRecDepth 20000 in
set_option maxHeartbeats 1000000 in
theorem step6_m (w : World) (d q : Nat) (D : Dk) (K : Nat → Prop) (h : PQ w d q D D K) (o : OpD) (B : List UInt8) (ks : List Int) (ho : OpOk w o B ks) (hoK : ∀ k, inFoot (.slice o.dx o.dn o.dc) k → ¬ K k) (hoK2 : ∀ k, inFoot (.slice o.kx o.kn o.kc) k → ¬ K k) (hc : D.calls ≤ 1099511627776) (ha : D.arms.length ≤ 1099511627776) (hb : B.length ≤ 1073741824) (hkl : ks.length ≤ 1073741824) (hk : o.K = 6) :
    Calls Try.prog 41 #[.agg #[.pointer (some ⟨d, 0, none⟩), .pointer (some ⟨q, 0, none⟩)], .agg o.cells.toArray] w (Stepped w d q K (D.steps o B)) := by
  have hdef : D.steps o B = D := by unfold Dk.steps; rw [if_neg (by omega)]; unfold Dk.does; rw [if_neg (by omega), if_neg (by omega), if_neg (by omega), if_neg (by omega), if_neg (by omega), if_neg (by omega)]
  rw [hdef]
  clear hdef
  have HO := Lib.hid ho
  obtain ⟨KK, who, s, dx, dn, dc, N, t0, t1, t2, kx, kn, kc, junk⟩ := o
  have hs := ho.name
  simp only [] at hs hk hoK hoK2 HO
  clear ho
  unfold OpD.cells
  simp only []
  obtain ⟨W1, hW1⟩ : ∃ W1, W1 = w.alloc (.cells #[.pointer (some ⟨d, 0, none⟩), .pointer (some ⟨q, 0, none⟩)] 82 (0, 0)) := ⟨_, rfl⟩
  have e1 : Ext Nil w W1 := by rw [hW1]; exact (Ext.refl _ _).alloc _
  have a1 : At W1 w.heap.size 82 [.pointer (some ⟨d, 0, none⟩), .pointer (some ⟨q, 0, none⟩)] := by rw [hW1]; exact At.new w [.pointer (some ⟨d, 0, none⟩), .pointer (some ⟨q, 0, none⟩)] 82
  have s1 : W1.heap.size = w.heap.size + 1 := by rw [hW1]; simp
  have e2 : Ext Nil W1 (W1.alloc (.cells #[.int .i64 KK, .int .i64 who, .string s, .slice dx dn dc, .int .i64 N, .int .i64 t0, .int .i64 t1, .bool t2, .slice kx kn kc, .int .u8 junk] 47 (0, 0))) := (Ext.refl _ _).alloc _
  have a2 := At.new W1 [.int .i64 KK, .int .i64 who, .string s, .slice dx dn dc, .int .i64 N, .int .i64 t0, .int .i64 t1, .bool t2, .slice kx kn kc, .int .u8 junk] 47
  rw [s1] at a2
  have a1 := a1.ext e2 fun h => h
  have eW := e1.same e2
  have hP := h.ext0 eW
  have hO2 := HO.out.ext0 eW
  have hlt := h.lt
  have HP := Lib.hid hP; have HA1 := Lib.hid a1; have HA2 := Lib.hid a2; have EW := Lib.hid eW; have HO2 := Lib.hid hO2; have HOK := Lib.hid hoK; have HOK2 := Lib.hid hoK2; have HLT := Lib.hid hlt
  have p0 := HA1.out.cell 0 rfl
  have p1 := HA1.out.cell 1 rfl
  have z0 := HA2.out.cell 0 rfl
  have z1 := HA2.out.cell 1 rfl
  have z2 := HA2.out.cell 2 rfl
  have z3 := HA2.out.cell 3 rfl
  have z4 := HA2.out.cell 4 rfl
  have z5 := HA2.out.cell 5 rfl
  have z6 := HA2.out.cell 6 rfl
  have z7 := HA2.out.cell 7 rfl
  have z8 := HA2.out.cell 8 rfl
  have z9 := HA2.out.cell 9 rfl
  have hu := And.intro hc (And.intro ha (And.intro hb hkl))
  clear e1 e2 a1 a2 eW hP hO2 h HO hoK hoK2 s1 hlt hu
  subst hW1
  subst hk
  go_enter Try.func41, Try.ntmps41
  go_wp2_with (first
    | (go_at_call 29; refine (pq_read HP.out s hs).mono ?_; rintro e w3 ⟨ao3, cap3, rfl, O3, S3⟩; have HP3 := Lib.hid (HP.out.ext0 S3.1); have HA13 := Lib.hid (HA1.out.ext S3.1 fun h => h); have HA23 := Lib.hid (HA2.out.ext S3.1 fun h => h); have HO3 := Lib.hid O3; have HE3 := Lib.hid S3.1; clear p0 p1 z0 z1 z2 z3 z4 z5 z6 z7 z8 z9 S3 O3; have p1 := HA13.out.cell 1 rfl; have z2 := HA23.out.cell 2 rfl)
    | (go_at_call 76; refine (qq_read HP3.out s hs).mono ?_; rintro e w4 ⟨ao4, cap4, rfl, O4, S4⟩; have HE4 := Lib.hid S4.1; have hB3 := (HO3.out.ext S4.1 fun _ _ h => h).bytes; have c1 := to_str w4 _ _ hB3; have c2 := to_str w4 _ _ O4.bytes; have hbb : (D.bytes s.data.toList == D.bytes s.data.toList) = true := (by simp); have hnn : (D.seek s.data.toList == D.seek s.data.toList) = true := (by simp); clear S4 O4 hB3)
    | (go_at_call 18; refine (num_any _ _).mono ?_; rintro e w' ⟨rfl, rfl⟩))
  go_ret
  exact Stepped.of EW.out (Stepped.still HP.out (HE3.out.same HE4.out))
set_option maxRecDepth 20000 in
set_option maxHeartbeats 1000000 in
theorem step7_m (w : World) (d q : Nat) (D : Dk) (K : Nat → Prop) (h : PQ w d q D D K) (o : OpD) (B : List UInt8) (ks : List Int) (ho : OpOk w o B ks) (hoK : ∀ k, inFoot (.slice o.dx o.dn o.dc) k → ¬ K k) (hoK2 : ∀ k, inFoot (.slice o.kx o.kn o.kc) k → ¬ K k) (hc : D.calls ≤ 1099511627776) (ha : D.arms.length ≤ 1099511627776) (hb : B.length ≤ 1073741824) (hkl : ks.length ≤ 1073741824) (hk : o.K = 7) :
    Calls Try.prog 41 #[.agg #[.pointer (some ⟨d, 0, none⟩), .pointer (some ⟨q, 0, none⟩)], .agg o.cells.toArray] w (Stepped w d q K (D.steps o B)) := by
  have hdef : D.steps o B = D := by unfold Dk.steps; rw [if_neg (by omega)]; unfold Dk.does; rw [if_neg (by omega), if_neg (by omega), if_neg (by omega), if_neg (by omega), if_neg (by omega), if_neg (by omega)]
  rw [hdef]
  clear hdef
  have HO := Lib.hid ho
  obtain ⟨KK, who, s, dx, dn, dc, N, t0, t1, t2, kx, kn, kc, junk⟩ := o
  have hs := ho.name
  simp only [] at hs hk hoK hoK2 HO
  clear ho
  unfold OpD.cells
  simp only []
  obtain ⟨W1, hW1⟩ : ∃ W1, W1 = w.alloc (.cells #[.pointer (some ⟨d, 0, none⟩), .pointer (some ⟨q, 0, none⟩)] 82 (0, 0)) := ⟨_, rfl⟩
  have e1 : Ext Nil w W1 := by rw [hW1]; exact (Ext.refl _ _).alloc _
  have a1 : At W1 w.heap.size 82 [.pointer (some ⟨d, 0, none⟩), .pointer (some ⟨q, 0, none⟩)] := by rw [hW1]; exact At.new w [.pointer (some ⟨d, 0, none⟩), .pointer (some ⟨q, 0, none⟩)] 82
  have s1 : W1.heap.size = w.heap.size + 1 := by rw [hW1]; simp
  have e2 : Ext Nil W1 (W1.alloc (.cells #[.int .i64 KK, .int .i64 who, .string s, .slice dx dn dc, .int .i64 N, .int .i64 t0, .int .i64 t1, .bool t2, .slice kx kn kc, .int .u8 junk] 47 (0, 0))) := (Ext.refl _ _).alloc _
  have a2 := At.new W1 [.int .i64 KK, .int .i64 who, .string s, .slice dx dn dc, .int .i64 N, .int .i64 t0, .int .i64 t1, .bool t2, .slice kx kn kc, .int .u8 junk] 47
  rw [s1] at a2
  have a1 := a1.ext e2 fun h => h
  have eW := e1.same e2
  have hP := h.ext0 eW
  have hO2 := HO.out.ext0 eW
  have hlt := h.lt
  have HP := Lib.hid hP; have HA1 := Lib.hid a1; have HA2 := Lib.hid a2; have EW := Lib.hid eW; have HO2 := Lib.hid hO2; have HOK := Lib.hid hoK; have HOK2 := Lib.hid hoK2; have HLT := Lib.hid hlt
  have p0 := HA1.out.cell 0 rfl
  have p1 := HA1.out.cell 1 rfl
  have z0 := HA2.out.cell 0 rfl
  have z1 := HA2.out.cell 1 rfl
  have z2 := HA2.out.cell 2 rfl
  have z3 := HA2.out.cell 3 rfl
  have z4 := HA2.out.cell 4 rfl
  have z5 := HA2.out.cell 5 rfl
  have z6 := HA2.out.cell 6 rfl
  have z7 := HA2.out.cell 7 rfl
  have z8 := HA2.out.cell 8 rfl
  have z9 := HA2.out.cell 9 rfl
  have hu := And.intro hc (And.intro ha (And.intro hb hkl))
  clear e1 e2 a1 a2 eW hP hO2 h HO hoK hoK2 s1 hlt hu
  subst hW1
  subst hk
  go_enter Try.func41, Try.ntmps41
  go_wp2_with (first
    | (go_at_call 68; refine (pq_size HP.out s hs).mono ?_; rintro e w3 ⟨rfl, n3, rfl⟩; have HP3 := Lib.hid (HP.out.ext0 ((Ext.refl Nil _).drewN n3)))
    | (go_at_call 77; refine (qq_size HP3.out s hs).mono ?_; rintro e w4 ⟨rfl, n4, rfl⟩; have hnn : (D.seek s.data.toList == D.seek s.data.toList) = true := (by simp))
    | (go_at_call 18; refine (num_any _ _).mono ?_; rintro e w' ⟨rfl, rfl⟩))
  go_ret
  exact Stepped.of EW.out (Stepped.still HP.out ((Ext.refl Nil _).drewN _))
set_option maxRecDepth 20000 in
set_option maxHeartbeats 1000000 in
theorem step9_m (w : World) (d q : Nat) (D : Dk) (K : Nat → Prop) (h : PQ w d q D D K) (o : OpD) (B : List UInt8) (ks : List Int) (ho : OpOk w o B ks) (hoK : ∀ k, inFoot (.slice o.dx o.dn o.dc) k → ¬ K k) (hoK2 : ∀ k, inFoot (.slice o.kx o.kn o.kc) k → ¬ K k) (hc : D.calls ≤ 1099511627776) (ha : D.arms.length ≤ 1099511627776) (hb : B.length ≤ 1073741824) (hkl : ks.length ≤ 1073741824) (hk : o.K = 9) :
    Calls Try.prog 41 #[.agg #[.pointer (some ⟨d, 0, none⟩), .pointer (some ⟨q, 0, none⟩)], .agg o.cells.toArray] w (Stepped w d q K (D.steps o B)) := by
  have hdef : D.steps o B = D := by unfold Dk.steps; rw [if_neg (by omega)]; unfold Dk.does; rw [if_neg (by omega), if_neg (by omega), if_neg (by omega), if_neg (by omega), if_neg (by omega), if_neg (by omega)]
  rw [hdef]
  clear hdef
  have HO := Lib.hid ho
  obtain ⟨KK, who, s, dx, dn, dc, N, t0, t1, t2, kx, kn, kc, junk⟩ := o
  have hs := ho.name
  simp only [] at hs hk hoK hoK2 HO
  clear ho
  unfold OpD.cells
  simp only []
  obtain ⟨W1, hW1⟩ : ∃ W1, W1 = w.alloc (.cells #[.pointer (some ⟨d, 0, none⟩), .pointer (some ⟨q, 0, none⟩)] 82 (0, 0)) := ⟨_, rfl⟩
  have e1 : Ext Nil w W1 := by rw [hW1]; exact (Ext.refl _ _).alloc _
  have a1 : At W1 w.heap.size 82 [.pointer (some ⟨d, 0, none⟩), .pointer (some ⟨q, 0, none⟩)] := by rw [hW1]; exact At.new w [.pointer (some ⟨d, 0, none⟩), .pointer (some ⟨q, 0, none⟩)] 82
  have s1 : W1.heap.size = w.heap.size + 1 := by rw [hW1]; simp
  have e2 : Ext Nil W1 (W1.alloc (.cells #[.int .i64 KK, .int .i64 who, .string s, .slice dx dn dc, .int .i64 N, .int .i64 t0, .int .i64 t1, .bool t2, .slice kx kn kc, .int .u8 junk] 47 (0, 0))) := (Ext.refl _ _).alloc _
  have a2 := At.new W1 [.int .i64 KK, .int .i64 who, .string s, .slice dx dn dc, .int .i64 N, .int .i64 t0, .int .i64 t1, .bool t2, .slice kx kn kc, .int .u8 junk] 47
  rw [s1] at a2
  have a1 := a1.ext e2 fun h => h
  have eW := e1.same e2
  have hP := h.ext0 eW
  have hO2 := HO.out.ext0 eW
  have hlt := h.lt
  have HP := Lib.hid hP; have HA1 := Lib.hid a1; have HA2 := Lib.hid a2; have EW := Lib.hid eW; have HO2 := Lib.hid hO2; have HOK := Lib.hid hoK; have HOK2 := Lib.hid hoK2; have HLT := Lib.hid hlt
  have p0 := HA1.out.cell 0 rfl
  have p1 := HA1.out.cell 1 rfl
  have z0 := HA2.out.cell 0 rfl
  have z1 := HA2.out.cell 1 rfl
  have z2 := HA2.out.cell 2 rfl
  have z3 := HA2.out.cell 3 rfl
  have z4 := HA2.out.cell 4 rfl
  have z5 := HA2.out.cell 5 rfl
  have z6 := HA2.out.cell 6 rfl
  have z7 := HA2.out.cell 7 rfl
  have z8 := HA2.out.cell 8 rfl
  have z9 := HA2.out.cell 9 rfl
  have hu := And.intro hc (And.intro ha (And.intro hb hkl))
  clear e1 e2 a1 a2 eW hP hO2 h HO hoK hoK2 s1 hlt hu
  subst hW1
  subst hk
  have hq1 := fun n => ((pq_calls (HP.out.ext0 ((Ext.refl Nil _).drewN n))).mono fun e w' h => (⟨h.1, h.2.symm⟩ : e = _ ∧ w' = _))
  have hq2 := fun n => ((qq_calls (HP.out.ext0 ((Ext.refl Nil _).drewN n))).mono fun e w' h => (⟨h.1, h.2.symm⟩ : e = _ ∧ w' = _))
  have HQ1 := Lib.hid hq1; have HQ2 := Lib.hid hq2
  clear hq1 hq2
  go_enter Try.func41, Try.ntmps41
  go_wp2_with fail
  go_quiet ((first | (go_at_call 22; exact Calls.quiet_of_same (HQ1.out _)) | (go_at_call 78; exact Calls.quiet_of_same (HQ2.out _))))
  go_wp2_with fail
  go_ret
  exact Stepped.of EW.out (Stepped.still HP.out ((Ext.refl Nil _).drewN _))
set_option maxRecDepth 20000 in
set_option maxHeartbeats 1000000 in
theorem step10_m (w : World) (d q : Nat) (D : Dk) (K : Nat → Prop) (h : PQ w d q D D K) (o : OpD) (B : List UInt8) (ks : List Int) (ho : OpOk w o B ks) (hoK : ∀ k, inFoot (.slice o.dx o.dn o.dc) k → ¬ K k) (hoK2 : ∀ k, inFoot (.slice o.kx o.kn o.kc) k → ¬ K k) (hc : D.calls ≤ 1099511627776) (ha : D.arms.length ≤ 1099511627776) (hb : B.length ≤ 1073741824) (hkl : ks.length ≤ 1073741824) (hk : o.K = 10) :
    Calls Try.prog 41 #[.agg #[.pointer (some ⟨d, 0, none⟩), .pointer (some ⟨q, 0, none⟩)], .agg o.cells.toArray] w (Stepped w d q K (D.steps o B)) := by
  have hdef : D.steps o B = D := by unfold Dk.steps; rw [if_neg (by omega)]; unfold Dk.does; rw [if_neg (by omega), if_neg (by omega), if_neg (by omega), if_neg (by omega), if_neg (by omega), if_neg (by omega)]
  rw [hdef]
  clear hdef
  have HO := Lib.hid ho
  obtain ⟨KK, who, s, dx, dn, dc, N, t0, t1, t2, kx, kn, kc, junk⟩ := o
  have hs := ho.name
  simp only [] at hs hk hoK hoK2 HO
  clear ho
  unfold OpD.cells
  simp only []
  obtain ⟨W1, hW1⟩ : ∃ W1, W1 = w.alloc (.cells #[.pointer (some ⟨d, 0, none⟩), .pointer (some ⟨q, 0, none⟩)] 82 (0, 0)) := ⟨_, rfl⟩
  have e1 : Ext Nil w W1 := by rw [hW1]; exact (Ext.refl _ _).alloc _
  have a1 : At W1 w.heap.size 82 [.pointer (some ⟨d, 0, none⟩), .pointer (some ⟨q, 0, none⟩)] := by rw [hW1]; exact At.new w [.pointer (some ⟨d, 0, none⟩), .pointer (some ⟨q, 0, none⟩)] 82
  have s1 : W1.heap.size = w.heap.size + 1 := by rw [hW1]; simp
  have e2 : Ext Nil W1 (W1.alloc (.cells #[.int .i64 KK, .int .i64 who, .string s, .slice dx dn dc, .int .i64 N, .int .i64 t0, .int .i64 t1, .bool t2, .slice kx kn kc, .int .u8 junk] 47 (0, 0))) := (Ext.refl _ _).alloc _
  have a2 := At.new W1 [.int .i64 KK, .int .i64 who, .string s, .slice dx dn dc, .int .i64 N, .int .i64 t0, .int .i64 t1, .bool t2, .slice kx kn kc, .int .u8 junk] 47
  rw [s1] at a2
  have a1 := a1.ext e2 fun h => h
  have eW := e1.same e2
  have hP := h.ext0 eW
  have hO2 := HO.out.ext0 eW
  have hlt := h.lt
  have HP := Lib.hid hP; have HA1 := Lib.hid a1; have HA2 := Lib.hid a2; have EW := Lib.hid eW; have HO2 := Lib.hid hO2; have HOK := Lib.hid hoK; have HOK2 := Lib.hid hoK2; have HLT := Lib.hid hlt
  have p0 := HA1.out.cell 0 rfl
  have p1 := HA1.out.cell 1 rfl
  have z0 := HA2.out.cell 0 rfl
  have z1 := HA2.out.cell 1 rfl
  have z2 := HA2.out.cell 2 rfl
  have z3 := HA2.out.cell 3 rfl
  have z4 := HA2.out.cell 4 rfl
  have z5 := HA2.out.cell 5 rfl
  have z6 := HA2.out.cell 6 rfl
  have z7 := HA2.out.cell 7 rfl
  have z8 := HA2.out.cell 8 rfl
  have z9 := HA2.out.cell 9 rfl
  have hu := And.intro hc (And.intro ha (And.intro hb hkl))
  clear e1 e2 a1 a2 eW hP hO2 h HO hoK hoK2 s1 hlt hu
  subst hW1
  subst hk
  have hq1 := fun n => ((pq_on (HP.out.ext0 ((Ext.refl Nil _).drewN n))).mono fun e w' h => (⟨h.1, h.2.symm⟩ : e = _ ∧ w' = _))
  have hq2 := fun n => ((qq_on (HP.out.ext0 ((Ext.refl Nil _).drewN n))).mono fun e w' h => (⟨h.1, h.2.symm⟩ : e = _ ∧ w' = _))
  have HQ1 := Lib.hid hq1; have HQ2 := Lib.hid hq2
  clear hq1 hq2
  go_enter Try.func41, Try.ntmps41
  go_wp2_with fail
  go_quiet ((first | (go_at_call 21; exact Calls.quiet_of_same (HQ1.out _)) | (go_at_call 79; exact Calls.quiet_of_same (HQ2.out _))))
  go_wp2_with fail
  go_ret
  exact Stepped.of EW.out (Stepped.still HP.out ((Ext.refl Nil _).drewN _))
set_option maxRecDepth 20000 in
set_option maxHeartbeats 1000000 in
theorem step0_m (w : World) (d q : Nat) (D : Dk) (K : Nat → Prop) (h : PQ w d q D D K) (o : OpD) (B : List UInt8) (ks : List Int) (ho : OpOk w o B ks) (hoK : ∀ k, inFoot (.slice o.dx o.dn o.dc) k → ¬ K k) (hoK2 : ∀ k, inFoot (.slice o.kx o.kn o.kc) k → ¬ K k) (hc : D.calls ≤ 1099511627776) (ha : D.arms.length ≤ 1099511627776) (hb : B.length ≤ 1073741824) (hkl : ks.length ≤ 1073741824) (hk : o.K ≠ 1 ∧ o.K ≠ 2 ∧ o.K ≠ 3 ∧ o.K ≠ 4 ∧ o.K ≠ 5 ∧ o.K ≠ 6 ∧ o.K ≠ 7 ∧ o.K ≠ 8 ∧ o.K ≠ 9 ∧ o.K ≠ 10 ∧ o.K ≠ 11 ∧ o.K ≠ 12) :
    Calls Try.prog 41 #[.agg #[.pointer (some ⟨d, 0, none⟩), .pointer (some ⟨q, 0, none⟩)], .agg o.cells.toArray] w (Stepped w d q K (D.steps o B)) := by
  have hdef : D.steps o B = D := by unfold Dk.steps; rw [if_neg (by omega)]; unfold Dk.does; rw [if_neg (by omega), if_neg (by omega), if_neg (by omega), if_neg (by omega), if_neg (by omega), if_neg (by omega)]
  rw [hdef]
  clear hdef
  have HO := Lib.hid ho
  obtain ⟨KK, who, s, dx, dn, dc, N, t0, t1, t2, kx, kn, kc, junk⟩ := o
  have hs := ho.name
  simp only [] at hs hk hoK hoK2 HO
  clear ho
  unfold OpD.cells
  simp only []
  obtain ⟨W1, hW1⟩ : ∃ W1, W1 = w.alloc (.cells #[.pointer (some ⟨d, 0, none⟩), .pointer (some ⟨q, 0, none⟩)] 82 (0, 0)) := ⟨_, rfl⟩
  have e1 : Ext Nil w W1 := by rw [hW1]; exact (Ext.refl _ _).alloc _
  have a1 : At W1 w.heap.size 82 [.pointer (some ⟨d, 0, none⟩), .pointer (some ⟨q, 0, none⟩)] := by rw [hW1]; exact At.new w [.pointer (some ⟨d, 0, none⟩), .pointer (some ⟨q, 0, none⟩)] 82
  have s1 : W1.heap.size = w.heap.size + 1 := by rw [hW1]; simp
  have e2 : Ext Nil W1 (W1.alloc (.cells #[.int .i64 KK, .int .i64 who, .string s, .slice dx dn dc, .int .i64 N, .int .i64 t0, .int .i64 t1, .bool t2, .slice kx kn kc, .int .u8 junk] 47 (0, 0))) := (Ext.refl _ _).alloc _
  have a2 := At.new W1 [.int .i64 KK, .int .i64 who, .string s, .slice dx dn dc, .int .i64 N, .int .i64 t0, .int .i64 t1, .bool t2, .slice kx kn kc, .int .u8 junk] 47
  rw [s1] at a2
  have a1 := a1.ext e2 fun h => h
  have eW := e1.same e2
  have hP := h.ext0 eW
  have hO2 := HO.out.ext0 eW
  have hlt := h.lt
  have HP := Lib.hid hP; have HA1 := Lib.hid a1; have HA2 := Lib.hid a2; have EW := Lib.hid eW; have HO2 := Lib.hid hO2; have HOK := Lib.hid hoK; have HOK2 := Lib.hid hoK2; have HLT := Lib.hid hlt
  have p0 := HA1.out.cell 0 rfl
  have p1 := HA1.out.cell 1 rfl
  have z0 := HA2.out.cell 0 rfl
  have z1 := HA2.out.cell 1 rfl
  have z2 := HA2.out.cell 2 rfl
  have z3 := HA2.out.cell 3 rfl
  have z4 := HA2.out.cell 4 rfl
  have z5 := HA2.out.cell 5 rfl
  have z6 := HA2.out.cell 6 rfl
  have z7 := HA2.out.cell 7 rfl
  have z8 := HA2.out.cell 8 rfl
  have z9 := HA2.out.cell 9 rfl
  have hu := And.intro hc (And.intro ha (And.intro hb hkl))
  clear e1 e2 a1 a2 eW hP hO2 h HO hoK hoK2 s1 hlt hu
  subst hW1
  have k1 : (KK == 1) = false := by rw [beq_eq_false_iff_ne]; omega
  have k2 : (KK == 2) = false := by rw [beq_eq_false_iff_ne]; omega
  have k3 : (KK == 3) = false := by rw [beq_eq_false_iff_ne]; omega
  have k4 : (KK == 4) = false := by rw [beq_eq_false_iff_ne]; omega
  have k5 : (KK == 5) = false := by rw [beq_eq_false_iff_ne]; omega
  have k6 : (KK == 6) = false := by rw [beq_eq_false_iff_ne]; omega
  have k7 : (KK == 7) = false := by rw [beq_eq_false_iff_ne]; omega
  have k8 : (KK == 8) = false := by rw [beq_eq_false_iff_ne]; omega
  have k9 : (KK == 9) = false := by rw [beq_eq_false_iff_ne]; omega
  have k10 : (KK == 10) = false := by rw [beq_eq_false_iff_ne]; omega
  have k11 : (KK == 11) = false := by rw [beq_eq_false_iff_ne]; omega
  have k12 : (KK == 12) = false := by rw [beq_eq_false_iff_ne]; omega
  clear hk
  go_enter Try.func41, Try.ntmps41
  go_wp2_with fail
  go_ret
  exact Stepped.of EW.out (Stepped.still HP.out (Ext.refl _ _))
set_option maxRecDepth 20000 in
set_option maxHeartbeats 1000000 in
theorem step8_m (w : World) (d q : Nat) (D : Dk) (K : Nat → Prop) (h : PQ w d q D D K) (o : OpD) (B : List UInt8) (ks : List Int) (ho : OpOk w o B ks) (hoK : ∀ k, inFoot (.slice o.dx o.dn o.dc) k → ¬ K k) (hoK2 : ∀ k, inFoot (.slice o.kx o.kn o.kc) k → ¬ K k) (hc : D.calls ≤ 1099511627776) (ha : D.arms.length ≤ 1099511627776) (hb : B.length ≤ 1073741824) (hkl : ks.length ≤ 1073741824) (hk : o.K = 8) :
    Calls Try.prog 41 #[.agg #[.pointer (some ⟨d, 0, none⟩), .pointer (some ⟨q, 0, none⟩)], .agg o.cells.toArray] w (Stepped w d q K (D.steps o B)) := by
  have hdef : D.steps o B = D := by unfold Dk.steps; rw [if_neg (by omega)]; unfold Dk.does; rw [if_neg (by omega), if_neg (by omega), if_neg (by omega), if_neg (by omega), if_neg (by omega), if_neg (by omega)]
  rw [hdef]
  clear hdef
  have HO := Lib.hid ho
  obtain ⟨KK, who, s, dx, dn, dc, N, t0, t1, t2, kx, kn, kc, junk⟩ := o
  have hs := ho.name
  simp only [] at hs hk hoK hoK2 HO
  clear ho
  unfold OpD.cells
  simp only []
  obtain ⟨W1, hW1⟩ : ∃ W1, W1 = w.alloc (.cells #[.pointer (some ⟨d, 0, none⟩), .pointer (some ⟨q, 0, none⟩)] 82 (0, 0)) := ⟨_, rfl⟩
  have e1 : Ext Nil w W1 := by rw [hW1]; exact (Ext.refl _ _).alloc _
  have a1 : At W1 w.heap.size 82 [.pointer (some ⟨d, 0, none⟩), .pointer (some ⟨q, 0, none⟩)] := by rw [hW1]; exact At.new w [.pointer (some ⟨d, 0, none⟩), .pointer (some ⟨q, 0, none⟩)] 82
  have s1 : W1.heap.size = w.heap.size + 1 := by rw [hW1]; simp
  have e2 : Ext Nil W1 (W1.alloc (.cells #[.int .i64 KK, .int .i64 who, .string s, .slice dx dn dc, .int .i64 N, .int .i64 t0, .int .i64 t1, .bool t2, .slice kx kn kc, .int .u8 junk] 47 (0, 0))) := (Ext.refl _ _).alloc _
  have a2 := At.new W1 [.int .i64 KK, .int .i64 who, .string s, .slice dx dn dc, .int .i64 N, .int .i64 t0, .int .i64 t1, .bool t2, .slice kx kn kc, .int .u8 junk] 47
  rw [s1] at a2
  have a1 := a1.ext e2 fun h => h
  have eW := e1.same e2
  have hP := h.ext0 eW
  have hO2 := HO.out.ext0 eW
  have hlt := h.lt
  have HP := Lib.hid hP; have HA1 := Lib.hid a1; have HA2 := Lib.hid a2; have EW := Lib.hid eW; have HO2 := Lib.hid hO2; have HOK := Lib.hid hoK; have HOK2 := Lib.hid hoK2; have HLT := Lib.hid hlt
  have p0 := HA1.out.cell 0 rfl
  have p1 := HA1.out.cell 1 rfl
  have z0 := HA2.out.cell 0 rfl
  have z1 := HA2.out.cell 1 rfl
  have z2 := HA2.out.cell 2 rfl
  have z3 := HA2.out.cell 3 rfl
  have z4 := HA2.out.cell 4 rfl
  have z5 := HA2.out.cell 5 rfl
  have z6 := HA2.out.cell 6 rfl
  have z7 := HA2.out.cell 7 rfl
  have z8 := HA2.out.cell 8 rfl
  have z9 := HA2.out.cell 9 rfl
  have hu := And.intro hc (And.intro ha (And.intro hb hkl))
  clear e1 e2 a1 a2 eW hP hO2 h HO hoK hoK2 s1 hlt hu
  subst hW1
  subst hk
  go_enter Try.func41, Try.ntmps41
  go_wp2_with fail
  refine wp_region_held_drew (S := fun w' => At w' w.heap.size 82 [.pointer (some ⟨d, 0, none⟩), .pointer (some ⟨q, 0, none⟩)] ∧ At w' (w.heap.size + 1) 47 [.int .i64 8, .int .i64 who, .string s, .slice dx dn dc, .int .i64 N, .int .i64 t0, .int .i64 t1, .bool t2, .slice kx kn kc, .int .u8 junk]) (by kernel_rfl) ⟨HA1.out, HA2.out⟩ (fun hHeld => ?_)
  refine wpAnyH_take (i := 0) (v := .pointer (some ⟨w.heap.size, 0, none⟩)) rfl (by kernel_rfl) (by kernel_rfl) (by kernel_rfl) (fun _ _ _ h => h) (Or.inl ⟨by rfl, ?y1⟩) (by assumption) ?r1
  case y1 => (intro w hSw; obtain ⟨s1, s2⟩ := hSw; have t0 := s1.cell 0 rfl; have t1 := s1.cell 1 rfl; have t5 := s2.cell 5 rfl; have t6 := s2.cell 6 rfl; have t7 := s2.cell 7 rfl; clear s1 s2; go_simp)
  simp only [Act.put]
  refine wpAnyH_take (i := 1) (v := .pointer (some ⟨d, 0, none⟩)) rfl (by kernel_rfl) (by kernel_rfl) (by kernel_rfl) (fun _ _ _ h => h) (Or.inl ⟨by rfl, ?y2⟩) (by assumption) ?r2
  case y2 => (intro w hSw; obtain ⟨s1, s2⟩ := hSw; have t0 := s1.cell 0 rfl; have t1 := s1.cell 1 rfl; have t5 := s2.cell 5 rfl; have t6 := s2.cell 6 rfl; have t7 := s2.cell 7 rfl; clear s1 s2; go_simp)
  simp only [Act.put]
  refine wpAnyH_take (i := 3) (v := .pointer (some ⟨w.heap.size, 1, none⟩)) rfl (by kernel_rfl) (by kernel_rfl) (by kernel_rfl) (fun _ _ _ h => h) (Or.inl ⟨by rfl, ?y3⟩) (by assumption) ?r3
  case y3 => (intro w hSw; obtain ⟨s1, s2⟩ := hSw; have t0 := s1.cell 0 rfl; have t1 := s1.cell 1 rfl; have t5 := s2.cell 5 rfl; have t6 := s2.cell 6 rfl; have t7 := s2.cell 7 rfl; clear s1 s2; go_simp)
  simp only [Act.put]
  refine wpAnyH_take (i := 4) (v := .pointer (some ⟨q, 0, none⟩)) rfl (by kernel_rfl) (by kernel_rfl) (by kernel_rfl) (fun _ _ _ h => h) (Or.inl ⟨by rfl, ?y4⟩) (by assumption) ?r4
  case y4 => (intro w hSw; obtain ⟨s1, s2⟩ := hSw; have t0 := s1.cell 0 rfl; have t1 := s1.cell 1 rfl; have t5 := s2.cell 5 rfl; have t6 := s2.cell 6 rfl; have t7 := s2.cell 7 rfl; clear s1 s2; go_simp)
  simp only [Act.put]
  have hHeld2 := hHeld
  clear hHeld
  refine wpAnyH_ready (rs := [2]) (by kernel_rfl) (by simp) (AllReadyH.cons rfl (fun KK' hK => ?_) AllReadyH.nil)
  go_simp
  refine (pq_names (HP.out.ext0 (Ext.refl Nil _).drew)).mono ?_
  rintro e w3 ⟨aop, cap_p, rfl, Op, Sp⟩
  have hHeld3 := And.intro (hHeld2.1.ext Sp.1 fun h => h) (hHeld2.2.ext Sp.1 fun h => h)
  have HX3 := Lib.hid Sp.1
  have HOp := Lib.hid Op
  have HSp := Lib.hid Sp
  clear Op Sp
  go_wp2_with fail
  refine hK.out _ _ hHeld3 (fun hHeld => ?_)
  clear hK KK' hHeld
  refine wpAnyH_ready (rs := [5]) (by kernel_rfl) (by simp) (AllReadyH.cons rfl (fun KK' hK => ?_) AllReadyH.nil)
  go_simp
  refine (qq_names ((HP.out.ext0 (Ext.refl Nil _).drew).ext0 HX3.out)).mono ?_
  rintro e w4 ⟨aoq, cap_q, rfl, Oq, Sq⟩
  have hHeld4 := And.intro (hHeld3.1.ext Sq.1 fun h => h) (hHeld3.2.ext Sq.1 fun h => h)
  have HX4 := Lib.hid Sq.1
  have HOq := Lib.hid Oq
  have HSq := Lib.hid Sq
  clear Oq Sq
  go_wp2_with fail
  refine hK.out _ _ hHeld4 (fun hHeld => ?_)
  clear hK KK' hHeld
  refine wpAnyH_ready (rs := [6]) (by kernel_rfl) (by simp) (AllReadyH.cons rfl (fun KK' hK => ?_) AllReadyH.nil)
  go_simp
  refine (sameNames_m w4 _ _ D.names (HOp.out.ext HX4.out fun _ _ h => h) HOq.out).mono ?_
  rintro e w5 ⟨rfl, e5⟩
  have hHeld5 := And.intro (hHeld4.1.ext e5 fun h => h) (hHeld4.2.ext e5 fun h => h)
  have HX5 := Lib.hid e5
  clear e5
  go_wp2_with fail
  refine hK.out _ _ hHeld5 (fun hHeld => ?_)
  clear hK KK' hHeld
  refine wpAnyH_take (i := 7) (v := .bool true) rfl (by kernel_rfl) (by kernel_rfl) (by kernel_rfl) (fun _ _ _ h => h) (Or.inl ⟨by rfl, ?y5⟩) (by assumption) ?r5
  case y5 => (intro w hSw; obtain ⟨s1, s2⟩ := hSw; have t0 := s1.cell 0 rfl; have t1 := s1.cell 1 rfl; have t5 := s2.cell 5 rfl; have t6 := s2.cell 6 rfl; have t7 := s2.cell 7 rfl; clear s1 s2; go_simp)
  simp only [Act.put]
  refine wpAnyH_done (by kernel_rfl) ?_ _
  go_simp
  go_wp2_with fail
  go_ret
  refine Stepped.ret ?_ (Stepped.of EW.out (Stepped.still HP.out (((((Ext.refl Nil _).drew).same HX3.out).same HX4.out).same HX5.out)))
  rfl
set_option maxRecDepth 20000 in
set_option maxHeartbeats 1000000 in
theorem step11_m (w : World) (d q : Nat) (D : Dk) (K : Nat → Prop) (h : PQ w d q D D K) (o : OpD) (B : List UInt8) (ks : List Int) (ho : OpOk w o B ks) (hoK : ∀ k, inFoot (.slice o.dx o.dn o.dc) k → ¬ K k) (hoK2 : ∀ k, inFoot (.slice o.kx o.kn o.kc) k → ¬ K k) (hc : D.calls ≤ 1099511627776) (ha : D.arms.length ≤ 1099511627776) (hb : B.length ≤ 1073741824) (hkl : ks.length ≤ 1073741824) (hk : o.K = 11) :
    Calls Try.prog 41 #[.agg #[.pointer (some ⟨d, 0, none⟩), .pointer (some ⟨q, 0, none⟩)], .agg o.cells.toArray] w (Stepped w d q K (D.steps o B)) := by
  have hdef : D.steps o B = (D.arm o.t0 o.t1 o.t2).1 := by unfold Dk.steps; rw [if_neg (by omega)]; unfold Dk.does; rw [if_neg (by omega), if_neg (by omega), if_neg (by omega), if_neg (by omega), if_neg (by omega), if_pos hk]
  rw [hdef]
  clear hdef
  have HO := Lib.hid ho
  obtain ⟨KK, who, s, dx, dn, dc, N, t0, t1, t2, kx, kn, kc, junk⟩ := o
  have hs := ho.name
  simp only [] at hs hk hoK hoK2 HO
  clear ho
  unfold OpD.cells
  simp only []
  obtain ⟨W1, hW1⟩ : ∃ W1, W1 = w.alloc (.cells #[.pointer (some ⟨d, 0, none⟩), .pointer (some ⟨q, 0, none⟩)] 82 (0, 0)) := ⟨_, rfl⟩
  have e1 : Ext Nil w W1 := by rw [hW1]; exact (Ext.refl _ _).alloc _
  have a1 : At W1 w.heap.size 82 [.pointer (some ⟨d, 0, none⟩), .pointer (some ⟨q, 0, none⟩)] := by rw [hW1]; exact At.new w [.pointer (some ⟨d, 0, none⟩), .pointer (some ⟨q, 0, none⟩)] 82
  have s1 : W1.heap.size = w.heap.size + 1 := by rw [hW1]; simp
  have e2 : Ext Nil W1 (W1.alloc (.cells #[.int .i64 KK, .int .i64 who, .string s, .slice dx dn dc, .int .i64 N, .int .i64 t0, .int .i64 t1, .bool t2, .slice kx kn kc, .int .u8 junk] 47 (0, 0))) := (Ext.refl _ _).alloc _
  have a2 := At.new W1 [.int .i64 KK, .int .i64 who, .string s, .slice dx dn dc, .int .i64 N, .int .i64 t0, .int .i64 t1, .bool t2, .slice kx kn kc, .int .u8 junk] 47
  rw [s1] at a2
  have a1 := a1.ext e2 fun h => h
  have eW := e1.same e2
  have hP := h.ext0 eW
  have hO2 := HO.out.ext0 eW
  have hlt := h.lt
  have HP := Lib.hid hP; have HA1 := Lib.hid a1; have HA2 := Lib.hid a2; have EW := Lib.hid eW; have HO2 := Lib.hid hO2; have HOK := Lib.hid hoK; have HOK2 := Lib.hid hoK2; have HLT := Lib.hid hlt
  have p0 := HA1.out.cell 0 rfl
  have p1 := HA1.out.cell 1 rfl
  have z0 := HA2.out.cell 0 rfl
  have z1 := HA2.out.cell 1 rfl
  have z2 := HA2.out.cell 2 rfl
  have z3 := HA2.out.cell 3 rfl
  have z4 := HA2.out.cell 4 rfl
  have z5 := HA2.out.cell 5 rfl
  have z6 := HA2.out.cell 6 rfl
  have z7 := HA2.out.cell 7 rfl
  have z8 := HA2.out.cell 8 rfl
  have z9 := HA2.out.cell 9 rfl
  have hu := And.intro hc (And.intro ha (And.intro hb hkl))
  clear e1 e2 a1 a2 eW hP hO2 h HO hoK hoK2 s1 hlt hu
  subst hW1
  subst hk
  have hsz : w.heap.size + 2 ≤ ((w.alloc (.cells #[.pointer (some ⟨d, 0, none⟩), .pointer (some ⟨q, 0, none⟩)] 82 (0, 0))).alloc (.cells #[.int .i64 11, .int .i64 who, .string s, .slice dx dn dc, .int .i64 N, .int .i64 t0, .int .i64 t1, .bool t2, .slice kx kn kc, .int .u8 junk] 47 (0, 0))).heap.size := by simp
  have HSZ := Lib.hid hsz
  clear hsz
  have haa : ((D.arm t0 t1 t2).2 == (D.arm t0 t1 t2).2) = true := by simp
  go_enter Try.func41, Try.ntmps41
  go_wp2_with fail
  refine wp_region_held_drew (S := fun w' => At w' w.heap.size 82 [.pointer (some ⟨d, 0, none⟩), .pointer (some ⟨q, 0, none⟩)] ∧ At w' (w.heap.size + 1) 47 [.int .i64 11, .int .i64 who, .string s, .slice dx dn dc, .int .i64 N, .int .i64 t0, .int .i64 t1, .bool t2, .slice kx kn kc, .int .u8 junk]) (by kernel_rfl) ⟨HA1.out, HA2.out⟩ (fun hHeld => ?_)
  refine wpAnyH_take (i := 0) (v := .pointer (some ⟨w.heap.size, 0, none⟩)) rfl (by kernel_rfl) (by kernel_rfl) (by kernel_rfl) (fun _ _ _ h => h) (Or.inl ⟨by rfl, ?y6⟩) (by assumption) ?r6
  case y6 => (intro w hSw; obtain ⟨s1, s2⟩ := hSw; have t0 := s1.cell 0 rfl; have t1 := s1.cell 1 rfl; have t5 := s2.cell 5 rfl; have t6 := s2.cell 6 rfl; have t7 := s2.cell 7 rfl; clear s1 s2; go_simp)
  simp only [Act.put]
  refine wpAnyH_take (i := 1) (v := .pointer (some ⟨d, 0, none⟩)) rfl (by kernel_rfl) (by kernel_rfl) (by kernel_rfl) (fun _ _ _ h => h) (Or.inl ⟨by rfl, ?y7⟩) (by assumption) ?r7
  case y7 => (intro w hSw; obtain ⟨s1, s2⟩ := hSw; have t0 := s1.cell 0 rfl; have t1 := s1.cell 1 rfl; have t5 := s2.cell 5 rfl; have t6 := s2.cell 6 rfl; have t7 := s2.cell 7 rfl; clear s1 s2; go_simp)
  simp only [Act.put]
  refine wpAnyH_take (i := 2) (v := .pointer (some ⟨w.heap.size + 1, 5, none⟩)) rfl (by kernel_rfl) (by kernel_rfl) (by kernel_rfl) (fun _ _ _ h => h) (Or.inl ⟨by rfl, ?y8⟩) (by assumption) ?r8
  case y8 => (intro w hSw; obtain ⟨s1, s2⟩ := hSw; have t0 := s1.cell 0 rfl; have t1 := s1.cell 1 rfl; have t5 := s2.cell 5 rfl; have t6 := s2.cell 6 rfl; have t7 := s2.cell 7 rfl; clear s1 s2; go_simp)
  simp only [Act.put]
  refine wpAnyH_take (i := 3) (v := .agg #[.int .i64 t0, .int .i64 t1, .bool t2]) rfl (by kernel_rfl) (by kernel_rfl) (by kernel_rfl) (fun _ _ _ h => h) (Or.inl ⟨by rfl, ?y9⟩) (by assumption) ?r9
  case y9 => (intro w hSw; obtain ⟨s1, s2⟩ := hSw; have t0 := s1.cell 0 rfl; have t1 := s1.cell 1 rfl; have t5 := s2.cell 5 rfl; have t6 := s2.cell 6 rfl; have t7 := s2.cell 7 rfl; clear s1 s2; go_simp)
  simp only [Act.put]
  refine wpAnyH_take (i := 6) (v := .pointer (some ⟨w.heap.size, 1, none⟩)) rfl (by kernel_rfl) (by kernel_rfl) (by kernel_rfl) (fun _ _ _ h => h) (Or.inl ⟨by rfl, ?y10⟩) (by assumption) ?r10
  case y10 => (intro w hSw; obtain ⟨s1, s2⟩ := hSw; have t0 := s1.cell 0 rfl; have t1 := s1.cell 1 rfl; have t5 := s2.cell 5 rfl; have t6 := s2.cell 6 rfl; have t7 := s2.cell 7 rfl; clear s1 s2; go_simp)
  simp only [Act.put]
  refine wpAnyH_take (i := 7) (v := .pointer (some ⟨q, 0, none⟩)) rfl (by kernel_rfl) (by kernel_rfl) (by kernel_rfl) (fun _ _ _ h => h) (Or.inl ⟨by rfl, ?y11⟩) (by assumption) ?r11
  case y11 => (intro w hSw; obtain ⟨s1, s2⟩ := hSw; have t0 := s1.cell 0 rfl; have t1 := s1.cell 1 rfl; have t5 := s2.cell 5 rfl; have t6 := s2.cell 6 rfl; have t7 := s2.cell 7 rfl; clear s1 s2; go_simp)
  simp only [Act.put]
  refine wpAnyH_take (i := 8) (v := .pointer (some ⟨w.heap.size + 1, 5, none⟩)) rfl (by kernel_rfl) (by kernel_rfl) (by kernel_rfl) (fun _ _ _ h => h) (Or.inl ⟨by rfl, ?y12⟩) (by assumption) ?r12
  case y12 => (intro w hSw; obtain ⟨s1, s2⟩ := hSw; have t0 := s1.cell 0 rfl; have t1 := s1.cell 1 rfl; have t5 := s2.cell 5 rfl; have t6 := s2.cell 6 rfl; have t7 := s2.cell 7 rfl; clear s1 s2; go_simp)
  simp only [Act.put]
  refine wpAnyH_take (i := 9) (v := .agg #[.int .i64 t0, .int .i64 t1, .bool t2]) rfl (by kernel_rfl) (by kernel_rfl) (by kernel_rfl) (fun _ _ _ h => h) (Or.inl ⟨by rfl, ?y13⟩) (by assumption) ?r13
  case y13 => (intro w hSw; obtain ⟨s1, s2⟩ := hSw; have t0 := s1.cell 0 rfl; have t1 := s1.cell 1 rfl; have t5 := s2.cell 5 rfl; have t6 := s2.cell 6 rfl; have t7 := s2.cell 7 rfl; clear s1 s2; go_simp)
  simp only [Act.put]
  have hHeld2 := hHeld
  clear hHeld
  refine wpAnyH_ready (rs := [4]) (by kernel_rfl) (by simp) (AllReadyH.cons rfl (fun KK' hK => ?_) AllReadyH.nil)
  go_simp
  refine (pq_arm (HP.out.ext0 (Ext.refl Nil _).drew) hc ha t0 t1 t2).mono ?_
  rintro e w3 ⟨rfl, K3, hP3, hS3⟩
  have hHeld3 := And.intro (hHeld2.1.ext hS3.1 (fun hk => by have := HLT.out _ hk; omega)) (hHeld2.2.ext hS3.1 (fun hk => by have := HLT.out _ hk; omega))
  have HP3 := Lib.hid hP3; have HS3 := Lib.hid hS3
  have HL3 := Lib.hid (show ∀ k, K3 k → w.heap.size ≤ k → ¬ k < w.heap.size + 2 from fun k hk hl hl2 => (hS3.2 k hk).elim (fun h => absurd (HLT.out k h) (by omega)) fun h => absurd h (Nat.not_le.2 (Nat.lt_of_lt_of_le hl2 HSZ.out)))
  clear hP3 hS3
  go_wp2_with fail
  refine hK.out _ _ hHeld3 (fun hHeld => ?_)
  clear hK KK' hHeld
  refine wpAnyH_ready (rs := [5]) (by kernel_rfl) (by simp) (AllReadyH.cons rfl (fun KK' hK => ?_) AllReadyH.nil)
  go_simp
  refine (num_any _ _).mono ?_
  rintro e w' ⟨rfl, rfl⟩
  go_wp2_with fail
  refine hK.out _ _ hHeld3 (fun hHeld => ?_)
  clear hK KK' hHeld
  refine wpAnyH_ready (rs := [10]) (by kernel_rfl) (by simp) (AllReadyH.cons rfl (fun KK' hK => ?_) AllReadyH.nil)
  go_simp
  refine (qq_arm HP3.out hc ha t0 t1 t2).mono ?_
  rintro e w4 ⟨rfl, K4, hP4, hS4⟩
  have hHeld4 := And.intro (hHeld3.1.ext hS4.1 (fun hk => HL3.out _ hk (by omega) (by omega))) (hHeld3.2.ext hS4.1 (fun hk => HL3.out _ hk (by omega) (by omega)))
  have HP4 := Lib.hid hP4; have HS4 := Lib.hid hS4
  clear hP4 hS4
  go_wp2_with fail
  refine hK.out _ _ hHeld4 (fun hHeld => ?_)
  clear hK KK' hHeld
  refine wpAnyH_ready (rs := [11]) (by kernel_rfl) (by simp) (AllReadyH.cons rfl (fun KK' hK => ?_) AllReadyH.nil)
  go_simp
  refine (num_any _ _).mono ?_
  rintro e w' ⟨rfl, rfl⟩
  go_wp2_with fail
  refine hK.out _ _ hHeld4 (fun hHeld => ?_)
  clear hK KK' hHeld
  refine wpAnyH_take (i := 12) (v := .bool true) rfl (by kernel_rfl) (by kernel_rfl) (by kernel_rfl) (fun _ _ _ h => h) (Or.inl ⟨by rfl, ?y14⟩) (by assumption) ?r14
  case y14 => (intro w hSw; obtain ⟨s1, s2⟩ := hSw; have t0 := s1.cell 0 rfl; have t1 := s1.cell 1 rfl; have t5 := s2.cell 5 rfl; have t6 := s2.cell 6 rfl; have t7 := s2.cell 7 rfl; clear s1 s2; go_simp)
  simp only [Act.put]
  refine wpAnyH_take (i := 13) (v := .bool true) rfl (by kernel_rfl) (by kernel_rfl) (by kernel_rfl) (fun _ _ _ h => h) (Or.inl ⟨by rfl, ?y15⟩) (by assumption) ?r15
  case y15 => (intro w hSw; obtain ⟨s1, s2⟩ := hSw; have t0 := s1.cell 0 rfl; have t1 := s1.cell 1 rfl; have t5 := s2.cell 5 rfl; have t6 := s2.cell 6 rfl; have t7 := s2.cell 7 rfl; clear s1 s2; go_simp)
  simp only [Act.put]
  refine wpAnyH_done (by kernel_rfl) ?_ _
  go_simp
  go_wp2_with fail
  go_ret
  refine Stepped.ret ?_ (Stepped.of EW.out ⟨rfl, K4, HP4.out, (((Ext.refl K _).drew).same HS3.out.1).trans HS4.out.1 (fun i hi hk => (HS3.out.2 i hk).elim id fun h => absurd hi (Nat.not_lt.2 h)), fun k hk => (HS4.out.2 k hk).elim (fun h => (HS3.out.2 k h).imp id fun h => h) fun h => .inr (Nat.le_trans HS3.out.1.size h)⟩)
  rfl
theorem step_m (w : World) (d q : Nat) (D : Dk) (K : Nat → Prop) (h : PQ w d q D D K) (o : OpD) (B : List UInt8) (ks : List Int) (ho : OpOk w o B ks) (hoK : ∀ k, inFoot (.slice o.dx o.dn o.dc) k → ¬ K k) (hoK2 : ∀ k, inFoot (.slice o.kx o.kn o.kc) k → ¬ K k) (hc : D.calls ≤ 1099511627776) (ha : D.arms.length ≤ 1099511627776) (hb : B.length ≤ 1073741824) (hkl : ks.length ≤ 1073741824) :
    Calls Try.prog 41 #[.agg #[.pointer (some ⟨d, 0, none⟩), .pointer (some ⟨q, 0, none⟩)], .agg o.cells.toArray] w (Stepped w d q K (D.steps o B)) := by
  by_cases h1 : o.K = 1
  · exact step1_m w d q D K h o B ks ho hoK hoK2 hc ha hb hkl h1
  by_cases h2 : o.K = 2
  · exact step2_m w d q D K h o B ks ho hoK hoK2 hc ha hb hkl h2
  by_cases h3 : o.K = 3
  · exact step3_m w d q D K h o B ks ho hoK hoK2 hc ha hb hkl h3
  by_cases h4 : o.K = 4
  · exact step4_m w d q D K h o B ks ho hoK hoK2 hc ha hb hkl h4
  by_cases h5 : o.K = 5
  · exact step5_m w d q D K h o B ks ho hoK hoK2 hc ha hb hkl h5
  by_cases h6 : o.K = 6
  · exact step6_m w d q D K h o B ks ho hoK hoK2 hc ha hb hkl h6
  by_cases h7 : o.K = 7
  · exact step7_m w d q D K h o B ks ho hoK hoK2 hc ha hb hkl h7
  by_cases h8 : o.K = 8
  · exact step8_m w d q D K h o B ks ho hoK hoK2 hc ha hb hkl h8
  by_cases h9 : o.K = 9
  · exact step9_m w d q D K h o B ks ho hoK hoK2 hc ha hb hkl h9
  by_cases h10 : o.K = 10
  · exact step10_m w d q D K h o B ks ho hoK hoK2 hc ha hb hkl h10
  by_cases h11 : o.K = 11
  · exact step11_m w d q D K h o B ks ho hoK hoK2 hc ha hb hkl h11
  by_cases h12 : o.K = 12
  · exact step12_m w d q D K h o B ks ho hoK hoK2 hc ha hb hkl h12
  exact step0_m w d q D K h o B ks ho hoK hoK2 hc ha hb hkl ⟨h1, h2, h3, h4, h5, h6, h7, h8, h9, h10, h11, h12⟩
end Go.Proofs.Ytnppneilbkmnfaa
