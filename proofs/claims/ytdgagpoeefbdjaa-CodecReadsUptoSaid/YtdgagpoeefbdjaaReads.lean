/- The call of the law CodecReads. Conditions: the reads can be read; the bytes fit into memory. -/
import Derived.Test.YtdgagpoeefbdjaaQs
import Derived.Test.YtdgagpoeefbdjaaApart
import Derived.Test.YtdgagpoeefbdjaaRoom
import Derived.Test.YtdgagpoeefbdjaaWrites
namespace Go.Proofs.Ytdgagpoeefbdjaa
open Go.RowKit

def col5 (m1 m2 m4 m5 m6 m7 k : Nat) : Nat := if k < m1 then 0 else if k < m2 then 1 else if k < m4 then 0 else if k < m5 then 3 else if k < m6 then 2 else if k < m7 then 4 else 5

/-- a mark of the turned answers -/
theorem mark_reads (k : Nat) : ∃ m : UInt8, (m.toNat : Int) = (200 : Int) + (k : Int) % 50 := by
  refine ⟨UInt8.ofNat (200 + k % 50), ?_⟩
  rw [UInt8.toNat_ofNat']
  omega

theorem full_mark (k : Nat) (w : World) (x : Value) (l : List UInt8) (hl : OwnB w x l) (hfit : Fits (l.length + 40)) :
    Calls Try.prog 48 #[x, .int .u8 ((200 : Int) + (k : Int) % 50)] w fun e w' => ∃ ao cap, e = .returned (.slice ao (l.length + 40) cap) ∧ Step (inFoot x) w (inFoot (.slice ao (l.length + 40) cap)) w' := by
  obtain ⟨m, hm⟩ := mark_reads k
  rw [← hm]
  refine (full_any w x l m hl hfit).mono ?_
  rintro e w' ⟨ao, cap, h1, -, h2⟩
  exact ⟨ao, cap, h1, h2⟩

/-- what a round keeps: answers in their cells, rows of bytes; all of it newer than S0 -/
def Kept (S0 : Nat) (A : List (Nat × List Value)) (B : List (Value × List UInt8)) (V : World) : Prop := (∀ x ∈ A, S0 ≤ x.1 ∧ At V x.1 49 x.2) ∧ (∀ y ∈ B, OwnB V y.1 y.2 ∧ ∀ k, inFoot y.1 k → S0 ≤ k)
theorem Kept.ext {S0 : Nat} {A : List (Nat × List Value)} {B : List (Value × List UInt8)} {V V' : World} {G : Nat → Prop} (h : Kept S0 A B V) (e : Ext G V V') (hG : ∀ k, G k → k < S0) : Kept S0 A B V' :=
  ⟨fun x hx => ⟨(h.1 x hx).1, (h.1 x hx).2.ext e fun hk => by have := hG _ hk; have := (h.1 x hx).1; omega⟩,
    fun y hy => ⟨(h.2 y hy).1.ext e fun k hk hk2 => by have := hG _ hk2; have := (h.2 y hy).2 k hk; omega, (h.2 y hy).2⟩⟩
theorem Kept.add {S0 : Nat} {A : List (Nat × List Value)} {B : List (Value × List UInt8)} {V V1 : World} {q : Nat} {x : Value} {X : List UInt8} {N : Nat} (h : Kept S0 A B V) (e : Ext (One q) V V1) (hq : q < S0) (hx : OwnB V1 x X) (hf : ∀ k, inFoot x k → V.heap.size ≤ k) (hS : S0 ≤ V.heap.size) :
    Kept S0 ((V1.heap.size, [.int .u64 N, x]) :: A) ((x, X) :: B) (V1.alloc (.cells #[.int .u64 N, x] 49)) := by
  have h1 := (h.ext e fun k hk => by have hk : k = q := hk; omega).ext ((Ext.refl Nil V1).alloc (.cells #[.int .u64 N, x] 49)) fun _ h => h.elim
  have hsz := e.size
  refine ⟨fun y hy => ?_, fun y hy => ?_⟩
  · rcases List.mem_cons.1 hy with rfl | hy
    · exact ⟨by show S0 ≤ V1.heap.size; omega, At.new V1 [.int .u64 N, x] _⟩
    · exact h1.1 y hy
  · rcases List.mem_cons.1 hy with rfl | hy
    · exact ⟨hx.alloc _, fun k hk => by have := hf k hk; omega⟩
    · exact h1.2 y hy

theorem paint_ge {c : Nat → Nat} {m i : Nat} (h : c i = 5) : paint c m 5 i = 5 := by
  unfold paint
  split
  · exact h
  · rfl
theorem alloc_le {n : Nat} {w : World} {o : Obj} (h : n ≤ w.heap.size) : n ≤ (w.alloc o).heap.size := by simp; omega

theorem reads_init {w w1 w2 w4 w5 w6 W : World} {p1 q1 p2 q2 : Nat} {v1 u1 v2 u2 : Value} {bs cs : List UInt8} (hR1 : RdAt W p1 v1 bs 0 0) (hQ1 : QAt W q1 u1 bs 0 0) (hR2 : RdAt W p2 v2 cs 0 0) (hQ2 : QAt W q2 u2 cs 0 0) (hX : Ext Nil w W)
    (g1 : ∀ k, PF p1 v1 k → w1.heap.size ≤ k) (g2 : ∀ k, PF p2 v2 k → w4.heap.size ≤ k) (g3 : ∀ k, PF q1 u1 k → w5.heap.size ≤ k) (g4 : ∀ k, PF q2 u2 k → w6.heap.size ≤ k)
    (l1 : ∀ k, PF p1 v1 k → k < w2.heap.size) (l2 : ∀ k, PF p2 v2 k → k < w5.heap.size) (l3 : ∀ k, PF q1 u1 k → k < w6.heap.size)
    (s0 : w.heap.size ≤ w1.heap.size) (s1 : w1.heap.size ≤ w2.heap.size) (s2 : w2.heap.size ≤ w4.heap.size) (s4 : w4.heap.size ≤ w5.heap.size) (s5 : w5.heap.size ≤ w6.heap.size) (s6 : w6.heap.size ≤ W.heap.size) :
    ∃ c, RS w (W.alloc BK0) c p1 v1 q1 u1 p2 v2 q2 u2 bs cs 0 0 0 0 0 0 0 0 W.heap.size 0 (BookF W.heap.size (.slice none 0 0) (.slice none 0 0) (.slice none 0 0) (.slice none 0 0) []) := by
  have l4 := hQ2.ltF
  have hsz : (W.alloc BK0).heap.size = W.heap.size + 1 := by simp
  have hE : Ext Nil W (W.alloc BK0) := (Ext.refl _ _).alloc _
  refine ⟨col5 w1.heap.size w2.heap.size w4.heap.size w5.heap.size w6.heap.size W.heap.size, hR1.ext hE fun _ _ h => h, hQ1.nil hE, hR2.ext hE fun _ _ h => h, hQ2.nil hE, book_new W, ?_, ?_, ?_, ?_, ?_, ?_, hX.same hE⟩
  · intro k hk
    have h1 := g1 k hk
    have h2 := l1 k hk
    rw [hsz]
    refine ⟨?_, by omega⟩
    unfold col5
    rw [if_neg (by omega), if_pos (by omega)]
  · intro k hk
    have h1 := g3 k hk
    have h2 := l3 k hk
    rw [hsz]
    refine ⟨?_, by omega⟩
    unfold col5
    rw [if_neg (by omega), if_neg (by omega), if_neg (by omega), if_neg (by omega), if_pos (by omega)]
  · intro k hk
    have h1 := g2 k hk
    have h2 := l2 k hk
    rw [hsz]
    refine ⟨?_, by omega⟩
    unfold col5
    rw [if_neg (by omega), if_neg (by omega), if_neg (by omega), if_pos (by omega)]
  · intro k hk
    have h1 := g4 k hk
    have h2 := l4 k hk
    rw [hsz]
    refine ⟨?_, by omega⟩
    unfold col5
    rw [if_neg (by omega), if_neg (by omega), if_neg (by omega), if_neg (by omega), if_neg (by omega), if_pos (by omega)]
  · intro k hk
    obtain rfl := bookF_new hk
    rw [hsz]
    refine ⟨?_, by omega⟩
    unfold col5
    rw [if_neg (by omega), if_neg (by omega), if_neg (by omega), if_neg (by omega), if_neg (by omega), if_neg (by omega)]
  · intro k hk
    by_cases hlt : k < w.heap.size
    · unfold col5 at hk
      rw [if_pos (by omega)] at hk
      exact absurd rfl hk
    · omega

set_option maxHeartbeats 600000 in
set_option maxRecDepth 20000 in
theorem reads_walk (w : World) (xv lv : Value) (bs : List UInt8) (l : List GetD) (hb : Bytes w xv bs) (hl : Gets w lv l) (hfit : Fits (bs.length + 50)) (hn : l.length ≤ 1048576) :
    Calls Try.prog 8 #[xv, lv] w fun e w' => e = .returned (.bool true) ∧ Ext Nil w w' := by
  obtain ⟨aol, capl, rfl, hlc, hlm, -⟩ := hl.open
  unfold maxLen at hlm
  obtain ⟨aox, capx, rfl, hxc, hxm, -⟩ := hb.open
  have hfit' : bs.length + 50 ≤ 1099511627776 := hfit
  go_enter Try.func8, Try.ntmps8
  go_wp2_with fail
  refine (lent_any w _ bs hb (by unfold Fits; omega)).mono ?_
  rintro e w1 ⟨g, cap, hg1, hg2, rfl, ho1, hs1⟩
  have hb1 := hb.ext hs1.1 fun _ _ h => h
  have hgw : w.heap.size ≤ g := (hs1.2 g rfl).resolve_left fun h => h
  have hgl : g < w1.heap.size := ho1.lt g (foot_cap (by omega))
  go_wp2_with fail
  refine (newReader_any w1 _ bs (lentBytes ho1) (by unfold Fits; omega)).mono ?_
  rintro e w2 ⟨p1, v1, rfl, hR1, hs2⟩
  have ho2 := ho1.ext hs2.1 fun _ _ h => h
  have hb2 := hb1.ext hs2.1 fun _ _ h => h
  have hP1 : ∀ k, PF p1 v1 k → w1.heap.size ≤ k := fun k hk => (hs2.2 k hk).resolve_left fun h => h
  have hR1' := hR1
  go_wp2_with fail
  refine (left_any w2 g cap _ bs ho2 hb2 (by unfold Fits; omega)).mono ?_
  rintro e w3 ⟨rfl, ho3, hx3⟩
  have hR3 := hR1.ext hx3 fun k hk e => by have e : k = g := e; have := hP1 k hk; omega
  have hX3 : Ext Nil w w3 := (hs1.1.same hs2.1).trans hx3 fun i hi e => by have e : i = g := e; omega
  have hcs : Bytes w3 (.slice (some ⟨g, 0, none⟩) bs.length cap) (bs.map (~~~ ·)) := by
    have h := ho3.bytes
    have hl2 : ((bs ++ [161, 162, 163]).map (~~~ ·)).length = bs.length + 3 := by simp
    rw [← hl2] at h
    have := h.cut bs.length (by rw [hl2]; omega)
    simpa [List.map_append] using this
  have hcl : (bs.map (~~~ ·)).length = bs.length := by simp
  generalize bs.map (~~~ ·) = cs at *
  have hfc : Fits cs.length := by unfold Fits; omega
  have hsrc := Reads.src (P := Try.prog) (hcs.alloc (.cells #[] 5 (0, 0))) Try.underlying29 (bvs_one cs)
  clear ho1 ho2 ho3 hb1 hb2 hR1
  go_wp2_with (at_builtin; refine wpList_append_fresh hsrc hfc rfl _ _ rfl rfl rfl ?_; intro ao4 cap4 w4 q41 q42 q43 q44)
  have hx4 : Ext Nil w3 w4 := ((Ext.refl Nil w3).alloc (.cells #[] 5 (0, 0))).same q44.1
  have hR4 := hR3.ext hx4 fun _ _ h => h
  have hcs4 := hcs.ext hx4 fun _ _ h => h
  have hX4 := hX3.same hx4
  have hmo4 : w3.heap.size ≤ w4.heap.size := hx4.size
  refine (newReader_any w4 _ cs hcs4 hfc).mono ?_
  rintro e w5 ⟨p2, v2, rfl, hR25, hs5⟩
  have hR25' := hR25
  have hR5 := hR4.ext hs5.1 fun _ _ h => h
  have hX5 := hX4.same hs5.1
  have hoth5 := q43.ext hs5.1 fun _ _ h => h
  have hP2 : ∀ k, PF p2 v2 k → w4.heap.size ≤ k := fun k hk => (hs5.2 k hk).resolve_left fun h => h
  have hb5 := hb.ext hX5 fun _ _ h => h
  go_wp2_with fail
  refine (newQ_any w5 _ bs hb5 (by unfold Fits; omega)).mono ?_
  rintro e w6 ⟨q1, u1, rfl, hQ6, hs6⟩
  have hQ6' := hQ6
  have hR6 := hR5.ext hs6.1 fun _ _ h => h
  have hR26 := hR25.ext hs6.1 fun _ _ h => h
  have hX6 := hX5.same hs6.1
  have hoth6 := hoth5.ext hs6.1 fun _ _ h => h
  have hQ1 : ∀ k, PF q1 u1 k → w5.heap.size ≤ k := fun k hk => (hs6.2 k hk).resolve_left fun h => h
  go_wp2_with fail
  have hb6 := hoth6.bytes
  rw [hcl] at hb6
  refine (newQ_any w6 _ cs hb6 hfc).mono ?_
  rintro e w7 ⟨q2, u2, rfl, hQ27, hs7⟩
  have hR7 := hR6.ext hs7.1 fun _ _ h => h
  have hR27 := hR26.ext hs7.1 fun _ _ h => h
  have hQ7 := hQ6.ext hs7.1 fun _ _ h => h
  have hX7 := hX6.same hs7.1
  have hQ2 : ∀ k, PF q2 u2 k → w6.heap.size ≤ k := fun k hk => (hs7.2 k hk).resolve_left fun h => h
  have z12 := hs1.1.size
  have z1 := hs2.1.size
  have z2 := hx3.size
  have z5 := hs5.1.size
  have z6 := hs6.1.size
  have z7 := hs7.1.size
  have t1 := hR1'.ltF
  clear hR3 hR4 hR5 hR6 hR25 hR26 hQ6 hcs hcs4 hoth5 hoth6 hX3 hX4 hX5 hX6 q43 q44 hsrc hb5
  go_wp2_with fail
  refine (stands_any hR7 hQ7).mono ?_
  rintro e w' ⟨rfl, n1, rfl⟩
  go_wp2_with fail
  refine (stands_any (hR27.drewN _) (hQ27.drewN _)).mono ?_
  rintro e w' ⟨rfl, n2, rfl⟩
  have hR8 := hR7.drewN (n1 + n2)
  have hR28 := hR27.drewN (n1 + n2)
  have hQ8 := hQ7.drewN (n1 + n2)
  have hQ28 := hQ27.drewN (n1 + n2)
  have hX8 := hX7.drewN (n1 + n2)
  have z8 : (w7.drewN (n1 + n2)).heap.size = w7.heap.size := rfl
  go_wp2_with fail
  have t2 := hR28.ltF
  have t3 := hQ8.ltF
  have t4 := hQ28.ltF
  generalize w7.drewN (n1 + n2) = W at *
  have hinit := reads_init (w1 := w1) (w2 := w2) (w4 := w4) (w5 := w5) (w6 := w6) hR8 hQ8 hR28 hQ28 hX8 hP1 hP2 hQ1 hQ2 t1 (hR25'.ltF) (hQ6'.ltF) (by omega) (by omega) (by omega) (by omega) (by omega) (by omega)
  rw [z8] at hinit
  clear hR7 hR27 hQ7 hQ27 hX7 hR8 hQ8 hR28 hQ28 hX8 hP1 hP2 hQ1 hQ2 t1 t2 t3 t4 z12 z1 z2 z5 z6 z7 z8 hR1' hR25' hQ6' hs1 hs2 hs5 hs6 hs7 hx3 hx4 hmo4 hgw hgl hb6 hg1 hg2
  generalize w7.heap.size = kb at *
  generalize W.alloc (.cells #[.slice none 0 0, .slice none 0 0, .slice none 0 0, .slice none 0 0] 35 (0, 0)) = W0 at *
  go_loopw [12] (fun i wr => ∃ k : Nat, k ≤ l.length ∧ i = .int .i64 k ∧ ∃ c a1 e1 a2 e2 n F, RS w wr c p1 v1 q1 u1 p2 v2 q2 u2 bs cs a1 e1 a1 e1 a2 e2 a2 e2 kb n F ∧ n ≤ k) (fun i _ => l.length - (intOf i).toNat)
  case atStart =>
    obtain ⟨c, hc⟩ := hinit
    exact ⟨0, Nat.zero_le _, rfl, c, 0, 0, 0, 0, 0, _, hc, Nat.le_refl _⟩
  case round =>
    obtain ⟨k, hk, rfl, c, a1, e1, a2, e2, n, F, hs, hnk⟩ := hrel
    clear hinit
    by_cases hlt : k < l.length
    · obtain ⟨aol', capl', e, _, _, hcl2⟩ := hl.open
      simp only [Value.slice.injEq, true_and] at e
      obtain ⟨rfl, rfl⟩ := e
      obtain ⟨b, off, rfl, hcm⟩ := hcl2 (by intro e; subst e; simp at hlt)
      have hgg := hl.each l[k] (List.getElem_mem hlt)
      obtain ⟨g0, g1, g2⟩ := hcm k hlt
      clear hcm hcl2
      generalize l[k] = gd at *
      obtain ⟨K, A, B⟩ := gd
      obtain ⟨hK, hA, hB⟩ := hgg
      simp only at g0 g1 g2 hK hA hB
      have hbw : b < w.heap.size := cell_lt g0
      have HG := Lib.hid (fun (V : World) (e : Ext Nil w V) => e.cell g0 fun h => h)
      have HG1 := Lib.hid (fun (V : World) (e : Ext Nil w V) => e.cell g1 fun h => h)
      have HG2 := Lib.hid (fun (V : World) (e : Ext Nil w V) => e.cell g2 fun h => h)
      have hfb : Fits bs.length := by unfold Fits; omega
      have hr1 := fun (V : World) (h : RdAt V p1 v1 bs a1 e1) => law_any h K A B hK hA hB
      have ht1 := fun (V : World) (h : QAt V q1 u1 bs a1 e1) => told_any h K A B hK hA hB
      have hr2 := fun (V : World) (h : RdAt V p2 v2 cs a2 e2) => law_any h K A B hK hA hB
      have ht2 := fun (V : World) (h : QAt V q2 u2 cs a2 e2) => told_any h K A B hK hA hB
      have hbe1 := (rdE_bounds e1 (K % 9) A B (bs.drop a1) hA.2).2.1
      have hbe2 := (rdE_bounds e2 (K % 9) A B (cs.drop a2) hA.2).2.1
      rw [drop_len] at hbe1 hbe2
      generalize rdE e1 (K % 9) A B (bs.drop a1) = r1 at *
      generalize rdE e2 (K % 9) A B (cs.drop a2) = r2 at *
      obtain ⟨er1, kk1, N1, X1⟩ := r1
      obtain ⟨er2, kk2, N2, X2⟩ := r2
      simp only at hbe1 hbe2
      have hF0 := hs.bk.lt
      have HQ := Lib.hid (show p1 < wr.heap.size ∧ q1 < wr.heap.size ∧ p2 < wr.heap.size ∧ q2 < wr.heap.size from ⟨hs.r1.cells.lt, hs.k1.cells.lt, hs.r2.cells.lt, hs.k2.cells.lt⟩)
      have HR1 := Lib.hid hr1
      have HT1 := Lib.hid ht1
      have HR2 := Lib.hid hr2
      have HT2 := Lib.hid ht2
      have HFF := Lib.hid hF0
      have d0 := HG.out _ hs.e
      have d1 := HG1.out _ hs.e
      have d2 := HG2.out _ hs.e
      have K0 : Kept wr.heap.size [] [] wr := ⟨fun x hx => (List.not_mem_nil hx).elim, fun x hx => (List.not_mem_nil hx).elim⟩
      have z0 : wr.heap.size ≤ wr.heap.size := Nat.le_refl _
      clear hr1 ht1 hr2 ht2 g0 g1 g2 hF0

      go_wp2_with fail
      refine (HR1.out _ hs.r1).mono ?_
      rintro e w1a ⟨x1a, rfl, ⟨ao1a, cap1a, h1a1, h1a2, rfl, ho1a, hf1a⟩, hR1a, hX1a⟩
      simp only at hR1a ho1a hf1a ⊢
      have s1a := (hs.move1 hR1a hX1a).ext ((Ext.refl Nil w1a).alloc (.cells #[.int .u64 N1, .slice ao1a X1.length cap1a] 49))
      have K1a := K0.add (N := N1) hX1a (HQ.out.1) ho1a hf1a z0
      have z1a := Nat.le_trans z0 hX1a.size
      have d0 := HG.out _ s1a.e
      have d1 := HG1.out _ s1a.e
      have d2 := HG2.out _ s1a.e
      have y1a := alloc_le (o := .cells #[.int .u64 N1, .slice ao1a X1.length cap1a] 49) z1a
      generalize hb1a : w1a.heap.size = b1a at *
      generalize hW1a : w1a.alloc (.cells #[.int .u64 N1, .slice ao1a X1.length cap1a] 49) = V1a at *
      clear ho1a hf1a hR1a hX1a K0

      go_wp2_with fail
      refine (HT1.out _ s1a.k1).mono ?_
      rintro e w1b ⟨x1b, rfl, ⟨ao1b, cap1b, h1b1, h1b2, rfl, ho1b, hf1b⟩, hR1b, hX1b⟩
      simp only at hR1b ho1b hf1b ⊢
      have s1b := (s1a.move2 hR1b hX1b).ext ((Ext.refl Nil w1b).alloc (.cells #[.int .u64 N1, .slice ao1b X1.length cap1b] 49))
      have K1b := K1a.add (N := N1) hX1b (HQ.out.2.1) ho1b hf1b y1a
      have z1b := Nat.le_trans y1a hX1b.size
      have d0 := HG.out _ s1b.e
      have d1 := HG1.out _ s1b.e
      have d2 := HG2.out _ s1b.e
      have y1b := alloc_le (o := .cells #[.int .u64 N1, .slice ao1b X1.length cap1b] 49) z1b
      generalize hb1b : w1b.heap.size = b1b at *
      generalize hW1b : w1b.alloc (.cells #[.int .u64 N1, .slice ao1b X1.length cap1b] 49) = V1b at *
      clear ho1b hf1b hR1b hX1b K1a s1a y1a z1a hs

      have A1a := (K1b.1 (b1a, [.int .u64 N1, .slice ao1a X1.length cap1a]) (by simp)).2
      have A1b := (K1b.1 (b1b, [.int .u64 N1, .slice ao1b X1.length cap1b]) (by simp)).2
      have m1a0 := A1a.cell 0 rfl
      have m1a1 := A1a.cell 1 rfl
      have m1b0 := A1b.cell 0 rfl
      have m1b1 := A1b.cell 1 rfl
      have B1a := (K1b.2 (.slice ao1a X1.length cap1a, X1) (by simp)).1.bytes
      have B1b := (K1b.2 (.slice ao1b X1.length cap1b, X1) (by simp)).1.bytes
      clear A1a A1b
      go_wp2_with fail
      refine (same_out B1a B1b).mono ?_
      rintro e w' ⟨rfl, n1a, rfl⟩
      go_wp2_with fail
      refine (stands_any (s1b.r1.drewN _) (s1b.k1.drewN _)).mono ?_
      rintro e w' ⟨rfl, n1b, rfl⟩
      have s1c := s1b.ext ((Ext.refl Nil V1b).drewN (n1a + n1b))
      have K1c := K1b.ext ((Ext.refl Nil V1b).drewN (n1a + n1b)) fun _ h => h.elim
      have z1c : wr.heap.size ≤ (V1b.drewN (n1a + n1b)).heap.size := y1b
      have d0 := HG.out _ s1c.e
      have d1 := HG1.out _ s1c.e
      have d2 := HG2.out _ s1c.e
      clear m1a0 m1a1 m1b0 m1b1
      have m1a0 := (K1c.1 (b1a, [.int .u64 N1, .slice ao1a X1.length cap1a]) (by simp)).2.cell 0 rfl
      have m1a1 := (K1c.1 (b1a, [.int .u64 N1, .slice ao1a X1.length cap1a]) (by simp)).2.cell 1 rfl
      have m1b0 := (K1c.1 (b1b, [.int .u64 N1, .slice ao1b X1.length cap1b]) (by simp)).2.cell 0 rfl
      have m1b1 := (K1c.1 (b1b, [.int .u64 N1, .slice ao1b X1.length cap1b]) (by simp)).2.cell 1 rfl
      go_wp2_with fail
      generalize hV1c : V1b.drewN (n1a + n1b) = V1c at *

      refine (HR2.out _ s1c.r2).mono ?_
      rintro e w2a ⟨x2a, rfl, ⟨ao2a, cap2a, h2a1, h2a2, rfl, ho2a, hf2a⟩, hR2a, hX2a⟩
      simp only at hR2a ho2a hf2a ⊢
      have s2a := (s1c.move3 hR2a hX2a).ext ((Ext.refl Nil w2a).alloc (.cells #[.int .u64 N2, .slice ao2a X2.length cap2a] 49))
      have K2a := K1c.add (N := N2) hX2a (HQ.out.2.2.1) ho2a hf2a z1c
      have z2a := Nat.le_trans z1c hX2a.size
      have d0 := HG.out _ s2a.e
      have d1 := HG1.out _ s2a.e
      have d2 := HG2.out _ s2a.e
      have y2a := alloc_le (o := .cells #[.int .u64 N2, .slice ao2a X2.length cap2a] 49) z2a
      generalize hb2a : w2a.heap.size = b2a at *
      generalize hW2a : w2a.alloc (.cells #[.int .u64 N2, .slice ao2a X2.length cap2a] 49) = V2a at *
      have hsepz : Sep (inFoot (.slice ao1a X1.length cap1a)) (inFoot (.slice ao2a X2.length cap2a)) := fun i h1 h2 => by
        have g1 := (K1c.2 (.slice ao1a X1.length cap1a, X1) (by simp)).1.lt i h1
        have g2 := hf2a i h2
        omega
      clear ho2a hf2a hR2a hX2a K1c s1b K1b B1a B1b

      go_wp2_with fail
      refine (HT2.out _ s2a.k2).mono ?_
      rintro e w2b ⟨x2b, rfl, ⟨ao2b, cap2b, h2b1, h2b2, rfl, ho2b, hf2b⟩, hR2b, hX2b⟩
      simp only at hR2b ho2b hf2b ⊢
      have s2b := (s2a.move4 hR2b hX2b).ext ((Ext.refl Nil w2b).alloc (.cells #[.int .u64 N2, .slice ao2b X2.length cap2b] 49))
      have K2b := K2a.add (N := N2) hX2b (HQ.out.2.2.2) ho2b hf2b y2a
      have z2b := Nat.le_trans y2a hX2b.size
      have d0 := HG.out _ s2b.e
      have d1 := HG1.out _ s2b.e
      have d2 := HG2.out _ s2b.e
      have y2b := alloc_le (o := .cells #[.int .u64 N2, .slice ao2b X2.length cap2b] 49) z2b
      generalize hb2b : w2b.heap.size = b2b at *
      generalize hW2b : w2b.alloc (.cells #[.int .u64 N2, .slice ao2b X2.length cap2b] 49) = V2b at *
      clear ho2b hf2b hR2b hX2b K2a s2a y2a z2a s1c

      have A2a := (K2b.1 (b2a, [.int .u64 N2, .slice ao2a X2.length cap2a]) (by simp)).2
      have A2b := (K2b.1 (b2b, [.int .u64 N2, .slice ao2b X2.length cap2b]) (by simp)).2
      have m2a0 := A2a.cell 0 rfl
      have m2a1 := A2a.cell 1 rfl
      have m2b0 := A2b.cell 0 rfl
      have m2b1 := A2b.cell 1 rfl
      have B2a := (K2b.2 (.slice ao2a X2.length cap2a, X2) (by simp)).1.bytes
      have B2b := (K2b.2 (.slice ao2b X2.length cap2b, X2) (by simp)).1.bytes
      clear A2a A2b
      go_wp2_with fail
      refine (same_out B2a B2b).mono ?_
      rintro e w' ⟨rfl, n2a, rfl⟩
      go_wp2_with fail
      refine (stands_any (s2b.r2.drewN _) (s2b.k2.drewN _)).mono ?_
      rintro e w' ⟨rfl, n2b, rfl⟩
      have s2c := s2b.ext ((Ext.refl Nil V2b).drewN (n2a + n2b))
      have K2c := K2b.ext ((Ext.refl Nil V2b).drewN (n2a + n2b)) fun _ h => h.elim
      have z2c : wr.heap.size ≤ (V2b.drewN (n2a + n2b)).heap.size := y2b
      have d0 := HG.out _ s2c.e
      have d1 := HG1.out _ s2c.e
      have d2 := HG2.out _ s2c.e
      clear m2a0 m2a1 m2b0 m2b1
      have m2a0 := (K2c.1 (b2a, [.int .u64 N2, .slice ao2a X2.length cap2a]) (by simp)).2.cell 0 rfl
      have m2a1 := (K2c.1 (b2a, [.int .u64 N2, .slice ao2a X2.length cap2a]) (by simp)).2.cell 1 rfl
      have m2b0 := (K2c.1 (b2b, [.int .u64 N2, .slice ao2b X2.length cap2b]) (by simp)).2.cell 0 rfl
      have m2b1 := (K2c.1 (b2b, [.int .u64 N2, .slice ao2b X2.length cap2b]) (by simp)).2.cell 1 rfl
      have x1c := (K2c.2 (.slice ao1a X1.length cap1a, X1) (by simp))
      have x1d := (K2c.2 (.slice ao1b X1.length cap1b, X1) (by simp))
      have x2c := (K2c.2 (.slice ao2a X2.length cap2a, X2) (by simp))
      have A1a := (K2c.1 (b1a, [.int .u64 N1, .slice ao1a X1.length cap1a]) (by simp))
      have A1b := (K2c.1 (b1b, [.int .u64 N1, .slice ao1b X1.length cap1b]) (by simp))
      have A2a := (K2c.1 (b2a, [.int .u64 N2, .slice ao2a X2.length cap2a]) (by simp))
      have t1b1 := (K2b.1 (b1b, [.int .u64 N1, .slice ao1b X1.length cap1b]) (by simp)).2.cell 1 rfl
      have t2a1 := (K2b.1 (b2a, [.int .u64 N2, .slice ao2a X2.length cap2a]) (by simp)).2.cell 1 rfl
      obtain ⟨C, sC, hC5⟩ : ∃ C, RS w (V2b.drewN (n2a + n2b)) C p1 v1 q1 u1 p2 v2 q2 u2 bs cs (a1 + kk1) er1 (a1 + kk1) er1 (a2 + kk2) er2 (a2 + kk2) er2 kb n F ∧ ∀ i, wr.heap.size ≤ i → C i = 5 := ⟨_, s2c, fun i hi => by repeat (first | exact paint_new hi | apply paint_ge)⟩
      have X1C := Lib.hid x1c
      have X1D := Lib.hid x1d
      have X2C := Lib.hid x2c
      have HC5 := Lib.hid hC5
      have HSZ := Lib.hid hsepz
      clear x1c x1d x2c hC5 hsepz
      clear m2a0 m2a1 m2b0 m2b1 m1a0 m1a1 m1b0 m1b1 K2c K2b B2a B2b s2b d0 d1 d2 s2c
      clear HR1 HT1 HR2 HT2 HG HG1 HG2
      have hfz : Fits (X2.length + 40) := by unfold Fits; rw [hcl] at hbe2; omega
      by_cases hx0 : 0 < X1.length
      · have hx0' : (0 : Int) < (X1.length : Int) := by omega
        go_wp2_with fail
        clear t1b1 t2a1
        generalize V2b.drewN (n2a + n2b) = V at *
        have m1a1 := A1a.2.cell 1 rfl
        have m1b1 := A1b.2.cell 1 rfl
        have m2a1 := A2a.2.cell 1 rfl
        have c1a : V.drew.cell? ⟨b1a, 1, none⟩ = some (.slice ao1a X1.length cap1a) := m1a1
        have c1b : V.drew.cell? ⟨b1b, 1, none⟩ = some (.slice ao1b X1.length cap1b) := m1b1
        have la := A1a.2.lt
        have lb := A1b.2.lt
        have hfX : Fits X1.length := by unfold Fits; omega
        have hfX4 : Fits (X1.length + 40) := by unfold Fits; omega
        have hn4 : n ≤ 4194304 := by omega
        have hVd : (V.alloc (.cells #[] 5 (0, 0))).drew.heap.size = V.heap.size + 1 := by simp [World.drew]
        have HAV := Lib.hid (show Sep (inFoot (.slice ao1a X1.length cap1a)) F from fun i h1 h2 => by have := X1C.out.2 i h1; have := HFF.out i h2; omega)
        have HCV := Lib.hid (show Sep (inFoot (.slice ao1b X1.length cap1b)) F from fun i h1 h2 => by have := X1D.out.2 i h1; have := HFF.out i h2; omega)
        have HZV := Lib.hid (show Sep (inFoot (.slice ao2a X2.length cap2a)) F from fun i h1 h2 => by have := X2C.out.2 i h1; have := HFF.out i h2; omega)
        have LTX := Lib.hid (X1C.out.1.lt)
        have LTZ := Lib.hid (X2C.out.1.lt)
        have hSV : wr.heap.size ≤ V.heap.size := by omega
        go_region_held3 (fun w' => w'.cell? ⟨b1a, 1, none⟩ = some (.slice ao1a X1.length cap1a) ∧ w'.cell? ⟨b1b, 1, none⟩ = some (.slice ao1b X1.length cap1b))
          (first
            | exact ⟨c1a, c1b⟩
            | exact ⟨((Ext.refl Nil V.drew).alloc _).cell c1a fun h => h, ((Ext.refl Nil V.drew).alloc _).cell c1b fun h => h⟩
            | exact ⟨hE5.cell m1a1 fun h => h, hE5.cell m1b1 fun h => h⟩
            | exact ⟨hX6.cell (hE5.cell m1a1 fun h => h) (HKP.out b1a A1a.1 la), hX6.cell (hE5.cell m1b1 fun h => h) (HKP.out b1b A1b.1 lb)⟩)
          (first
            | (refine step_append_bytes (Reads.src (P := Try.prog) (X1C.out.1.bytes.ext ((Ext.refl Nil V).alloc (.cells #[] 5 (0, 0))).drew fun _ _ h => h) Try.underlying29 (bvs_one X1)) hfX rfl _ _ rfl rfl rfl ?_; intro ao5 cap5 w5 r51 r52 r53 r54; have hE5 : Ext Nil V w5 := ((Ext.refl Nil V).alloc (.cells #[] 5 (0, 0))).drew.same r54.1; have hb51 : ∀ i, inFoot (.slice ao5 X1.length cap5) i → V.heap.size ≤ i := (fun i hi => by have := (r54.2 i hi).resolve_left fun h => h; omega); have HB5 := Lib.hid hb51; clear hb51; have hkp1 : ∀ bb, wr.heap.size ≤ bb → bb < V.heap.size → ¬ (F bb ∨ inFoot (.slice ao5 X1.length cap5) bb) := (fun bb h1 h2 h3 => h3.elim (fun h3 => by have := HFF.out bb h3; omega) (fun h3 => by have := HB5.out bb h3; omega)); have HKP := Lib.hid hkp1; clear hkp1)
            | (go_at_call 47; refine (note_any w5 kb n F (sC.bk.ext hE5 fun _ _ h => h) hn4 _ _ _ X1 hfX4 (X1C.out.1.bytes.ext hE5 fun _ _ h => h) r53 (X1D.out.1.bytes.ext hE5 fun _ _ h => h) HAV.out (fun i h1 h2 => by have := LTX.out i h1; have := HB5.out i h2; omega) (fun i h1 => Nat.lt_of_lt_of_le (LTX.out i h1) hE5.size) (fun i h1 h2 => by have := HB5.out i h1; have := HFF.out i h2; omega) HCV.out).mono ?_; rintro e w6 ⟨rfl, F', hB6, hX6, hF6⟩))
        have hsz5 := hE5.size
        have hsz6 := hX6.size
        have s6 := (sC.ext hE5).move5 hB6 hX6 (fun i hi _ => by
          apply paint_ge
          rcases hi with hi | hi
          · exact (sC.c5 i hi).1
          · exact HC5.out i (Nat.le_trans hSV (HB5.out i hi))) (fun i hi hl => by
          apply paint_ge
          rcases hF6 i hi with h2 | h2 | h2 | h2
          · exact (sC.c5 i h2).1
          · exact HC5.out i (X1C.out.2 i h2)
          · exact HC5.out i (Nat.le_trans hSV (HB5.out i h2))
          · omega)
        have hkz1 : ∀ i, inFoot (.slice ao2a X2.length cap2a) i → ¬ (F i ∨ inFoot (.slice ao5 X1.length cap5) i) := fun i h1 => HKP.out i (X2C.out.2 i h1) (LTZ.out i h1)
        have HKZ := Lib.hid hkz1
        clear hkz1
        have z6 := (X2C.out.1.ext hE5 fun _ _ h => h).ext hX6 HKZ.out
        have A6 := (A2a.2.ext hE5 fun h => h).ext hX6 (HKP.out b2a A2a.1 A2a.2.lt)
        have m6 := A6.cell 1 rfl
        have hsz : Sep F' (inFoot (.slice ao2a X2.length cap2a)) := fun i h1 h2 => by
          rcases hF6 i h1 with h3 | h3 | h3 | h3
          · exact HZV.out i h2 h3
          · exact HSZ.out i h3 h2
          · have := HB5.out i h3; have := LTZ.out i h2; omega
          · have := LTZ.out i h2; omega
        have HSP := Lib.hid hsz
        clear hsz
        have HF6 := Lib.hid hF6
        clear hF6
        have hfull := full_mark k w6 _ X2 z6 hfz
        clear m1a1 m1b1 m2a1 c1a c1b A1a A1b A2a HKP HKZ
        rename_i hHeld
        clear hHeld
        have hkk0 : (0 : Int) ≤ (k : Int) := by omega
        go_wp2_with fail
        refine hfull.mono ?_
        rintro e w7' ⟨ao7, cap7, rfl, hs7⟩
        have s7 := s6.move5 (s6.bk.ext hs7.1 HSP.out) hs7.1 (fun i hi _ => by
          apply paint_ge
          apply paint_ge
          exact HC5.out i (X2C.out.2 i hi)) (fun i hi _ => (s6.c5 i hi).1)
        go_wp2_with fail
        exact ⟨⟨k + 1, by omega, by go_num, _, _, _, _, _, _, _, s7, by omega⟩, by simp [intOf]; omega⟩
      · have hx0' : ¬ (0 : Int) < (X1.length : Int) := by omega
        have hzv1 : Sep F (inFoot (.slice ao2a X2.length cap2a)) := fun i h2 h1 => by have := X2C.out.2 i h1; have := HFF.out i h2; omega
        have HZV := Lib.hid hzv1
        clear hzv1
        go_wp2_with fail
        clear t1b1 t2a1
        generalize V2b.drewN (n2a + n2b) = V at *
        have hfull := full_mark k V _ X2 X2C.out.1 hfz
        refine hfull.mono ?_
        rintro e w7' ⟨ao7, cap7, rfl, hs7⟩
        have s7 := sC.move5 (sC.bk.ext hs7.1 HZV.out) hs7.1 (fun i hi _ => HC5.out i (X2C.out.2 i hi)) (fun i hi _ => (sC.c5 i hi).1)
        go_wp2_with fail
        exact ⟨⟨k + 1, by omega, by go_num, _, _, _, _, _, _, _, s7, by omega⟩, by simp [intOf]; omega⟩
    · obtain rfl : k = l.length := by omega
      have hbk := hs.bk
      have hee := hs.e
      clear hs
      have hn4 : n ≤ 4194304 := by omega
      go_wp2_with fail
      refine (holds_any wr kb n F hbk hn4).mono ?_
      rintro e w6 ⟨rfl, n6, rfl⟩
      go_wp2_with fail
      go_ret
      exact ⟨rfl, hee.drewN _⟩
end Go.Proofs.Ytdgagpoeefbdjaa
