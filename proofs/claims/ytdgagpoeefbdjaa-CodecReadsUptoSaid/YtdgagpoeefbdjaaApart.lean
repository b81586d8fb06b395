/- The call of the law CodecApart. -/
import Derived.Test.YtdgagpoeefbdjaaGen
namespace Go.Proofs.Ytdgagpoeefbdjaa
open Go.RowKit

theorem cell_lt {w : World} {a : Addr} {v : Value} (h : w.cell? a = some v) : a.block < w.heap.size := by
  unfold World.cell? at h
  by_cases hl : a.block < w.heap.size
  · exact hl
  · rw [Array.getElem?_eq_none (by omega)] at h
    simp at h

theorem filter_no {α : Type} {f : α → Bool} (l : List α) (k : Nat) (hk : k < l.length) (h : f l[k] = false) : (l.take (k + 1)).filter f = (l.take k).filter f := by
  rw [List.take_succ_eq_append_getElem hk, List.filter_append, List.filter_cons, h]
  simp
theorem filter_yes {α : Type} {f : α → Bool} (l : List α) (k : Nat) (hk : k < l.length) (h : f l[k] = true) : (l.take (k + 1)).filter f = (l.take k).filter f ++ [l[k]] := by
  rw [List.take_succ_eq_append_getElem hk, List.filter_append, List.filter_cons, h]
  simp

theorem alloc_size (w : World) (o : Obj) : (w.alloc o).heap.size = w.heap.size + 1 := by simp

structure TwinD where
  K : Int
  AK : Int
  AN : Nat
  Ax : Value
  AB : List UInt8
  BK : Int
  BN : Nat
  Bx : Value
  BB : List UInt8
def TwinD.cells (t : TwinD) : List Value := [.int .i64 t.K, .int .i64 t.AK, .int .u64 t.AN, t.Ax, .int .i64 t.BK, .int .u64 t.BN, t.Bx]

/-- a slice cut at its front -/
def cut (x : Value) (n : Nat) : Value := match x with | .slice ao _ c => .slice ao n c | v => v
def TwinD.a (t : TwinD) : PutD := if t.K % 9 = 5 then ⟨5, t.AN, cut t.Ax (min t.AB.length t.BB.length), t.AB.take (min t.AB.length t.BB.length)⟩ else ⟨t.K % 9, t.AN, t.Ax, t.AB⟩
def TwinD.b (t : TwinD) : PutD := if t.K % 9 = 5 then ⟨5, t.BN, cut t.Bx (min t.AB.length t.BB.length), t.BB.take (min t.AB.length t.BB.length)⟩ else ⟨t.K % 9, t.BN, t.Bx, t.BB⟩
def TwinD.may (t : TwinD) : Bool := t.a.may && t.b.may
def TwinD.like (t : TwinD) : Bool := decide (valN t.a.K t.a.N = valN t.b.K t.b.N ∧ valB t.a.K t.a.B = valB t.b.K t.b.B)

structure Twins (B0 : Nat) (w : World) (v : Value) (l : List TwinD) : Prop where
  reads : Reads w 7 v l.length (l.flatMap TwinD.cells)
  a : ∀ t ∈ l, PutOk w t.AK t.AN t.Ax t.AB
  b : ∀ t ∈ l, PutOk w t.BK t.BN t.Bx t.BB
  k : ∀ t ∈ l, -9223372036854775808 ≤ t.K ∧ t.K ≤ 9223372036854775807
  olda : ∀ t ∈ l, ∀ k, inFoot t.Ax k → k < B0
  oldb : ∀ t ∈ l, ∀ k, inFoot t.Bx k → k < B0

theorem Twins.head {B0 : Nat} {w : World} {ao : Option Addr} {n cap : Nat} {l : List TwinD} (h : Twins B0 w (.slice ao n cap) l) (hne : l ≠ []) :
    ∃ b off, ao = some ⟨b, off, none⟩ ∧ ∀ (k : Nat) (hk : k < l.length) (j : Nat), j < 7 → ∀ v, (l[k].cells)[j]? = some v → w.cell? ⟨b, off + k * 7 + j, none⟩ = some v := by
  obtain ⟨h1, ao', cap', e, h2, h3, h4⟩ := h.reads
  simp only [Value.slice.injEq] at e
  obtain ⟨rfl, _, rfl⟩ := e
  obtain ⟨b, off, e, hc⟩ := h4 (by
    cases l with
    | nil => exact absurd rfl hne
    | cons d l => simp [TwinD.cells])
  refine ⟨b, off, e, fun k hk j hj v hv => ?_⟩
  rw [Nat.add_assoc]
  refine hc _ _ ?_
  rw [flat_at TwinD.cells 7 (fun _ => rfl) l k hk j hj]
  exact hv

theorem Twins.ext {F : Nat → Prop} {B0 : Nat} {w w' : World} {v : Value} {l : List TwinD} (h : Twins B0 w v l) (e : Ext F w w') (hf : ∀ k, F k → B0 ≤ k) (hv : ∀ k, inFoot v k → ¬ F k) : Twins B0 w' v l :=
  ⟨h.reads.ext e hv, fun d hd => (h.a d hd).ext e fun k hk hF => by have := h.olda d hd k hk; have := hf k hF; omega,
    fun d hd => (h.b d hd).ext e fun k hk hF => by have := h.oldb d hd k hk; have := hf k hF; omega, h.k, h.olda, h.oldb⟩

theorem valX_shape {w : World} (K : Int) {x : Value} {B : List UInt8} (h : Bytes w x B) : ∃ ao n c, valX K x = .slice ao n c := by
  obtain ⟨ao, cap, rfl, -, -, -⟩ := h.open
  unfold valX
  split <;> exact ⟨_, _, _, rfl⟩
theorem valX_bytes {w : World} (K : Int) {x : Value} {B : List UInt8} (h : Bytes w x B) : Bytes w (valX K x) (valB K B) := by
  unfold valX valB
  split
  · exact h
  · exact Own.reads (t := 5) (Own.nil _ _ _)

/-- what stands in memory behind the elements L -/
structure ApAt (w wr : World) (L : List TwinD) (ao1 : Option Addr) (c1 : Nat) (ao2 : Option Addr) (c2 : Nat) : Prop where
  a : OwnPuts w.heap.size wr (.slice ao1 L.length c1) (L.map TwinD.a)
  b : OwnPuts w.heap.size wr (.slice ao2 L.length c2) (L.map TwinD.b)
  e : Ext Nil w wr
  fa : ∀ k, inFoot (.slice ao1 L.length c1) k → w.heap.size ≤ k
  fb : ∀ k, inFoot (.slice ao2 L.length c2) k → w.heap.size ≤ k
  ab : ∀ k, inFoot (.slice ao1 L.length c1) k → ¬ inFoot (.slice ao2 L.length c2) k
def ApRel (w wr : World) (L : List TwinD) (a b s : Value) : Prop :=
  s = .bool (L.all TwinD.like) ∧ ∃ ao1 c1 ao2 c2, a = .slice ao1 L.length c1 ∧ b = .slice ao2 L.length c2 ∧ ApAt w wr L ao1 c1 ao2 c2

theorem ApAt.ext {w wr w1 : World} {L : List TwinD} {ao1 ao2 : Option Addr} {c1 c2 : Nat} (h : ApAt w wr L ao1 c1 ao2 c2) (e : Ext Nil wr w1) : ApAt w w1 L ao1 c1 ao2 c2 :=
  ⟨h.a.ext e (fun _ h => h.elim) (fun _ _ h => h), h.b.ext e (fun _ h => h.elim) (fun _ _ h => h), h.e.same e, h.fa, h.fb, h.ab⟩

theorem OwnPuts.push {B0 : Nat} {w w1 : World} {ao : Option Addr} {c : Nat} {L : List PutD} {d : PutD} (hfl : ∀ d ∈ L, PutOk w d.K d.N d.x d.B) (hold : ∀ d ∈ L, ∀ k, inFoot d.x k → k < B0) {n : Nat} (hn : n = L.length + 1)
    (h1 : Own w1 39 3 (.slice ao n c) n (L.flatMap PutD.cells ++ d.cells)) (hd : PutOk w d.K d.N d.x d.B) (hdo : ∀ k, inFoot d.x k → k < B0) {F : Nat → Prop} (e : Ext F w w1) (hF : ∀ k, F k → B0 ≤ k) :
    OwnPuts B0 w1 (.slice ao n c) (L ++ [d]) := by
  subst hn
  refine ⟨?_, fun x hx => ?_, fun x hx => ?_⟩
  · rw [List.flatMap_append, List.length_append]
    simpa using h1
  · rcases List.mem_append.1 hx with hx | hx
    · exact (hfl x hx).ext e fun k hk hk2 => by have := hold x hx k hk; have := hF k hk2; omega
    · simp only [List.mem_singleton] at hx
      subst hx
      exact hd.ext e fun k hk hk2 => by have := hdo k hk; have := hF k hk2; omega
  · rcases List.mem_append.1 hx with hx | hx
    · exact hold x hx
    · simp only [List.mem_singleton] at hx
      subst hx
      exact hdo

theorem ApAt.push {w wr w4 w5 w6 : World} {L : List TwinD} {d : TwinD} {ao1 ao2 ao3 ao4 : Option Addr} {c1 c2 c3 c4 : Nat} {o1 o2 : Obj} (h : ApAt w wr L ao1 c1 ao2 c2) (hx : Ext Nil wr w4) {n m : Nat} (hn : n = L.length + 1) (hm : m = L.length + 1)
    (h1 : Own w5 39 3 (.slice ao3 n c3) n ((L.map TwinD.a).flatMap PutD.cells ++ d.a.cells)) (s1 : Step (inFoot (.slice ao1 L.length c1)) (w4.alloc o1) (inFoot (.slice ao3 n c3)) w5)
    (h2 : Own w6 39 3 (.slice ao4 m c4) m ((L.map TwinD.b).flatMap PutD.cells ++ d.b.cells)) (s2 : Step (inFoot (.slice ao2 L.length c2)) (w5.alloc o2) (inFoot (.slice ao4 m c4)) w6)
    (hPa : PutOk wr d.a.K d.a.N d.a.x d.a.B) (hPb : PutOk wr d.b.K d.b.N d.b.x d.b.B) (ha : ∀ k, inFoot d.a.x k → k < w.heap.size) (hb : ∀ k, inFoot d.b.x k → k < w.heap.size) : ApAt w w6 (L ++ [d]) ao3 c3 ao4 c4 := by
  have z1 : w.heap.size ≤ wr.heap.size := h.e.size
  have z2 := hx.size
  have z3 := s1.1.size
  have z4 := s2.1.size
  rw [alloc_size] at z3 z4
  have hlb := h.b.own.lt
  have hla := h.a.own.lt
  -- up to w5 only the first row, then only the second
  have e5 : Ext (fun k => w.heap.size ≤ k) wr w5 := ((hx.alloc o1).mono fun _ _ h => h.elim).trans s1.1 fun i _ hi => h.fa i hi
  have e6 : Ext (fun k => w.heap.size ≤ k) wr w6 := (e5.alloc o2).trans s2.1 fun i _ hi => h.fb i hi
  have e56 : Ext (inFoot (.slice ao2 L.length c2)) w5 w6 := ((Ext.refl _ w5).alloc o2).same s2.1
  have f3 : ∀ k, inFoot (.slice ao3 n c3) k → w.heap.size ≤ k := fun k hk => by
    rcases s1.2 k hk with h1 | h1
    · exact h.fa k h1
    · rw [alloc_size] at h1; omega
  have f4 : ∀ k, inFoot (.slice ao4 m c4) k → w.heap.size ≤ k := fun k hk => by
    rcases s2.2 k hk with h1 | h1
    · exact h.fb k h1
    · rw [alloc_size] at h1; omega
  have f32 : ∀ k, inFoot (.slice ao3 n c3) k → ¬ inFoot (.slice ao2 L.length c2) k := fun k hk hk2 => by
    rcases s1.2 k hk with h1 | h1
    · exact h.ab k h1 hk2
    · have := hlb k hk2; rw [alloc_size] at h1; omega
  have h1' : Own w6 39 3 (.slice ao3 n c3) n ((L.map TwinD.a).flatMap PutD.cells ++ d.a.cells) := h1.ext e56 f32
  have e' : Ext Nil w w6 := h.e.trans e6 fun i hi h => by omega
  refine ⟨?_, ?_, e', ?_, ?_, ?_⟩
  · rw [List.map_append, List.length_append]
    simp only [List.map_cons, List.map_nil, List.length_cons, List.length_nil, Nat.zero_add]
    rw [← hn]
    exact OwnPuts.push h.a.each h.a.old (by simpa using hn) h1' hPa ha e6 fun _ h => h
  · rw [List.map_append, List.length_append]
    simp only [List.map_cons, List.map_nil, List.length_cons, List.length_nil, Nat.zero_add]
    rw [← hm]
    exact OwnPuts.push h.b.each h.b.old (by simpa using hm) h2 hPb hb e6 fun _ h => h
  · rw [List.length_append]
    simp only [List.length_cons, List.length_nil, Nat.zero_add]
    rw [← hn]
    exact f3
  · rw [List.length_append]
    simp only [List.length_cons, List.length_nil, Nat.zero_add]
    rw [← hm]
    exact f4
  · rw [List.length_append]
    simp only [List.length_cons, List.length_nil, Nat.zero_add]
    subst hn
    subst hm
    intro k hk hk4
    rcases s2.2 k hk4 with h5 | h5
    · exact f32 k hk h5
    · have := h1.lt k hk
      rw [alloc_size] at h5
      omega

theorem ApAt.own1 {w wr u : World} {L : List TwinD} {ao1 ao2 : Option Addr} {c1 c2 : Nat} (h : ApAt w wr L ao1 c1 ao2 c2) (hX : Ext Nil wr u) (o : Obj) : Own (u.alloc o) 39 3 (.slice ao1 L.length c1) L.length ((L.map TwinD.a).flatMap PutD.cells) := by
  have := ((h.ext hX).a.own.alloc o)
  rwa [List.length_map] at this
theorem ApAt.own2 {w wr u w6 : World} {L : List TwinD} {ao1 ao2 : Option Addr} {c1 c2 : Nat} (h : ApAt w wr L ao1 c1 ao2 c2) (hX : Ext Nil wr u) {o1 : Obj} {F : Nat → Prop} (s1 : Step (inFoot (.slice ao1 L.length c1)) (u.alloc o1) F w6) (o : Obj) :
    Own (w6.alloc o) 39 3 (.slice ao2 L.length c2) L.length ((L.map TwinD.b).flatMap PutD.cells) := by
  have := ((((h.ext hX).b.own.alloc o1).ext s1.1 fun k hk hk2 => h.ab k hk2 hk).alloc o)
  rwa [List.length_map] at this
theorem ApAt.blk {w wr u w6 : World} {L : List TwinD} {ao1 ao2 : Option Addr} {c1 c2 : Nat} (h : ApAt w wr L ao1 c1 ao2 c2) {o1 : Obj} {F : Nat → Prop} (s1 : Step (inFoot (.slice ao1 L.length c1)) (u.alloc o1) F w6) {p : Nat} {t : TypeId} {cs : List Value} (hA : At u p t cs) (hp : wr.heap.size ≤ p) : At w6 p t cs :=
  (hA.alloc o1).ext s1.1 fun hk => by have := h.a.own.lt p hk; omega
theorem Reads.oneAt (w : World) (p : Nat) (hp : w.heap.size = p) (cs : List Value) (t : TypeId) : Reads (w.alloc (.cells cs.toArray t (0, 0))) cs.length (.slice (some ⟨p, 0, none⟩) 1 1) 1 cs := by
  subst hp
  exact Reads.one w cs t
theorem Bytes.cut {w : World} {ao : Option Addr} {c : Nat} {l : List UInt8} (h : Bytes w (.slice ao l.length c) l) (n : Nat) (hn : n ≤ l.length) : Bytes w (.slice ao n c) (l.take n) := by
  obtain ⟨h1, ao', c', e, h2, h3, h4⟩ := h
  simp only [Value.slice.injEq] at e
  obtain ⟨rfl, _, rfl⟩ := e
  have hl : (l.take n).length = n := by rw [List.length_take]; omega
  unfold Bytes
  rw [hl]
  refine ⟨by simp [bvs]; omega, ao, c, rfl, by omega, h3, fun hne => ?_⟩
  obtain ⟨b, off, rfl, hc⟩ := h4 (by intro e; apply hne; simp only [bvs, List.map_eq_nil_iff] at e ⊢; subst e; simp)
  refine ⟨b, off, rfl, fun j u hu => hc j u ?_⟩
  simp only [bvs, List.map_take] at hu ⊢
  rw [List.getElem?_take] at hu
  split at hu
  · exact hu
  · cases hu
theorem put_one (K : Int) (N : Nat) (ao : Option Addr) (n c : Nat) : ∀ u ∈ [Value.int .i64 K, .int .u64 N, .slice ao n c], u.oneCell' = true := by simp [Value.oneCell']

set_option maxHeartbeats 4000000 in
set_option maxRecDepth 100000 in
theorem apart_walk (w : World) (v : Value) (l : List TwinD) (h : Twins w.heap.size w v l) (hv : ∀ k, inFoot v k → k < w.heap.size) (hlen : l.length ≤ 1048576)
    (hfa : Fits (sumB ((l.filter TwinD.may).map TwinD.a))) (hfb : Fits (sumB ((l.filter TwinD.may).map TwinD.b)))
    (hyes : (l.filter TwinD.may).all TwinD.like = true → allB ((l.filter TwinD.may).map TwinD.a) = allB ((l.filter TwinD.may).map TwinD.b))
    (hno : (l.filter TwinD.may).all TwinD.like = false → (allB ((l.filter TwinD.may).map TwinD.a)).take (min (allB ((l.filter TwinD.may).map TwinD.a)).length (allB ((l.filter TwinD.may).map TwinD.b)).length) ≠ (allB ((l.filter TwinD.may).map TwinD.b)).take (min (allB ((l.filter TwinD.may).map TwinD.a)).length (allB ((l.filter TwinD.may).map TwinD.b)).length)) :
    Calls Try.prog 7 #[v] w fun e w' => e = .returned (.bool true) ∧ Ext Nil w w' := by
  obtain ⟨ao, cap, rfl, hcap, hmax, hc⟩ := h.reads.2
  unfold maxLen at hmax
  have HY := Lib.hid hyes
  have HN := Lib.hid hno
  clear hyes hno
  go_enter Try.func7, Try.ntmps7
  go_wp2_with fail
  go_loopw [3, 4, 5, 6] (fun a b s i wr => ∃ k : Nat, k ≤ l.length ∧ i = .int .i64 k ∧ ApRel w wr ((l.take k).filter TwinD.may) a b s) (fun _ _ _ i _ => l.length - (intOf i).toNat)
  case atStart => exact ⟨0, Nat.zero_le _, rfl, rfl, none, 0, none, 0, rfl, rfl, ⟨Own.nil _ _ _, by simp, by simp⟩, ⟨Own.nil _ _ _, by simp, by simp⟩, Ext.refl _ _, by simp [inFoot, foot], by simp [inFoot, foot], by simp [inFoot, foot]⟩
  case round =>
    obtain ⟨k, hk, rfl, rfl, ao1, c1, ao2, c2, rfl, rfl, hAt⟩ := hrel
    have hE := hAt.e
    have hT := h.ext hE (fun _ h => h.elim) (fun _ _ h => h)
    have hLlen : ((l.take k).filter TwinD.may).length ≤ 1048576 := Nat.le_trans (List.length_filter_le _ _) (by simp; omega)
    generalize hLk : (l.take k).filter TwinD.may = L at *
    have HL := Lib.hid hLk
    clear hLk
    by_cases hlt : k < l.length
    · obtain ⟨b, off, rfl, hcc⟩ := hT.head (by intro e; subst e; simp at hlt)
      have d0 := hcc k hlt 0 (by omega) _ rfl
      have d1 := hcc k hlt 1 (by omega) _ rfl
      have d2 := hcc k hlt 2 (by omega) _ rfl
      have d3 := hcc k hlt 3 (by omega) _ rfl
      have d4 := hcc k hlt 4 (by omega) _ rfl
      have d5 := hcc k hlt 5 (by omega) _ rfl
      have d6 := hcc k hlt 6 (by omega) _ rfl
      have hbl : b < wr.heap.size := cell_lt d0
      have hk0 := (hT.k l[k] (List.getElem_mem hlt)).1
      have hk1 := (hT.k l[k] (List.getElem_mem hlt)).2
      have ha := hT.a l[k] (List.getElem_mem hlt)
      have hb := hT.b l[k] (List.getElem_mem hlt)
      have hoa := hT.olda l[k] (List.getElem_mem hlt)
      have hob := hT.oldb l[k] (List.getElem_mem hlt)
      generalize hdk : l[k] = d at *
      have HD := Lib.hid hdk
      simp only [Nat.add_zero] at d0
      clear hcc hc hdk h
      obtain ⟨K, AK, AN, Ax, AB, BK, BN, Bx, BB⟩ := d
      simp only at d0 d1 d2 d3 d4 d5 d6 hk0 hk1 ha hb hoa hob
      obtain ⟨aoA, cA, rfl, hcA, hmA, -⟩ := ha.bytes.open
      obtain ⟨aoB, cB, rfl, hcB, hmB, -⟩ := hb.bytes.open
      unfold maxLen at hmA hmB
      by_cases h5 : K % 9 = 5
      · have hne : (K % 9 == 5) = true := by rw [beq_iff_eq]; exact h5
        by_cases hsh : BB.length < AB.length
        · have hmn : min AB.length BB.length = BB.length := by omega
          have hda : TwinD.a ⟨K, AK, AN, .slice aoA AB.length cA, AB, BK, BN, .slice aoB BB.length cB, BB⟩ = ⟨5, AN, .slice aoA BB.length cA, AB.take BB.length⟩ := by
            unfold TwinD.a; rw [if_pos h5]; simp only [hmn, cut]
          have hdb : TwinD.b ⟨K, AK, AN, .slice aoA AB.length cA, AB, BK, BN, .slice aoB BB.length cB, BB⟩ = ⟨5, BN, .slice aoB BB.length cB, BB⟩ := by
            unfold TwinD.b; rw [if_pos h5]; simp only [hmn, cut, List.take_length]
          have hPa : PutOk wr 5 AN (.slice aoA BB.length cA) (AB.take BB.length) := ⟨by omega, by omega, ha.n, ha.bytes.cut _ (by omega)⟩
          have hPb : PutOk wr 5 BN (.slice aoB BB.length cB) BB := ⟨by omega, by omega, hb.n, hb.bytes⟩
          clear hmn
          go_wp2_with (first | (go_at_call 35; refine (kind_any _ K hk0 hk1).mono ?_; rintro e w' ⟨rfl, rfl⟩))
          have hAt1 := (At.new wr [.int .i64 5, .int .u64 AN, .slice aoA BB.length cA] 39).alloc (Obj.cells #[.int .i64 5, .int .u64 BN, .slice aoB BB.length cB] 39)
          have hAt2 := At.new (wr.alloc (Obj.cells #[.int .i64 5, .int .u64 AN, .slice aoA BB.length cA] 39)) [.int .i64 5, .int .u64 BN, .slice aoB BB.length cB] 39
          have hY0 := ((Ext.refl Nil wr).alloc (Obj.cells #[.int .i64 5, .int .u64 AN, .slice aoA BB.length cA] 39)).alloc (Obj.cells #[.int .i64 5, .int .u64 BN, .slice aoB BB.length cB] 39)
          rw [alloc_size] at hAt2
          refine (may_any _ 5 AN _ (by omega) (by omega)).mono ?_
          rintro e w1 ⟨rfl, hY1⟩
          have a1 := hAt1.ext hY1 (fun h => h); have b1 := hAt2.ext hY1 (fun h => h); have a10 := a1.cell 0 rfl; have a11 := a1.cell 1 rfl; have a12 := a1.cell 2 rfl; have b10 := b1.cell 0 rfl; have b11 := b1.cell 1 rfl; have b12 := b1.cell 2 rfl; have z1 := b1.lt; have y1 := a1.lt
          cases hm1 : mayB 5 AN
          · have hfl : (l.take (k + 1)).filter TwinD.may = L := (filter_no l k hlt (by rw [HD.out]; unfold TwinD.may PutD.may; rw [hda]; simp only [hm1, Bool.false_and])).trans HL.out
            have HF := Lib.hid hfl
            clear hfl
            go_wp2_with fail
            refine ⟨⟨k + 1, by omega, by go_num, by rw [HF.out]; exact ⟨rfl, _, _, _, _, rfl, rfl, hAt.ext (hY0.same hY1)⟩⟩, by simp [intOf]; omega⟩
          · go_wp2_with fail
            refine (may_any _ 5 BN _ (by omega) (by omega)).mono ?_
            rintro e w2 ⟨rfl, hZ2⟩
            have hY2 := hY1.same hZ2
            have a2 := hAt1.ext hY2 (fun h => h); have b2 := hAt2.ext hY2 (fun h => h); have a20 := a2.cell 0 rfl; have a21 := a2.cell 1 rfl; have a22 := a2.cell 2 rfl; have b20 := b2.cell 0 rfl; have b21 := b2.cell 1 rfl; have b22 := b2.cell 2 rfl; have z2 := b2.lt; have y2 := a2.lt
            cases hm2 : mayB 5 BN
            · have hfl : (l.take (k + 1)).filter TwinD.may = L := (filter_no l k hlt (by rw [HD.out]; unfold TwinD.may PutD.may; rw [hda, hdb]; simp only [hm2, Bool.and_false])).trans HL.out
              have HF := Lib.hid hfl
              clear hfl
              go_wp2_with fail
              refine ⟨⟨k + 1, by omega, by go_num, by rw [HF.out]; exact ⟨rfl, _, _, _, _, rfl, rfl, hAt.ext (hY0.same hY2)⟩⟩, by simp [intOf]; omega⟩
            · go_wp2_with fail
              have hya := value_any w2 5 AN _ (AB.take BB.length) (hPa.bytes.ext (hY0.same hY2) fun _ _ h => h) (by omega) (by omega)
              obtain ⟨aoX, nX, cX, hvX⟩ := valX_shape 5 (hPa.bytes)
              have hbX := valX_bytes 5 (hPa.bytes)
              rw [hvX] at hya hbX
              clear hvX
              refine hya.mono ?_
              rintro e w3 ⟨rfl, hZ3⟩
              have hY3 := hY2.same hZ3
              have a3 := hAt1.ext hY3 (fun h => h); have b3 := hAt2.ext hY3 (fun h => h); have a30 := a3.cell 0 rfl; have a31 := a3.cell 1 rfl; have a32 := a3.cell 2 rfl; have b30 := b3.cell 0 rfl; have b31 := b3.cell 1 rfl; have b32 := b3.cell 2 rfl; have z3 := b3.lt; have y3 := a3.lt
              go_wp2_with fail
              have hyb := value_any (w3.alloc (Obj.cells #[.int .u64 (valN 5 AN), .slice aoX nX cX] 49)) 5 BN _ BB (hPb.bytes.ext ((hY0.same hY3).alloc _) fun _ _ h => h) (by omega) (by omega)
              obtain ⟨aoY, nY, cY, hvY⟩ := valX_shape 5 (hPb.bytes)
              have hbY := valX_bytes 5 (hPb.bytes)
              rw [hvY] at hyb hbY
              clear hvY
              refine hyb.mono ?_
              rintro e w4 ⟨rfl, hZ4⟩
              have hY4 := (hY3.alloc _).same hZ4
              have a4 := hAt1.ext hY4 (fun h => h); have b4 := hAt2.ext hY4 (fun h => h); have a40 := a4.cell 0 rfl; have a41 := a4.cell 1 rfl; have a42 := a4.cell 2 rfl; have b40 := b4.cell 0 rfl; have b41 := b4.cell 1 rfl; have b42 := b4.cell 2 rfl; have z4 := b4.lt; have y4 := a4.lt
              have g4 := (At.new w3 [.int .u64 (valN 5 AN), .slice aoX nX cX] 49).ext hZ4 (fun h => h)
              have g40 := g4.cell 0 rfl
              have g41 := g4.cell 1 rfl
              have z4' := g4.lt
              have hyes : (l.take (k + 1)).filter TwinD.may = L ++ [⟨K, AK, AN, .slice aoA AB.length cA, AB, BK, BN, .slice aoB BB.length cB, BB⟩] := (filter_yes l k hlt (by rw [HD.out]; unfold TwinD.may PutD.may; rw [hda, hdb]; simp only [hm1, hm2, Bool.and_true])).trans (by rw [HL.out, HD.out])
              have HYES := Lib.hid hyes
              clear hyes
              have hlike : TwinD.like ⟨K, AK, AN, .slice aoA AB.length cA, AB, BK, BN, .slice aoB BB.length cB, BB⟩ = decide (valN 5 AN = valN 5 BN ∧ valB 5 (AB.take BB.length) = valB 5 BB) := by unfold TwinD.like; rw [hda, hdb]
              have HLIKE := Lib.hid hlike
              clear hlike
              have hbX4 := hbX.ext ((hY0.same hY4).alloc (Obj.cells #[.int .u64 (valN 5 BN), .slice aoY nY cY] 49)) (fun _ _ h => h)
              have hbY4 := hbY.ext ((hY0.same hY4).alloc (Obj.cells #[.int .u64 (valN 5 BN), .slice aoY nY cY] 49)) (fun _ _ h => h)
              generalize hs : L.all TwinD.like = s
              have HSS := Lib.hid hs
              clear hs
              cases s
              · skip
                have hX5 := (hY0.same hY4).alloc (Obj.cells #[.int .u64 (valN 5 BN), .slice aoY nY cY] 49); have own1 := hAt.own1 hX5 (Obj.cells #[.int .i64 5, .int .u64 AN, .slice aoA BB.length cA] 39); have src1 := Reads.src (P := Try.prog) (Reads.oneAt ((w4.alloc (Obj.cells #[.int .u64 (valN 5 BN), .slice aoY nY cY] 49))) (w4.heap.size + 1) (alloc_size _ _) [.int .i64 5, .int .u64 AN, .slice aoA BB.length cA] 39) Try.underlying25 (put_one _ _ _ _ _)
                go_wp2_with (first | (at_builtin; refine wpList_append_row info_put rfl Try.underlying25 own1 src1 (by unfold maxLen; omega) (by omega) rfl (.tmp 90) (.tmp 92) rfl rfl rfl ?_; intro ao3 c3 w6 _ _ h61 h62; have b6 := hAt.blk h62 ((b4.alloc (Obj.cells #[.int .u64 (valN 5 BN), .slice aoY nY cY] 49))) (by omega); have b60 := b6.cell 0 rfl; have b61 := b6.cell 1 rfl; have b62 := b6.cell 2 rfl; have z6 := b6.lt; have own2 := hAt.own2 hX5 h62 (Obj.cells #[.int .i64 5, .int .u64 BN, .slice aoB BB.length cB] 39); have src2 := Reads.src (P := Try.prog) (Reads.one w6 [.int .i64 5, .int .u64 BN, .slice aoB BB.length cB] 39) Try.underlying25 (put_one _ _ _ _ _)) | (at_builtin; refine wpList_append_row info_put rfl Try.underlying25 own2 src2 (by unfold maxLen; omega) (by omega) rfl (.tmp 94) (.tmp 96) rfl rfl rfl ?_; intro ao4 c4 w7 _ _ h71 h72))
                refine ⟨⟨k + 1, by omega, by go_num, ?_⟩, by simp [intOf]; omega⟩
                rw [HYES.out]
                refine ⟨congrArg Value.bool (by rw [List.all_append, HSS.out]; rfl), ao3, c3, ao4, c4, by rw [List.length_append]; rfl, by rw [List.length_append]; rfl, ?_⟩
                exact ApAt.push (d := ⟨K, AK, AN, .slice aoA AB.length cA, AB, BK, BN, .slice aoB BB.length cB, BB⟩) hAt hX5 rfl rfl (by rw [hda]; exact h61) h62 (by rw [hdb]; exact h71) h72 (by rw [hda]; exact hPa) (by rw [hdb]; exact hPb) (by rw [hda]; exact fun k hk => hoa k (inFoot_len hk)) (by rw [hdb]; exact fun k hk => hob k (inFoot_len hk))
              · by_cases hN : valN 5 AN = valN 5 BN
                · have hNb : (((valN 5 AN : Nat) : Int) == ((valN 5 BN : Nat) : Int)) = true := by rw [beq_iff_eq, hN]
                  have HN := Lib.hid hN
                  clear hN
                  go_wp2_with (first | (go_at_call 38; refine (same_any _ _ _ _ _ hbX4 hbY4).mono ?_; rintro e w5 ⟨rfl, nq, rfl⟩; have hX5 := ((hY0.same hY4).alloc (Obj.cells #[.int .u64 (valN 5 BN), .slice aoY nY cY] 49)).drewN nq; have own1 := hAt.own1 hX5 (Obj.cells #[.int .i64 5, .int .u64 AN, .slice aoA BB.length cA] 39); have src1 := Reads.src (P := Try.prog) (Reads.oneAt ((w4.alloc (Obj.cells #[.int .u64 (valN 5 BN), .slice aoY nY cY] 49)).drewN nq) (w4.heap.size + 1) (alloc_size _ _) [.int .i64 5, .int .u64 AN, .slice aoA BB.length cA] 39) Try.underlying25 (put_one _ _ _ _ _)) | (at_builtin; refine wpList_append_row info_put rfl Try.underlying25 own1 src1 (by unfold maxLen; omega) (by omega) rfl (.tmp 90) (.tmp 92) rfl rfl rfl ?_; intro ao3 c3 w6 _ _ h61 h62; have b6 := hAt.blk h62 (((b4.alloc (Obj.cells #[.int .u64 (valN 5 BN), .slice aoY nY cY] 49)))) (by omega); have b60 := b6.cell 0 rfl; have b61 := b6.cell 1 rfl; have b62 := b6.cell 2 rfl; have z6 := b6.lt; have own2 := hAt.own2 hX5 h62 (Obj.cells #[.int .i64 5, .int .u64 BN, .slice aoB BB.length cB] 39); have src2 := Reads.src (P := Try.prog) (Reads.one w6 [.int .i64 5, .int .u64 BN, .slice aoB BB.length cB] 39) Try.underlying25 (put_one _ _ _ _ _)) | (at_builtin; refine wpList_append_row info_put rfl Try.underlying25 own2 src2 (by unfold maxLen; omega) (by omega) rfl (.tmp 94) (.tmp 96) rfl rfl rfl ?_; intro ao4 c4 w7 _ _ h71 h72))
                  refine ⟨⟨k + 1, by omega, by go_num, ?_⟩, by simp [intOf]; omega⟩
                  rw [HYES.out]
                  refine ⟨congrArg Value.bool (by rw [List.all_append, HSS.out]; simp only [Bool.true_and, List.all_cons, List.all_nil, Bool.and_true]; rw [HLIKE.out]; simp only [HN.out, true_and]), ao3, c3, ao4, c4, by rw [List.length_append]; rfl, by rw [List.length_append]; rfl, ?_⟩
                  exact ApAt.push (d := ⟨K, AK, AN, .slice aoA AB.length cA, AB, BK, BN, .slice aoB BB.length cB, BB⟩) hAt hX5 rfl rfl (by rw [hda]; exact h61) h62 (by rw [hdb]; exact h71) h72 (by rw [hda]; exact hPa) (by rw [hdb]; exact hPb) (by rw [hda]; exact fun k hk => hoa k (inFoot_len hk)) (by rw [hdb]; exact fun k hk => hob k (inFoot_len hk))
                · have hNb : (((valN 5 AN : Nat) : Int) == ((valN 5 BN : Nat) : Int)) = false := by rw [beq_eq_false_iff_ne]; omega
                  have HN := Lib.hid hN
                  clear hN
                  have hX5 := (hY0.same hY4).alloc (Obj.cells #[.int .u64 (valN 5 BN), .slice aoY nY cY] 49); have own1 := hAt.own1 hX5 (Obj.cells #[.int .i64 5, .int .u64 AN, .slice aoA BB.length cA] 39); have src1 := Reads.src (P := Try.prog) (Reads.oneAt ((w4.alloc (Obj.cells #[.int .u64 (valN 5 BN), .slice aoY nY cY] 49))) (w4.heap.size + 1) (alloc_size _ _) [.int .i64 5, .int .u64 AN, .slice aoA BB.length cA] 39) Try.underlying25 (put_one _ _ _ _ _)
                  go_wp2_with (first | (at_builtin; refine wpList_append_row info_put rfl Try.underlying25 own1 src1 (by unfold maxLen; omega) (by omega) rfl (.tmp 90) (.tmp 92) rfl rfl rfl ?_; intro ao3 c3 w6 _ _ h61 h62; have b6 := hAt.blk h62 ((b4.alloc (Obj.cells #[.int .u64 (valN 5 BN), .slice aoY nY cY] 49))) (by omega); have b60 := b6.cell 0 rfl; have b61 := b6.cell 1 rfl; have b62 := b6.cell 2 rfl; have z6 := b6.lt; have own2 := hAt.own2 hX5 h62 (Obj.cells #[.int .i64 5, .int .u64 BN, .slice aoB BB.length cB] 39); have src2 := Reads.src (P := Try.prog) (Reads.one w6 [.int .i64 5, .int .u64 BN, .slice aoB BB.length cB] 39) Try.underlying25 (put_one _ _ _ _ _)) | (at_builtin; refine wpList_append_row info_put rfl Try.underlying25 own2 src2 (by unfold maxLen; omega) (by omega) rfl (.tmp 94) (.tmp 96) rfl rfl rfl ?_; intro ao4 c4 w7 _ _ h71 h72))
                  refine ⟨⟨k + 1, by omega, by go_num, ?_⟩, by simp [intOf]; omega⟩
                  rw [HYES.out]
                  refine ⟨congrArg Value.bool (by rw [List.all_append, HSS.out]; simp only [Bool.true_and, List.all_cons, List.all_nil, Bool.and_true]; rw [HLIKE.out]; simp only [HN.out, false_and, decide_false]), ao3, c3, ao4, c4, by rw [List.length_append]; rfl, by rw [List.length_append]; rfl, ?_⟩
                  exact ApAt.push (d := ⟨K, AK, AN, .slice aoA AB.length cA, AB, BK, BN, .slice aoB BB.length cB, BB⟩) hAt hX5 rfl rfl (by rw [hda]; exact h61) h62 (by rw [hdb]; exact h71) h72 (by rw [hda]; exact hPa) (by rw [hdb]; exact hPb) (by rw [hda]; exact fun k hk => hoa k (inFoot_len hk)) (by rw [hdb]; exact fun k hk => hob k (inFoot_len hk))
        · have hmn : min AB.length BB.length = AB.length := by omega
          have hda : TwinD.a ⟨K, AK, AN, .slice aoA AB.length cA, AB, BK, BN, .slice aoB BB.length cB, BB⟩ = ⟨5, AN, .slice aoA AB.length cA, AB⟩ := by
            unfold TwinD.a; rw [if_pos h5]; simp only [hmn, cut, List.take_length]
          have hdb : TwinD.b ⟨K, AK, AN, .slice aoA AB.length cA, AB, BK, BN, .slice aoB BB.length cB, BB⟩ = ⟨5, BN, .slice aoB AB.length cB, BB.take AB.length⟩ := by
            unfold TwinD.b; rw [if_pos h5]; simp only [hmn, cut]
          have hPa : PutOk wr 5 AN (.slice aoA AB.length cA) AB := ⟨by omega, by omega, ha.n, ha.bytes⟩
          have hPb : PutOk wr 5 BN (.slice aoB AB.length cB) (BB.take AB.length) := ⟨by omega, by omega, hb.n, hb.bytes.cut _ (by omega)⟩
          clear hmn
          go_wp2_with (first | (go_at_call 35; refine (kind_any _ K hk0 hk1).mono ?_; rintro e w' ⟨rfl, rfl⟩))
          have hAt1 := (At.new wr [.int .i64 5, .int .u64 AN, .slice aoA AB.length cA] 39).alloc (Obj.cells #[.int .i64 5, .int .u64 BN, .slice aoB AB.length cB] 39)
          have hAt2 := At.new (wr.alloc (Obj.cells #[.int .i64 5, .int .u64 AN, .slice aoA AB.length cA] 39)) [.int .i64 5, .int .u64 BN, .slice aoB AB.length cB] 39
          have hY0 := ((Ext.refl Nil wr).alloc (Obj.cells #[.int .i64 5, .int .u64 AN, .slice aoA AB.length cA] 39)).alloc (Obj.cells #[.int .i64 5, .int .u64 BN, .slice aoB AB.length cB] 39)
          rw [alloc_size] at hAt2
          refine (may_any _ 5 AN _ (by omega) (by omega)).mono ?_
          rintro e w1 ⟨rfl, hY1⟩
          have a1 := hAt1.ext hY1 (fun h => h); have b1 := hAt2.ext hY1 (fun h => h); have a10 := a1.cell 0 rfl; have a11 := a1.cell 1 rfl; have a12 := a1.cell 2 rfl; have b10 := b1.cell 0 rfl; have b11 := b1.cell 1 rfl; have b12 := b1.cell 2 rfl; have z1 := b1.lt; have y1 := a1.lt
          cases hm1 : mayB 5 AN
          · have hfl : (l.take (k + 1)).filter TwinD.may = L := (filter_no l k hlt (by rw [HD.out]; unfold TwinD.may PutD.may; rw [hda]; simp only [hm1, Bool.false_and])).trans HL.out
            have HF := Lib.hid hfl
            clear hfl
            go_wp2_with fail
            refine ⟨⟨k + 1, by omega, by go_num, by rw [HF.out]; exact ⟨rfl, _, _, _, _, rfl, rfl, hAt.ext (hY0.same hY1)⟩⟩, by simp [intOf]; omega⟩
          · go_wp2_with fail
            refine (may_any _ 5 BN _ (by omega) (by omega)).mono ?_
            rintro e w2 ⟨rfl, hZ2⟩
            have hY2 := hY1.same hZ2
            have a2 := hAt1.ext hY2 (fun h => h); have b2 := hAt2.ext hY2 (fun h => h); have a20 := a2.cell 0 rfl; have a21 := a2.cell 1 rfl; have a22 := a2.cell 2 rfl; have b20 := b2.cell 0 rfl; have b21 := b2.cell 1 rfl; have b22 := b2.cell 2 rfl; have z2 := b2.lt; have y2 := a2.lt
            cases hm2 : mayB 5 BN
            · have hfl : (l.take (k + 1)).filter TwinD.may = L := (filter_no l k hlt (by rw [HD.out]; unfold TwinD.may PutD.may; rw [hda, hdb]; simp only [hm2, Bool.and_false])).trans HL.out
              have HF := Lib.hid hfl
              clear hfl
              go_wp2_with fail
              refine ⟨⟨k + 1, by omega, by go_num, by rw [HF.out]; exact ⟨rfl, _, _, _, _, rfl, rfl, hAt.ext (hY0.same hY2)⟩⟩, by simp [intOf]; omega⟩
            · go_wp2_with fail
              have hya := value_any w2 5 AN _ AB (hPa.bytes.ext (hY0.same hY2) fun _ _ h => h) (by omega) (by omega)
              obtain ⟨aoX, nX, cX, hvX⟩ := valX_shape 5 (hPa.bytes)
              have hbX := valX_bytes 5 (hPa.bytes)
              rw [hvX] at hya hbX
              clear hvX
              refine hya.mono ?_
              rintro e w3 ⟨rfl, hZ3⟩
              have hY3 := hY2.same hZ3
              have a3 := hAt1.ext hY3 (fun h => h); have b3 := hAt2.ext hY3 (fun h => h); have a30 := a3.cell 0 rfl; have a31 := a3.cell 1 rfl; have a32 := a3.cell 2 rfl; have b30 := b3.cell 0 rfl; have b31 := b3.cell 1 rfl; have b32 := b3.cell 2 rfl; have z3 := b3.lt; have y3 := a3.lt
              go_wp2_with fail
              have hyb := value_any (w3.alloc (Obj.cells #[.int .u64 (valN 5 AN), .slice aoX nX cX] 49)) 5 BN _ (BB.take AB.length) (hPb.bytes.ext ((hY0.same hY3).alloc _) fun _ _ h => h) (by omega) (by omega)
              obtain ⟨aoY, nY, cY, hvY⟩ := valX_shape 5 (hPb.bytes)
              have hbY := valX_bytes 5 (hPb.bytes)
              rw [hvY] at hyb hbY
              clear hvY
              refine hyb.mono ?_
              rintro e w4 ⟨rfl, hZ4⟩
              have hY4 := (hY3.alloc _).same hZ4
              have a4 := hAt1.ext hY4 (fun h => h); have b4 := hAt2.ext hY4 (fun h => h); have a40 := a4.cell 0 rfl; have a41 := a4.cell 1 rfl; have a42 := a4.cell 2 rfl; have b40 := b4.cell 0 rfl; have b41 := b4.cell 1 rfl; have b42 := b4.cell 2 rfl; have z4 := b4.lt; have y4 := a4.lt
              have g4 := (At.new w3 [.int .u64 (valN 5 AN), .slice aoX nX cX] 49).ext hZ4 (fun h => h)
              have g40 := g4.cell 0 rfl
              have g41 := g4.cell 1 rfl
              have z4' := g4.lt
              have hyes : (l.take (k + 1)).filter TwinD.may = L ++ [⟨K, AK, AN, .slice aoA AB.length cA, AB, BK, BN, .slice aoB BB.length cB, BB⟩] := (filter_yes l k hlt (by rw [HD.out]; unfold TwinD.may PutD.may; rw [hda, hdb]; simp only [hm1, hm2, Bool.and_true])).trans (by rw [HL.out, HD.out])
              have HYES := Lib.hid hyes
              clear hyes
              have hlike : TwinD.like ⟨K, AK, AN, .slice aoA AB.length cA, AB, BK, BN, .slice aoB BB.length cB, BB⟩ = decide (valN 5 AN = valN 5 BN ∧ valB 5 AB = valB 5 (BB.take AB.length)) := by unfold TwinD.like; rw [hda, hdb]
              have HLIKE := Lib.hid hlike
              clear hlike
              have hbX4 := hbX.ext ((hY0.same hY4).alloc (Obj.cells #[.int .u64 (valN 5 BN), .slice aoY nY cY] 49)) (fun _ _ h => h)
              have hbY4 := hbY.ext ((hY0.same hY4).alloc (Obj.cells #[.int .u64 (valN 5 BN), .slice aoY nY cY] 49)) (fun _ _ h => h)
              generalize hs : L.all TwinD.like = s
              have HSS := Lib.hid hs
              clear hs
              cases s
              · skip
                have hX5 := (hY0.same hY4).alloc (Obj.cells #[.int .u64 (valN 5 BN), .slice aoY nY cY] 49); have own1 := hAt.own1 hX5 (Obj.cells #[.int .i64 5, .int .u64 AN, .slice aoA AB.length cA] 39); have src1 := Reads.src (P := Try.prog) (Reads.oneAt ((w4.alloc (Obj.cells #[.int .u64 (valN 5 BN), .slice aoY nY cY] 49))) (w4.heap.size + 1) (alloc_size _ _) [.int .i64 5, .int .u64 AN, .slice aoA AB.length cA] 39) Try.underlying25 (put_one _ _ _ _ _)
                go_wp2_with (first | (at_builtin; refine wpList_append_row info_put rfl Try.underlying25 own1 src1 (by unfold maxLen; omega) (by omega) rfl (.tmp 90) (.tmp 92) rfl rfl rfl ?_; intro ao3 c3 w6 _ _ h61 h62; have b6 := hAt.blk h62 ((b4.alloc (Obj.cells #[.int .u64 (valN 5 BN), .slice aoY nY cY] 49))) (by omega); have b60 := b6.cell 0 rfl; have b61 := b6.cell 1 rfl; have b62 := b6.cell 2 rfl; have z6 := b6.lt; have own2 := hAt.own2 hX5 h62 (Obj.cells #[.int .i64 5, .int .u64 BN, .slice aoB AB.length cB] 39); have src2 := Reads.src (P := Try.prog) (Reads.one w6 [.int .i64 5, .int .u64 BN, .slice aoB AB.length cB] 39) Try.underlying25 (put_one _ _ _ _ _)) | (at_builtin; refine wpList_append_row info_put rfl Try.underlying25 own2 src2 (by unfold maxLen; omega) (by omega) rfl (.tmp 94) (.tmp 96) rfl rfl rfl ?_; intro ao4 c4 w7 _ _ h71 h72))
                refine ⟨⟨k + 1, by omega, by go_num, ?_⟩, by simp [intOf]; omega⟩
                rw [HYES.out]
                refine ⟨congrArg Value.bool (by rw [List.all_append, HSS.out]; rfl), ao3, c3, ao4, c4, by rw [List.length_append]; rfl, by rw [List.length_append]; rfl, ?_⟩
                exact ApAt.push (d := ⟨K, AK, AN, .slice aoA AB.length cA, AB, BK, BN, .slice aoB BB.length cB, BB⟩) hAt hX5 rfl rfl (by rw [hda]; exact h61) h62 (by rw [hdb]; exact h71) h72 (by rw [hda]; exact hPa) (by rw [hdb]; exact hPb) (by rw [hda]; exact fun k hk => hoa k (inFoot_len hk)) (by rw [hdb]; exact fun k hk => hob k (inFoot_len hk))
              · by_cases hN : valN 5 AN = valN 5 BN
                · have hNb : (((valN 5 AN : Nat) : Int) == ((valN 5 BN : Nat) : Int)) = true := by rw [beq_iff_eq, hN]
                  have HN := Lib.hid hN
                  clear hN
                  go_wp2_with (first | (go_at_call 38; refine (same_any _ _ _ _ _ hbX4 hbY4).mono ?_; rintro e w5 ⟨rfl, nq, rfl⟩; have hX5 := ((hY0.same hY4).alloc (Obj.cells #[.int .u64 (valN 5 BN), .slice aoY nY cY] 49)).drewN nq; have own1 := hAt.own1 hX5 (Obj.cells #[.int .i64 5, .int .u64 AN, .slice aoA AB.length cA] 39); have src1 := Reads.src (P := Try.prog) (Reads.oneAt ((w4.alloc (Obj.cells #[.int .u64 (valN 5 BN), .slice aoY nY cY] 49)).drewN nq) (w4.heap.size + 1) (alloc_size _ _) [.int .i64 5, .int .u64 AN, .slice aoA AB.length cA] 39) Try.underlying25 (put_one _ _ _ _ _)) | (at_builtin; refine wpList_append_row info_put rfl Try.underlying25 own1 src1 (by unfold maxLen; omega) (by omega) rfl (.tmp 90) (.tmp 92) rfl rfl rfl ?_; intro ao3 c3 w6 _ _ h61 h62; have b6 := hAt.blk h62 (((b4.alloc (Obj.cells #[.int .u64 (valN 5 BN), .slice aoY nY cY] 49)))) (by omega); have b60 := b6.cell 0 rfl; have b61 := b6.cell 1 rfl; have b62 := b6.cell 2 rfl; have z6 := b6.lt; have own2 := hAt.own2 hX5 h62 (Obj.cells #[.int .i64 5, .int .u64 BN, .slice aoB AB.length cB] 39); have src2 := Reads.src (P := Try.prog) (Reads.one w6 [.int .i64 5, .int .u64 BN, .slice aoB AB.length cB] 39) Try.underlying25 (put_one _ _ _ _ _)) | (at_builtin; refine wpList_append_row info_put rfl Try.underlying25 own2 src2 (by unfold maxLen; omega) (by omega) rfl (.tmp 94) (.tmp 96) rfl rfl rfl ?_; intro ao4 c4 w7 _ _ h71 h72))
                  refine ⟨⟨k + 1, by omega, by go_num, ?_⟩, by simp [intOf]; omega⟩
                  rw [HYES.out]
                  refine ⟨congrArg Value.bool (by rw [List.all_append, HSS.out]; simp only [Bool.true_and, List.all_cons, List.all_nil, Bool.and_true]; rw [HLIKE.out]; simp only [HN.out, true_and]), ao3, c3, ao4, c4, by rw [List.length_append]; rfl, by rw [List.length_append]; rfl, ?_⟩
                  exact ApAt.push (d := ⟨K, AK, AN, .slice aoA AB.length cA, AB, BK, BN, .slice aoB BB.length cB, BB⟩) hAt hX5 rfl rfl (by rw [hda]; exact h61) h62 (by rw [hdb]; exact h71) h72 (by rw [hda]; exact hPa) (by rw [hdb]; exact hPb) (by rw [hda]; exact fun k hk => hoa k (inFoot_len hk)) (by rw [hdb]; exact fun k hk => hob k (inFoot_len hk))
                · have hNb : (((valN 5 AN : Nat) : Int) == ((valN 5 BN : Nat) : Int)) = false := by rw [beq_eq_false_iff_ne]; omega
                  have HN := Lib.hid hN
                  clear hN
                  have hX5 := (hY0.same hY4).alloc (Obj.cells #[.int .u64 (valN 5 BN), .slice aoY nY cY] 49); have own1 := hAt.own1 hX5 (Obj.cells #[.int .i64 5, .int .u64 AN, .slice aoA AB.length cA] 39); have src1 := Reads.src (P := Try.prog) (Reads.oneAt ((w4.alloc (Obj.cells #[.int .u64 (valN 5 BN), .slice aoY nY cY] 49))) (w4.heap.size + 1) (alloc_size _ _) [.int .i64 5, .int .u64 AN, .slice aoA AB.length cA] 39) Try.underlying25 (put_one _ _ _ _ _)
                  go_wp2_with (first | (at_builtin; refine wpList_append_row info_put rfl Try.underlying25 own1 src1 (by unfold maxLen; omega) (by omega) rfl (.tmp 90) (.tmp 92) rfl rfl rfl ?_; intro ao3 c3 w6 _ _ h61 h62; have b6 := hAt.blk h62 ((b4.alloc (Obj.cells #[.int .u64 (valN 5 BN), .slice aoY nY cY] 49))) (by omega); have b60 := b6.cell 0 rfl; have b61 := b6.cell 1 rfl; have b62 := b6.cell 2 rfl; have z6 := b6.lt; have own2 := hAt.own2 hX5 h62 (Obj.cells #[.int .i64 5, .int .u64 BN, .slice aoB AB.length cB] 39); have src2 := Reads.src (P := Try.prog) (Reads.one w6 [.int .i64 5, .int .u64 BN, .slice aoB AB.length cB] 39) Try.underlying25 (put_one _ _ _ _ _)) | (at_builtin; refine wpList_append_row info_put rfl Try.underlying25 own2 src2 (by unfold maxLen; omega) (by omega) rfl (.tmp 94) (.tmp 96) rfl rfl rfl ?_; intro ao4 c4 w7 _ _ h71 h72))
                  refine ⟨⟨k + 1, by omega, by go_num, ?_⟩, by simp [intOf]; omega⟩
                  rw [HYES.out]
                  refine ⟨congrArg Value.bool (by rw [List.all_append, HSS.out]; simp only [Bool.true_and, List.all_cons, List.all_nil, Bool.and_true]; rw [HLIKE.out]; simp only [HN.out, false_and, decide_false]), ao3, c3, ao4, c4, by rw [List.length_append]; rfl, by rw [List.length_append]; rfl, ?_⟩
                  exact ApAt.push (d := ⟨K, AK, AN, .slice aoA AB.length cA, AB, BK, BN, .slice aoB BB.length cB, BB⟩) hAt hX5 rfl rfl (by rw [hda]; exact h61) h62 (by rw [hdb]; exact h71) h72 (by rw [hda]; exact hPa) (by rw [hdb]; exact hPb) (by rw [hda]; exact fun k hk => hoa k (inFoot_len hk)) (by rw [hdb]; exact fun k hk => hob k (inFoot_len hk))
      · have hne : (K % 9 == 5) = false := by rw [beq_eq_false_iff_ne]; exact h5
        have hda : TwinD.a ⟨K, AK, AN, .slice aoA AB.length cA, AB, BK, BN, .slice aoB BB.length cB, BB⟩ = ⟨K % 9, AN, .slice aoA AB.length cA, AB⟩ := if_neg h5
        have hdb : TwinD.b ⟨K, AK, AN, .slice aoA AB.length cA, AB, BK, BN, .slice aoB BB.length cB, BB⟩ = ⟨K % 9, BN, .slice aoB BB.length cB, BB⟩ := if_neg h5
        have hPa : PutOk wr (K % 9) AN (.slice aoA AB.length cA) AB := ⟨by omega, by omega, ha.n, ha.bytes⟩
        have hPb : PutOk wr (K % 9) BN (.slice aoB BB.length cB) BB := ⟨by omega, by omega, hb.n, hb.bytes⟩
        go_wp2_with (first | (go_at_call 35; refine (kind_any _ K hk0 hk1).mono ?_; rintro e w' ⟨rfl, rfl⟩))
        have hAt1 := (At.new wr [.int .i64 (K % 9), .int .u64 AN, .slice aoA AB.length cA] 39).alloc (Obj.cells #[.int .i64 (K % 9), .int .u64 BN, .slice aoB BB.length cB] 39)
        have hAt2 := At.new (wr.alloc (Obj.cells #[.int .i64 (K % 9), .int .u64 AN, .slice aoA AB.length cA] 39)) [.int .i64 (K % 9), .int .u64 BN, .slice aoB BB.length cB] 39
        have hY0 := ((Ext.refl Nil wr).alloc (Obj.cells #[.int .i64 (K % 9), .int .u64 AN, .slice aoA AB.length cA] 39)).alloc (Obj.cells #[.int .i64 (K % 9), .int .u64 BN, .slice aoB BB.length cB] 39)
        rw [alloc_size] at hAt2
        refine (may_any _ (K % 9) AN _ (by omega) (by omega)).mono ?_
        rintro e w1 ⟨rfl, hY1⟩
        have a1 := hAt1.ext hY1 (fun h => h); have b1 := hAt2.ext hY1 (fun h => h); have a10 := a1.cell 0 rfl; have a11 := a1.cell 1 rfl; have a12 := a1.cell 2 rfl; have b10 := b1.cell 0 rfl; have b11 := b1.cell 1 rfl; have b12 := b1.cell 2 rfl; have z1 := b1.lt; have y1 := a1.lt
        cases hm1 : mayB (K % 9) AN
        · have hfl : (l.take (k + 1)).filter TwinD.may = L := (filter_no l k hlt (by rw [HD.out]; unfold TwinD.may PutD.may; rw [hda]; simp only [hm1, Bool.false_and])).trans HL.out
          have HF := Lib.hid hfl
          clear hfl
          go_wp2_with fail
          refine ⟨⟨k + 1, by omega, by go_num, by rw [HF.out]; exact ⟨rfl, _, _, _, _, rfl, rfl, hAt.ext (hY0.same hY1)⟩⟩, by simp [intOf]; omega⟩
        · go_wp2_with fail
          refine (may_any _ (K % 9) BN _ (by omega) (by omega)).mono ?_
          rintro e w2 ⟨rfl, hZ2⟩
          have hY2 := hY1.same hZ2
          have a2 := hAt1.ext hY2 (fun h => h); have b2 := hAt2.ext hY2 (fun h => h); have a20 := a2.cell 0 rfl; have a21 := a2.cell 1 rfl; have a22 := a2.cell 2 rfl; have b20 := b2.cell 0 rfl; have b21 := b2.cell 1 rfl; have b22 := b2.cell 2 rfl; have z2 := b2.lt; have y2 := a2.lt
          cases hm2 : mayB (K % 9) BN
          · have hfl : (l.take (k + 1)).filter TwinD.may = L := (filter_no l k hlt (by rw [HD.out]; unfold TwinD.may PutD.may; rw [hda, hdb]; simp only [hm2, Bool.and_false])).trans HL.out
            have HF := Lib.hid hfl
            clear hfl
            go_wp2_with fail
            refine ⟨⟨k + 1, by omega, by go_num, by rw [HF.out]; exact ⟨rfl, _, _, _, _, rfl, rfl, hAt.ext (hY0.same hY2)⟩⟩, by simp [intOf]; omega⟩
          · go_wp2_with fail
            have hya := value_any w2 (K % 9) AN _ AB (hPa.bytes.ext (hY0.same hY2) fun _ _ h => h) (by omega) (by omega)
            obtain ⟨aoX, nX, cX, hvX⟩ := valX_shape (K % 9) (hPa.bytes)
            have hbX := valX_bytes (K % 9) (hPa.bytes)
            rw [hvX] at hya hbX
            clear hvX
            refine hya.mono ?_
            rintro e w3 ⟨rfl, hZ3⟩
            have hY3 := hY2.same hZ3
            have a3 := hAt1.ext hY3 (fun h => h); have b3 := hAt2.ext hY3 (fun h => h); have a30 := a3.cell 0 rfl; have a31 := a3.cell 1 rfl; have a32 := a3.cell 2 rfl; have b30 := b3.cell 0 rfl; have b31 := b3.cell 1 rfl; have b32 := b3.cell 2 rfl; have z3 := b3.lt; have y3 := a3.lt
            go_wp2_with fail
            have hyb := value_any (w3.alloc (Obj.cells #[.int .u64 (valN (K % 9) AN), .slice aoX nX cX] 49)) (K % 9) BN _ BB (hPb.bytes.ext ((hY0.same hY3).alloc _) fun _ _ h => h) (by omega) (by omega)
            obtain ⟨aoY, nY, cY, hvY⟩ := valX_shape (K % 9) (hPb.bytes)
            have hbY := valX_bytes (K % 9) (hPb.bytes)
            rw [hvY] at hyb hbY
            clear hvY
            refine hyb.mono ?_
            rintro e w4 ⟨rfl, hZ4⟩
            have hY4 := (hY3.alloc _).same hZ4
            have a4 := hAt1.ext hY4 (fun h => h); have b4 := hAt2.ext hY4 (fun h => h); have a40 := a4.cell 0 rfl; have a41 := a4.cell 1 rfl; have a42 := a4.cell 2 rfl; have b40 := b4.cell 0 rfl; have b41 := b4.cell 1 rfl; have b42 := b4.cell 2 rfl; have z4 := b4.lt; have y4 := a4.lt
            have g4 := (At.new w3 [.int .u64 (valN (K % 9) AN), .slice aoX nX cX] 49).ext hZ4 (fun h => h)
            have g40 := g4.cell 0 rfl
            have g41 := g4.cell 1 rfl
            have z4' := g4.lt
            have hyes : (l.take (k + 1)).filter TwinD.may = L ++ [⟨K, AK, AN, .slice aoA AB.length cA, AB, BK, BN, .slice aoB BB.length cB, BB⟩] := (filter_yes l k hlt (by rw [HD.out]; unfold TwinD.may PutD.may; rw [hda, hdb]; simp only [hm1, hm2, Bool.and_true])).trans (by rw [HL.out, HD.out])
            have HYES := Lib.hid hyes
            clear hyes
            have hlike : TwinD.like ⟨K, AK, AN, .slice aoA AB.length cA, AB, BK, BN, .slice aoB BB.length cB, BB⟩ = decide (valN (K % 9) AN = valN (K % 9) BN ∧ valB (K % 9) AB = valB (K % 9) BB) := by unfold TwinD.like; rw [hda, hdb]
            have HLIKE := Lib.hid hlike
            clear hlike
            have hbX4 := hbX.ext ((hY0.same hY4).alloc (Obj.cells #[.int .u64 (valN (K % 9) BN), .slice aoY nY cY] 49)) (fun _ _ h => h)
            have hbY4 := hbY.ext ((hY0.same hY4).alloc (Obj.cells #[.int .u64 (valN (K % 9) BN), .slice aoY nY cY] 49)) (fun _ _ h => h)
            generalize hs : L.all TwinD.like = s
            have HSS := Lib.hid hs
            clear hs
            cases s
            · skip
              have hX5 := (hY0.same hY4).alloc (Obj.cells #[.int .u64 (valN (K % 9) BN), .slice aoY nY cY] 49); have own1 := hAt.own1 hX5 (Obj.cells #[.int .i64 (K % 9), .int .u64 AN, .slice aoA AB.length cA] 39); have src1 := Reads.src (P := Try.prog) (Reads.oneAt ((w4.alloc (Obj.cells #[.int .u64 (valN (K % 9) BN), .slice aoY nY cY] 49))) (w4.heap.size + 1) (alloc_size _ _) [.int .i64 (K % 9), .int .u64 AN, .slice aoA AB.length cA] 39) Try.underlying25 (put_one _ _ _ _ _)
              go_wp2_with (first | (at_builtin; refine wpList_append_row info_put rfl Try.underlying25 own1 src1 (by unfold maxLen; omega) (by omega) rfl (.tmp 90) (.tmp 92) rfl rfl rfl ?_; intro ao3 c3 w6 _ _ h61 h62; have b6 := hAt.blk h62 ((b4.alloc (Obj.cells #[.int .u64 (valN (K % 9) BN), .slice aoY nY cY] 49))) (by omega); have b60 := b6.cell 0 rfl; have b61 := b6.cell 1 rfl; have b62 := b6.cell 2 rfl; have z6 := b6.lt; have own2 := hAt.own2 hX5 h62 (Obj.cells #[.int .i64 (K % 9), .int .u64 BN, .slice aoB BB.length cB] 39); have src2 := Reads.src (P := Try.prog) (Reads.one w6 [.int .i64 (K % 9), .int .u64 BN, .slice aoB BB.length cB] 39) Try.underlying25 (put_one _ _ _ _ _)) | (at_builtin; refine wpList_append_row info_put rfl Try.underlying25 own2 src2 (by unfold maxLen; omega) (by omega) rfl (.tmp 94) (.tmp 96) rfl rfl rfl ?_; intro ao4 c4 w7 _ _ h71 h72))
              refine ⟨⟨k + 1, by omega, by go_num, ?_⟩, by simp [intOf]; omega⟩
              rw [HYES.out]
              refine ⟨congrArg Value.bool (by rw [List.all_append, HSS.out]; rfl), ao3, c3, ao4, c4, by rw [List.length_append]; rfl, by rw [List.length_append]; rfl, ?_⟩
              exact ApAt.push (d := ⟨K, AK, AN, .slice aoA AB.length cA, AB, BK, BN, .slice aoB BB.length cB, BB⟩) hAt hX5 rfl rfl (by rw [hda]; exact h61) h62 (by rw [hdb]; exact h71) h72 (by rw [hda]; exact hPa) (by rw [hdb]; exact hPb) (by rw [hda]; exact fun k hk => hoa k (inFoot_len hk)) (by rw [hdb]; exact fun k hk => hob k (inFoot_len hk))
            · by_cases hN : valN (K % 9) AN = valN (K % 9) BN
              · have hNb : (((valN (K % 9) AN : Nat) : Int) == ((valN (K % 9) BN : Nat) : Int)) = true := by rw [beq_iff_eq, hN]
                have HN := Lib.hid hN
                clear hN
                go_wp2_with (first | (go_at_call 38; refine (same_any _ _ _ _ _ hbX4 hbY4).mono ?_; rintro e w5 ⟨rfl, nq, rfl⟩; have hX5 := ((hY0.same hY4).alloc (Obj.cells #[.int .u64 (valN (K % 9) BN), .slice aoY nY cY] 49)).drewN nq; have own1 := hAt.own1 hX5 (Obj.cells #[.int .i64 (K % 9), .int .u64 AN, .slice aoA AB.length cA] 39); have src1 := Reads.src (P := Try.prog) (Reads.oneAt ((w4.alloc (Obj.cells #[.int .u64 (valN (K % 9) BN), .slice aoY nY cY] 49)).drewN nq) (w4.heap.size + 1) (alloc_size _ _) [.int .i64 (K % 9), .int .u64 AN, .slice aoA AB.length cA] 39) Try.underlying25 (put_one _ _ _ _ _)) | (at_builtin; refine wpList_append_row info_put rfl Try.underlying25 own1 src1 (by unfold maxLen; omega) (by omega) rfl (.tmp 90) (.tmp 92) rfl rfl rfl ?_; intro ao3 c3 w6 _ _ h61 h62; have b6 := hAt.blk h62 (((b4.alloc (Obj.cells #[.int .u64 (valN (K % 9) BN), .slice aoY nY cY] 49)))) (by omega); have b60 := b6.cell 0 rfl; have b61 := b6.cell 1 rfl; have b62 := b6.cell 2 rfl; have z6 := b6.lt; have own2 := hAt.own2 hX5 h62 (Obj.cells #[.int .i64 (K % 9), .int .u64 BN, .slice aoB BB.length cB] 39); have src2 := Reads.src (P := Try.prog) (Reads.one w6 [.int .i64 (K % 9), .int .u64 BN, .slice aoB BB.length cB] 39) Try.underlying25 (put_one _ _ _ _ _)) | (at_builtin; refine wpList_append_row info_put rfl Try.underlying25 own2 src2 (by unfold maxLen; omega) (by omega) rfl (.tmp 94) (.tmp 96) rfl rfl rfl ?_; intro ao4 c4 w7 _ _ h71 h72))
                refine ⟨⟨k + 1, by omega, by go_num, ?_⟩, by simp [intOf]; omega⟩
                rw [HYES.out]
                refine ⟨congrArg Value.bool (by rw [List.all_append, HSS.out]; simp only [Bool.true_and, List.all_cons, List.all_nil, Bool.and_true]; rw [HLIKE.out]; simp only [HN.out, true_and]), ao3, c3, ao4, c4, by rw [List.length_append]; rfl, by rw [List.length_append]; rfl, ?_⟩
                exact ApAt.push (d := ⟨K, AK, AN, .slice aoA AB.length cA, AB, BK, BN, .slice aoB BB.length cB, BB⟩) hAt hX5 rfl rfl (by rw [hda]; exact h61) h62 (by rw [hdb]; exact h71) h72 (by rw [hda]; exact hPa) (by rw [hdb]; exact hPb) (by rw [hda]; exact fun k hk => hoa k (inFoot_len hk)) (by rw [hdb]; exact fun k hk => hob k (inFoot_len hk))
              · have hNb : (((valN (K % 9) AN : Nat) : Int) == ((valN (K % 9) BN : Nat) : Int)) = false := by rw [beq_eq_false_iff_ne]; omega
                have HN := Lib.hid hN
                clear hN
                have hX5 := (hY0.same hY4).alloc (Obj.cells #[.int .u64 (valN (K % 9) BN), .slice aoY nY cY] 49); have own1 := hAt.own1 hX5 (Obj.cells #[.int .i64 (K % 9), .int .u64 AN, .slice aoA AB.length cA] 39); have src1 := Reads.src (P := Try.prog) (Reads.oneAt ((w4.alloc (Obj.cells #[.int .u64 (valN (K % 9) BN), .slice aoY nY cY] 49))) (w4.heap.size + 1) (alloc_size _ _) [.int .i64 (K % 9), .int .u64 AN, .slice aoA AB.length cA] 39) Try.underlying25 (put_one _ _ _ _ _)
                go_wp2_with (first | (at_builtin; refine wpList_append_row info_put rfl Try.underlying25 own1 src1 (by unfold maxLen; omega) (by omega) rfl (.tmp 90) (.tmp 92) rfl rfl rfl ?_; intro ao3 c3 w6 _ _ h61 h62; have b6 := hAt.blk h62 ((b4.alloc (Obj.cells #[.int .u64 (valN (K % 9) BN), .slice aoY nY cY] 49))) (by omega); have b60 := b6.cell 0 rfl; have b61 := b6.cell 1 rfl; have b62 := b6.cell 2 rfl; have z6 := b6.lt; have own2 := hAt.own2 hX5 h62 (Obj.cells #[.int .i64 (K % 9), .int .u64 BN, .slice aoB BB.length cB] 39); have src2 := Reads.src (P := Try.prog) (Reads.one w6 [.int .i64 (K % 9), .int .u64 BN, .slice aoB BB.length cB] 39) Try.underlying25 (put_one _ _ _ _ _)) | (at_builtin; refine wpList_append_row info_put rfl Try.underlying25 own2 src2 (by unfold maxLen; omega) (by omega) rfl (.tmp 94) (.tmp 96) rfl rfl rfl ?_; intro ao4 c4 w7 _ _ h71 h72))
                refine ⟨⟨k + 1, by omega, by go_num, ?_⟩, by simp [intOf]; omega⟩
                rw [HYES.out]
                refine ⟨congrArg Value.bool (by rw [List.all_append, HSS.out]; simp only [Bool.true_and, List.all_cons, List.all_nil, Bool.and_true]; rw [HLIKE.out]; simp only [HN.out, false_and, decide_false]), ao3, c3, ao4, c4, by rw [List.length_append]; rfl, by rw [List.length_append]; rfl, ?_⟩
                exact ApAt.push (d := ⟨K, AK, AN, .slice aoA AB.length cA, AB, BK, BN, .slice aoB BB.length cB, BB⟩) hAt hX5 rfl rfl (by rw [hda]; exact h61) h62 (by rw [hdb]; exact h71) h72 (by rw [hda]; exact hPa) (by rw [hdb]; exact hPb) (by rw [hda]; exact fun k hk => hoa k (inFoot_len hk)) (by rw [hdb]; exact fun k hk => hob k (inFoot_len hk))
    · obtain rfl : k = l.length := by omega
      have hL' := HL.out
      rw [List.take_length] at hL'
      have HY2 := HY.out
      have HN2 := HN.out
      rw [hL'] at hfa hfb HY2 HN2
      clear hT hc hL' HY HN
      have hAa := hAt.a.puts
      have hBb := hAt.b.puts
      go_wp2_with fail
      refine (all_any w.heap.size wr _ _ (by simpa using hAa) hE.size (fun k hk => hAt.a.own.lt k hk) hfa).mono ?_
      rintro e w1 ⟨ao3, c3, h31, h32, rfl, h33, h34⟩
      go_wp2_with fail
      refine (all_any w.heap.size w1 _ _ (hBb.ext h34.1 (fun _ h => h.elim) (fun _ _ h => h)) (by have := h34.1.size; have := hE.size; omega) (fun k hk => by have := hAt.b.own.lt k hk; have := h34.1.size; omega) hfb).mono ?_
      rintro e w2 ⟨ao4, c4, h41, h42, rfl, h43, h44⟩
      have h33' := h33.bytes.ext h44.1 (fun _ _ h => h)
      have h43' := h43.bytes
      have hEE := (hE.same h34.1).same h44.1
      clear hAa hBb hAt h33 h43 h34 h44
      generalize L.all TwinD.like = s at *
      generalize allB (L.map TwinD.a) = C at *
      generalize allB (L.map TwinD.b) = D at *
      cases s
      · have hp := HN2 rfl
        clear HN2 HY2
        have HP := Lib.hid hp
        clear hp
        unfold maxLen at h32 h42
        by_cases hsh : D.length < C.length
        · have hC := h33'.cut D.length (by omega)
          have hm : min C.length D.length = D.length := by omega
          have HM := Lib.hid hm
          clear hm
          go_wp2_with fail
          go_quiet ((go_at_call 38; exact Calls.quiet_of (same_any _ _ _ _ _ (hC.drewN _) (h43'.drewN _))))
          go_wp2_with fail
          go_ret
          refine ⟨ret_bool ?_, hEE.drewN _⟩
          have h := HP.out
          rw [HM.out, List.take_length] at h
          simpa using h
        · have hD := h43'.cut C.length (by omega)
          have hm : min C.length D.length = C.length := by omega
          have HM := Lib.hid hm
          clear hm
          go_wp2_with fail
          go_quiet ((go_at_call 38; exact Calls.quiet_of (same_any _ _ _ _ _ (h33'.drewN _) (hD.drewN _))))
          go_wp2_with fail
          go_ret
          refine ⟨ret_bool ?_, hEE.drewN _⟩
          have h := HP.out
          rw [HM.out, List.take_length] at h
          simpa using h
      · have hp := HY2 rfl
        have HP := Lib.hid hp
        clear HN2 HY2 hp
        go_wp2_with (go_at_call 38; refine (same_any _ _ _ _ _ h33' h43').mono ?_; rintro e w5 ⟨rfl, nq, rfl⟩)
        go_ret
        exact ⟨ret_bool (decide_eq_true HP.out), hEE.drewN _⟩
end Go.Proofs.Ytdgagpoeefbdjaa
