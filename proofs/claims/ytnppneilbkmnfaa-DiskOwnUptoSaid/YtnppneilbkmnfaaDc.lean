/- The contract of slices.DeleteFunc over the closure that looks for a call's trouble. Condition: the row is one's own, the boxes stand. -/
import Derived.Test.YtnppneilbkmnfaaDb
namespace Go.Proofs.Ytnppneilbkmnfaa
open Go.RowKit

/-- a row of troubles of one's own -/
def OwnA (w : World) (v : Value) (l : List ArmM) : Prop := Own w 108 4 v l.length (l.flatMap armCells)
theorem OwnA.ext {F : Nat → Prop} {w w' : World} {v : Value} {l : List ArmM} (h : OwnA w v l) (e : Ext F w w') (hf : ∀ k, inFoot v k → ¬ F k) : OwnA w' v l := Own.ext h e hf
theorem OwnA.head {w : World} {v : Value} {l : List ArmM} (h : OwnA w v l) (hl : l ≠ []) : ∃ g c cs, v = .slice (some ⟨g, 0, none⟩) l.length (c + 1) ∧ At w g 108 cs ∧ l.length ≤ c + 1 ∧ c + 1 ≤ maxLen ∧ cs.length = (c + 1) * 4 ∧ cs.take (l.length * 4) = l.flatMap armCells := by
  obtain ⟨h1, h2⟩ := h
  rcases h2 with ⟨ao', h3, h4⟩ | ⟨g, c, cs, h3, h4, h5, h6, h7, h8⟩
  · exact absurd (List.eq_nil_of_length_eq_zero h4) hl
  · exact ⟨g, c, cs, h3, h4, h5, h6, h7, h8⟩
theorem set4 (X Y : List Value) (a b c d a' b' c' d' : Value) : ((((X ++ a :: b :: c :: d :: Y).set X.length a').set (X.length + 1) b').set (X.length + 2) c').set (X.length + 3) d' = X ++ a' :: b' :: c' :: d' :: Y := by
  simp
theorem armCells_set (l : List ArmM) (i : Nat) (hi : i < l.length) (a : ArmM) :
    (((((l.flatMap armCells).set (i * 4) (.int .i64 a.call)).set (i * 4 + 1) (.int .i64 a.tat)).set (i * 4 + 2) (.int .i64 a.kind)).set (i * 4 + 3) (.bool a.done)) = (l.set i a).flatMap armCells := by
  obtain ⟨A, x, B, rfl, rfl⟩ : ∃ A x B, l = A ++ x :: B ∧ A.length = i := ⟨l.take i, l[i], l.drop (i + 1), by simp, by simp; omega⟩
  have e1 : (A ++ x :: B).set A.length a = A ++ a :: B := by simp
  have e2 : A.length * 4 = (A.flatMap armCells).length := by rw [armCells_length]
  rw [e1, e2]
  simp only [List.flatMap_append, List.flatMap_cons, armCells, List.cons_append, List.nil_append]
  exact set4 _ _ _ _ _ _ _ _ _ _
theorem take_set4 (cs : List Value) (m i : Nat) (a b c d : Value) : ((((cs.set i a).set (i + 1) b).set (i + 2) c).set (i + 3) d).take m = ((((cs.take m).set i a).set (i + 1) b).set (i + 2) c).set (i + 3) d := by
  simp only [List.take_set]
theorem OwnA.setArm {w : World} {g n cap : Nat} {l : List ArmM} (h : OwnA w (.slice (some ⟨g, 0, none⟩) n cap) l) (i : Nat) (hi : i < l.length) (a : ArmM) :
    OwnA ((((w.setCell ⟨g, i * 4, none⟩ (.int .i64 a.call)).setCell ⟨g, i * 4 + 1, none⟩ (.int .i64 a.tat)).setCell ⟨g, i * 4 + 2, none⟩ (.int .i64 a.kind)).setCell ⟨g, i * 4 + 3, none⟩ (.bool a.done)) (.slice (some ⟨g, 0, none⟩) n cap) (l.set i a) := by
  obtain ⟨g', c, cs, e, hA, h1, h2, h3, h4⟩ := h.head (by intro e; subst e; simp at hi)
  simp only [Value.slice.injEq, Option.some.injEq, Addr.mk.injEq, and_true] at e
  obtain ⟨rfl, rfl, rfl⟩ := e
  unfold OwnA
  rw [List.length_set]
  refine ⟨by rw [armCells_length, List.length_set], .inr ⟨g, c, _, rfl, (((hA.set (i * 4) (.int .i64 a.call)).set (i * 4 + 1) (.int .i64 a.tat)).set (i * 4 + 2) (.int .i64 a.kind)).set (i * 4 + 3) (.bool a.done), h1, h2, by simpa using h3, ?_⟩⟩
  rw [take_set4, h4]
  exact armCells_set l i hi a
theorem OwnA.at {w : World} {g n cap : Nat} {l : List ArmM} (h : OwnA w (.slice (some ⟨g, 0, none⟩) n cap) l) (i : Nat) (hi : i < l.length) :
    (w.cell? ⟨g, i * 4, none⟩ = some (.int .i64 l[i].call) ∧ w.cell? ⟨g, i * 4 + 1, none⟩ = some (.int .i64 l[i].tat) ∧ w.cell? ⟨g, i * 4 + 2, none⟩ = some (.int .i64 l[i].kind) ∧ w.cell? ⟨g, i * 4 + 3, none⟩ = some (.bool l[i].done)) ∧
    (w.frozen? ⟨g, i * 4, none⟩ = false ∧ w.frozen? ⟨g, i * 4 + 1, none⟩ = false ∧ w.frozen? ⟨g, i * 4 + 2, none⟩ = false ∧ w.frozen? ⟨g, i * 4 + 3, none⟩ = false) := by
  obtain ⟨g', c, cs, e, hA, h1, h2, h3, h4⟩ := h.head (by intro e; subst e; simp at hi)
  simp only [Value.slice.injEq, Option.some.injEq, Addr.mk.injEq, and_true] at e
  obtain ⟨rfl, rfl, rfl⟩ := e
  obtain ⟨ao, cap', e, -, -, hr⟩ := (Own.reads h).arms
  obtain ⟨b, off, e2, hc⟩ := hr (by intro e; subst e; simp at hi)
  subst e2
  simp only [Value.slice.injEq, Option.some.injEq, Addr.mk.injEq, and_true, true_and] at e
  obtain ⟨⟨rfl, rfl⟩, rfl⟩ := e
  have := hc i hi
  simp only [Nat.zero_add] at this
  exact ⟨this, hA.frozen _ (by omega), hA.frozen _ (by omega), hA.frozen _ (by omega), hA.frozen _ (by omega)⟩

theorem At.setCells {t : TypeId} {g : Nat} : ∀ (news : List Value) (o : Nat) (u : World) (ds : List Value), At u g t ds → o + news.length ≤ ds.length →
    At (u.setCells g o news) g t (ds.take o ++ news ++ ds.drop (o + news.length)) ∧ Ext (One g) u (u.setCells g o news) := by
  intro news
  induction news with
  | nil =>
    intro o u ds hu _
    refine ⟨?_, ?_⟩
    · simp only [World.setCells, List.length_nil, Nat.add_zero, List.append_nil, List.take_append_drop]; exact hu
    · simp only [World.setCells]; exact Ext.refl _ _
  | cons y ys ih =>
    intro o u ds hu hle
    simp only [List.length_cons] at hle
    have hu2 := hu.set o y
    have h2 := ih (o + 1) (u.setCell ⟨g, o, none⟩ y) (ds.set o y) hu2 (by simp; omega)
    simp only [World.setCells]
    refine ⟨?_, ((Ext.refl (One g) u).setCell (p := ⟨g, o, none⟩) (fun _ => rfl) y).same h2.2⟩
    have e1 := splice_cons ds o y ys (by omega)
    rw [← e1]
    exact h2.1
theorem zeroArm (w : World) : (zeroValue 108).run Try.prog w = .ok (.agg #[.int .i64 0, .int .i64 0, .int .i64 0, .bool false]) w := by kernel_rfl

/-- clear(s[i:]) -/
theorem clear_run {w : World} {g n cap : Nat} {l : List ArmM} (h : OwnA w (.slice (some ⟨g, 0, none⟩) n cap) l) (i : Nat) (hi : i < l.length) (c : Nat) (ty : TypeId) :
    ∃ w', (Builtin.clear_ #[55] ty #[.slice (some ⟨g, i * 4, none⟩) (l.length - i) c]).run Try.prog w = .ok (.tuple #[]) w' ∧ OwnA w' (.slice (some ⟨g, 0, none⟩) i cap) (l.take i) ∧ Ext (One g) w w' := by
  have hat := h.head (by intro e; subst e; simp at hi)
  obtain ⟨g', cc, cs, e, hA, h1, h2, h3, h4⟩ := hat
  simp only [Value.slice.injEq, Option.some.injEq, Addr.mk.injEq, and_true] at e
  obtain ⟨rfl, rfl, rfl⟩ := e
  obtain ⟨m, hm⟩ : ∃ m, l.length - i = m + 1 := ⟨l.length - i - 1, by omega⟩
  generalize hZ : (Builtin.zeroCells (Value.agg #[.int .i64 0, .int .i64 0, .int .i64 0, .bool false]).cells (m + 1)).toList = Z
  have hZl : Z.length = (m + 1) * 4 := by
    rw [← hZ, Array.length_toList, size_zeroCells]
    rfl
  have hZ1 : ∀ v ∈ Z, v.oneCell' = true := by
    rw [← hZ]
    intro v hv
    unfold Builtin.zeroCells at hv
    rw [Array.toList_map, List.mem_map] at hv
    obtain ⟨i, -, rfl⟩ := hv
    have e : (Value.agg #[.int .i64 0, .int .i64 0, .int .i64 0, .bool false]).cells = #[.int .i64 0, .int .i64 0, .int .i64 0, .bool false] := rfl
    rw [e]
    have hi4 : i % 4 < 4 := Nat.mod_lt _ (by omega)
    have hsz : (#[Value.int .i64 0, .int .i64 0, .int .i64 0, .bool false] : Array Value).size = 4 := rfl
    rw [hsz]
    generalize i % 4 = q at *
    match q, hi4 with
    | 0, _ => rfl
    | 1, _ => rfl
    | 2, _ => rfl
    | 3, _ => rfl
  have hset := At.setCells Z (i * 4) w cs hA (by rw [hZl]; omega)
  refine ⟨w.setCells g (i * 4) Z, ?_, ?_, hset.2⟩
  · have hst := run_storeCells_cells (P := Try.prog) g (i * 4) Z 0 w
      (fun j hj => by
        have hl : i * 4 + 0 + j < cs.length := by omega
        rw [hA.cell (i * 4 + 0 + j) (List.getElem?_eq_getElem hl)]
        rfl)
      (fun j hj => hA.frozen _ (by omega)) hZ1
    rw [Nat.add_zero] at hst
    have hz := zeroArm w
    simp [Builtin.clear_, run_underlying Try.underlying55, hm, hz, hZ, hst]
  · have hlen : (l.take i).length = i := by simp; omega
    unfold OwnA
    rw [hlen]
    refine ⟨by rw [armCells_length, hlen], .inr ⟨g, cc, _, rfl, hset.1, by omega, h2, ?_, ?_⟩⟩
    · simp only [List.length_append, List.length_take, List.length_drop, hZl]
      omega
    · rw [List.append_assoc, List.take_left' (by simp; omega)]
      have h5 : cs.take (i * 4) = (cs.take (l.length * 4)).take (i * 4) := by
        rw [List.take_take, Nat.min_eq_left (by omega)]
      rw [h5, h4]
      conv => lhs; rw [← List.take_append_drop i l, List.flatMap_append]
      exact List.take_left' (by rw [armCells_length, hlen])

theorem delete_none (w : World) (v : Value) (l : List ArmM) (hv : OwnA w v l) (p t d n : Nat) (hb : Box w p d n) (hn : ∀ a ∈ l, a.call ≠ n) :
    Calls Try.prog 90 #[v, pickV p t] w fun e w' => e = .returned v ∧ Ext Nil w w' := by
  go_enter Try.func90, Try.ntmps90
  go_wp2_with fail
  refine (index_none w v l (Own.reads hv) p t d n hb hn).mono ?_
  rintro e w1 ⟨rfl, e1⟩
  go_wp2_with fail
  go_ret
  exact ⟨rfl, e1⟩

theorem take_set_succ (R : List ArmM) (q : Nat) (h : q < R.length) (x : ArmM) : (R.set q x).take (q + 1) = R.take q ++ [x] := by
  rw [List.take_succ_eq_append_getElem (by rw [List.length_set]; exact h)]
  rw [List.take_set, List.set_eq_of_length_le (by rw [List.length_take]; omega)]
  simp
/-- the troubles of other calls -/
def rest (n : Nat) (l : List ArmM) : List ArmM := l.filter fun a => !(a.call == n)

set_option maxRecDepth 20000 in
set_option maxHeartbeats 1000000 in
theorem delete_some (w : World) (v : Value) (A B : List ArmM) (a : ArmM) (hv : OwnA w v (A ++ a :: B)) (p t d n : Nat) (hb : Box w p d n) (hT : At w t 29 zeroT) (hA : ∀ x ∈ A, x.call ≠ n) (ha : a.call = n) (hk : a.kind ≠ 0)
    (hpt : p ≠ t) (hdt : d ≠ t) (hpv : ¬ inFoot v p) (hdv : ¬ inFoot v d) (htv : ¬ inFoot v t) :
    Calls Try.prog 90 #[v, pickV p t] w fun e w' => ∃ v', e = .returned v' ∧ OwnA w' v' (A ++ rest n B) ∧ (∀ k, inFoot v' k → inFoot v k) ∧ At w' t 29 (trouble a) ∧ Ext (fun k => k = t ∨ inFoot v k) w w' := by
  obtain ⟨g, c, cs, rfl, -, hcap, hmax, -, -⟩ := hv.head (by simp)
  have hfg : ∀ m k, inFoot (.slice (some ⟨g, 0, none⟩) m (c + 1)) k ↔ k = g := fun m k => ⟨fun h => (Option.some.inj h).symm, fun h => by subst h; rfl⟩
  rw [hfg] at hpv hdv htv
  have hv2 := hv
  generalize hL : A ++ a :: B = L at *
  have hlen : L.length = A.length + 1 + B.length := by rw [← hL]; simp; omega
  have HL := Lib.hid hL
  have HFG := Lib.hid hfg
  have HLen := Lib.hid hlen
  have hAL : A.length < L.length := by omega
  have hL62 : (L.length : Int) ≤ 9223372036854775807 := by unfold maxLen at hmax; omega
  clear hL hfg hlen
  unfold pickV
  have hneg : ((A.length : Int) == -1) = false := by rw [beq_eq_false_iff_ne]; omega
  go_enter Try.func90, Try.ntmps90
  go_wp2_with fail
  refine (index_some w _ A B a (by rw [HL.out]; exact Own.reads hv) p t d n hb hT hA ha).mono ?_
  rintro e w1 ⟨rfl, hT1, e1⟩
  unfold maxLen at hmax
  go_wp2_with fail
  have hE1 : Ext (fun k => k = t ∨ k = g) w w1 := e1.mono fun k _ h => .inl h
  have hO1 := hv2.ext e1 fun k hk e => htv (by rw [HFG.out] at hk; have e : k = t := e; omega)
  go_loopw [5, 6] (fun i j wr => ∃ (m q J : Nat) (R : List ArmM), m ≤ B.length ∧ q = A.length + (rest n (B.take m)).length ∧ J = A.length + 1 + m ∧ i = .int .i64 q ∧ j = .int .i64 J ∧ OwnA wr (.slice (some ⟨g, 0, none⟩) L.length (c + 1)) R ∧ R.length = L.length ∧
    R.take q = A ++ rest n (B.take m) ∧ R.drop J = B.drop m ∧ At wr t 29 (trouble a) ∧ Ext (fun k => k = t ∨ k = g) w wr) (fun _ j _ => L.length - (intOf j).toNat)
  case atStart => exact ⟨0, A.length, A.length + 1, L, Nat.zero_le _, by simp [rest], rfl, rfl, by go_num, hO1, rfl, by rw [← HL.out]; simp [rest], by rw [← HL.out]; simp, hT1, hE1⟩
  case round =>
    obtain ⟨m, q, J, R, hm, hq, hJ, rfl, rfl, hO, hRl, hR1, hR2, hTr, hE⟩ := hrel
    have hql : q ≤ A.length + m := by
      have h1 : (rest n (B.take m)).length ≤ (B.take m).length := List.length_filter_le _ _
      rw [List.length_take] at h1
      omega
    have HLn := HLen.out
    have hqJ : q < J := by omega
    clear hv hv2 hT hO1 hT1 e1 hE1
    by_cases hlt : J < L.length
    · have hmB : m < B.length := by omega
      have hat := hO.at J (by omega)
      have hRx : R[J]'(by omega) = B[m] := by
        have h1 : (R.drop J)[0]? = (B.drop m)[0]? := by rw [hR2]
        simp only [List.getElem?_drop, Nat.add_zero] at h1
        rw [List.getElem?_eq_getElem (by omega), List.getElem?_eq_getElem hmB] at h1
        exact Option.some.inj h1
      rw [hRx] at hat
      have hBs : B.take (m + 1) = B.take m ++ [B[m]] := List.take_succ_eq_append_getElem hmB
      have hRs : R.drop (J + 1) = B.drop (m + 1) := by
        rw [← List.drop_drop, hR2, List.drop_drop]
      have hqr : q < R.length := by omega
      obtain ⟨⟨g0, g1, g2, g3⟩, -⟩ := hat
      obtain ⟨⟨k0, k1, k2, k3⟩, l0, l1, l2, l3⟩ := hO.at q hqr
      have hgw : g < wr.heap.size := (cell_spot g0).2
      have htw : t < wr.heap.size := hTr.lt
      have hbr := hb.ext hE (fun e => e.elim hpt hpv) (fun e => e.elim hdt hdv)
      have hbl := hbr.lt
      clear hRx
      generalize B[m] = x at *
      have hJ62 : (J : Int) < L.length := by omega
      by_cases hx : x.call = n
      · have hC := pick_on (wr.alloc (.cells #[.int .i64 x.call, .int .i64 x.tat, .int .i64 x.kind, .bool x.done] 108 (0, 0))) x p t d n (hbr.ext (F := Nil) ((Ext.refl _ _).alloc _) (fun h => h) fun h => h) (by simp; omega) (by simp; omega) a.tat a.kind a.done (hTr.alloc _) hx
        rw [if_neg hk] at hC
        unfold armV at hC
        have HC := Lib.hid hC
        have HX := Lib.hid hx
        have H1 := Lib.hid hq; have H2 := Lib.hid hJ; have H3 := Lib.hid hRl; have H4 := Lib.hid hR1; have H5 := Lib.hid hR2; have H6 := Lib.hid hBs; have H7 := Lib.hid hRs
        have H8 := Lib.hid HLn
        clear hC hx hq hJ hRl hR1 hR2 hBs hRs HLn ha hA k0 k1 k2 k3 l0 l1 l2 l3
        go_wp2_with fail
        refine HC.out.mono ?_
        rintro e w2 ⟨rfl, t2, e2⟩
        go_wp2_with fail
        refine ⟨⟨m + 1, q, J + 1, R, hmB, ?_, by rw [H2.out]; omega, rfl, by go_num, ?_, H3.out, ?_, H7.out, t2, ?_⟩, by simp [intOf]; omega⟩
        · rw [H6.out]; simpa [rest, HX.out] using H1.out
        · exact (hO.ext ((Ext.refl Nil wr).alloc _) fun _ _ h => h).ext e2 fun k hk e => htv (by rw [HFG.out] at hk; have e : k = t := e; omega)
        · rw [H6.out, H4.out]; simp [rest, HX.out]
        · exact hE.trans (((Ext.refl (One t) wr).alloc _).same e2) fun i _ h => .inl h
      · have hC := pick_off (wr.alloc (.cells #[.int .i64 x.call, .int .i64 x.tat, .int .i64 x.kind, .bool x.done] 108 (0, 0))) x p t d n (hbr.ext (F := Nil) ((Ext.refl _ _).alloc _) (fun h => h) fun h => h) (by simp; omega) (by simp; omega) hx
        unfold armV at hC
        have HC := Lib.hid hC
        have HX := Lib.hid hx
        have H1 := Lib.hid hq; have H2 := Lib.hid hJ; have H3 := Lib.hid hRl; have H4 := Lib.hid hR1; have H5 := Lib.hid hR2; have H6 := Lib.hid hBs; have H7 := Lib.hid hRs
        have H8 := Lib.hid HLn
        clear hC hx hq hJ hRl hR1 hR2 hBs hRs HLn ha hA
        go_wp2_with fail
        refine HC.out.mono ?_
        rintro e w2 ⟨rfl, e2⟩
        have hbox := (At.new wr [.int .i64 x.call, .int .i64 x.tat, .int .i64 x.kind, .bool x.done] 108).ext e2 fun h => h
        have b0 := hbox.cell 0 rfl
        have b1 := hbox.cell 1 rfl
        have b2 := hbox.cell 2 rfl
        have b3 := hbox.cell 3 rfl
        have e3 : Ext Nil wr w2 := ((Ext.refl Nil wr).alloc _).same e2
        have hO2 := hO.ext e3 fun _ _ h => h
        clear g0 g1 g2 g3 k0 k1 k2 k3 l0 l1 l2 l3
        obtain ⟨⟨k0, k1, k2, k3⟩, l0, l1, l2, l3⟩ := hO2.at q hqr
        clear hbox
        have hq62 : (q : Int) < L.length := by omega
        go_wp2_with fail
        refine ⟨⟨m + 1, q + 1, J + 1, R.set q x, hmB, ?_, by rw [H2.out]; omega, by go_num, by go_num, hO2.setArm q hqr x, by rw [List.length_set]; exact H3.out, ?_, ?_, ?_, ?_⟩, by simp [intOf]; omega⟩
        · rw [H6.out, H1.out]; simp [rest, HX.out]; omega
        · rw [H6.out, take_set_succ R q hqr x, H4.out]; simp [rest, HX.out]
        · rw [List.drop_set_of_lt (by omega)]; exact H7.out
        · exact (((((hTr.ext e3 fun h => h).setOther _ _ htv).setOther _ _ htv).setOther _ _ htv).setOther _ _ htv)
        · exact hE.trans ((((((Ext.refl (fun k => k = t ∨ k = g) wr).same (e3.mono fun _ _ h => h.elim)).setCell (p := ⟨g, q * 4, none⟩) (fun _ => .inr rfl) _).setCell (p := ⟨g, q * 4 + 1, none⟩) (fun _ => .inr rfl) _).setCell (p := ⟨g, q * 4 + 2, none⟩) (fun _ => .inr rfl) _).setCell (p := ⟨g, q * 4 + 3, none⟩) (fun _ => .inr rfl) _) fun i _ h => h
    · have hmB : m = B.length := by omega
      subst hmB
      rw [List.take_length] at hR1 hq
      have hqr : q < R.length := by omega
      obtain ⟨w3, hcl, hO3, e3⟩ := clear_run hO q hqr (c + 1 - q) 0
      rw [hRl] at hcl
      rw [hR1] at hO3
      have H1 := Lib.hid hq; have H2 := Lib.hid hJ; have H3 := Lib.hid hRl; have H4 := Lib.hid hR1; have H5 := Lib.hid hR2
      have H8 := Lib.hid HLn
      have hq62 : (q : Int) < L.length := by omega
      have hqc : (q : Int) < (c : Int) + 1 := by omega
      clear hq hJ hRl hR1 hR2 HLn ha hA
      go_wp2_with fail
      go_ret
      refine ⟨.slice (some ⟨g, 0, none⟩) q (c + 1), rfl, hO3, fun k hk => ?_, hTr.ext e3 htv, ?_⟩
      · rw [HFG.out] at hk ⊢
        exact hk
      · exact (hE.trans e3 fun i _ h => .inr h).mono fun k _ h => h.imp id fun h => by rw [HFG.out]; exact h
end Go.Proofs.Ytnppneilbkmnfaa
