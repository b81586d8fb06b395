/- The walk of WalFrames. Conditions: the arguments are no longer than is let in; the table's cells hold what its initialiser lays. -/
import Derived.Test.YtgabmidkonphdaaDoorWFrame
import Derived.Test.YtgabmidkonphdaaDoorLent7
import Derived.Test.YtgabmidkonphdaaDoorTurn
import Derived.Laws.IdiomCopy
import Derived.Lib.SlBuf
namespace Go.Proofs.YtgabmidkonphdaaDoor
open Go.RowKit

theorem num7_any (w : World) (n : Int) : Calls Tryd.prog 7 #[.int .i64 n] w fun e w' => e = .returned (.int .i64 n) ∧ w = w' := by
  go_enter Tryd.func7, Tryd.ntmps7
  go_wp2
  go_ret
  exact ⟨rfl, rfl⟩

/-- what Frame answers: bytes, error -/
def fB (l : List UInt8) : List UInt8 := if l.length ≤ 262400 then frameB l else []
def fE (l : List UInt8) : Int := if l.length ≤ 262400 then 0 else 4
def Framed (w : World) (l : List UInt8) (e : Ending) (w' : World) : Prop :=
  ∃ ao cap, e = .returned (.tuple #[.slice ao (fB l).length cap, .int .i64 (fE l)]) ∧ OwnB w' (.slice ao (fB l).length cap) (fB l) ∧ Step Nil w (inFoot (.slice ao (fB l).length cap)) w'
theorem fB_fits {l : List UInt8} : (fB l).length ≤ 262413 := by
  unfold fB
  split
  · rw [frameB_length]; omega
  · simp
theorem frameA (w : World) (x : Value) (l : List UInt8) (hx : Bytes w x l) (hT : TabAt w) : Calls Tryd.prog 5 #[x] w (Framed w l) := by
  by_cases h : l.length ≤ 262400
  · have e1 : fB l = frameB l := if_pos h
    have e2 : fE l = 0 := if_pos h
    refine (frame_any w x l hx h hT).mono fun e w' ⟨ao, cap, h1, h2, h3⟩ => ?_
    unfold Framed
    rw [e1, e2]
    exact ⟨ao, cap, h1, h2, h3⟩
  · have e1 : fB l = [] := if_neg h
    have e2 : fE l = 4 := if_neg h
    refine (frame_big w x l hx (by omega)).mono fun e w' ⟨h1, h2⟩ => ?_
    subst h2
    unfold Framed
    rw [e1, e2]
    exact ⟨none, 0, h1, Own.nil _ _ _, Step.nilNil w rfl⟩
theorem refFrameA (w : World) (x : Value) (l : List UInt8) (hx : Bytes w x l) : Calls Tryd.prog 6 #[x] w (Framed w l) := by
  by_cases h : l.length ≤ 262400
  · have e1 : fB l = frameB l := if_pos h
    have e2 : fE l = 0 := if_pos h
    refine (refFrame_any w x l hx h).mono fun e w' ⟨ao, cap, h1, h2, h3⟩ => ?_
    unfold Framed
    rw [e1, e2]
    exact ⟨ao, cap, h1, h2, h3⟩
  · have e1 : fB l = [] := if_neg h
    have e2 : fE l = 4 := if_neg h
    refine (refFrame_big w x l hx (by omega)).mono fun e w' ⟨h1, h2⟩ => ?_
    subst h2
    unfold Framed
    rw [e1, e2]
    exact ⟨none, 0, h1, Own.nil _ _ _, Step.nilNil w rfl⟩

theorem At.setCells {t : TypeId} {g : Nat} : ∀ (news : List Value) (o : Nat) (u : World) (ds : List Value), At u g t ds → o + news.length ≤ ds.length →
    At (u.setCells g o news) g t (ds.take o ++ news ++ ds.drop (o + news.length)) ∧ Ext (One g) u (u.setCells g o news) := by
  intro news
  induction news with
  | nil =>
    intro o u ds hu _
    refine ⟨?_, ?_⟩
    · simp only [World.setCells, List.length_nil, Nat.add_zero, List.append_nil, List.take_append_drop]; exact hu
    · simp only [World.setCells]; exact Ext.refl _ _
  | cons y ys ih =>
    intro o u ds hu hle
    simp only [List.length_cons] at hle
    have hu2 := hu.set o y
    have h2 := ih (o + 1) (u.setCell ⟨g, o, none⟩ y) (ds.set o y) hu2 (by simp; omega)
    simp only [World.setCells]
    refine ⟨?_, ((Ext.refl (One g) u).setCell (p := ⟨g, o, none⟩) (fun _ => rfl) y).same h2.2⟩
    have e1 := splice_cons ds o y ys (by omega)
    rw [← e1]
    exact h2.1

/-- the front of a row of one's own -/
theorem OwnB.front {w : World} {g n cap : Nat} {l : List UInt8} (h : OwnB w (.slice (some ⟨g, 0, none⟩) n cap) l) (k : Nat) (hk : k ≤ l.length) : Bytes w (.slice (some ⟨g, 0, none⟩) k cap) (l.take k) := by
  obtain ⟨ao, cap', e, h1, h2⟩ := Own.shape h
  simp only [Value.slice.injEq] at e
  obtain ⟨rfl, rfl, rfl⟩ := e
  have hlen : (l.take k).length = k := by simp; omega
  refine ⟨by rw [hlen]; simp [bvs]; omega, _, cap, by rw [hlen], by rw [hlen]; omega, h2, fun _ => ⟨g, 0, rfl, fun j u hj => ?_⟩⟩
  have hj' : j < k := by
    have := (List.getElem?_eq_some_iff.1 hj).1
    simp [bvs] at this
    omega
  have h4 := (h.at j (by omega)).1
  rw [Nat.zero_add, h4, ← hj]
  simp [bvs, bv, hj', show j < l.length by omega]

/-- copy onto the front of a row of one's own -/
theorem copy_front {w : World} {g n cap : Nat} {l : List UInt8} (h : OwnB w (.slice (some ⟨g, 0, none⟩) n cap) l) (d dc : Nat) (hd : d ≤ l.length) {ao : Option Addr} {c2 : Nat} {s : List UInt8} (hs : Bytes w (.slice ao s.length c2) s) (hsd : s.length ≤ d) (ty : TypeId) :
    ∃ w', (Builtin.copy_ #[22, 22] ty #[.slice (some ⟨g, 0, none⟩) d dc, .slice ao s.length c2]).run Tryd.prog w = .ok (goInt s.length) w' ∧ OwnB w' (.slice (some ⟨g, 0, none⟩) n cap) (s ++ l.drop s.length) ∧ Ext (One g) w w' := by
  obtain ⟨i, hi, hz, h1, h2⟩ := info_parts info_u8
  have hsz : (Tryd.prog.info? 5).map (·.size) = some 1 := by rw [hi]; simp [h1]
  by_cases h0 : s = []
  · subst h0
    exact ⟨w, run_copy_none w _ _ ty 5 _ _ _ _ _ _ Tryd.underlying22 hsz (by simp), by simpa using h, Ext.refl _ _⟩
  · have hpos : 0 < s.length := List.length_pos_iff.2 h0
    obtain ⟨ao2, cap2, e, e2, e3, hr⟩ := hs.open
    simp only [Value.slice.injEq, true_and] at e
    obtain ⟨rfl, rfl⟩ := e
    obtain ⟨b, off, rfl, hc⟩ := hr h0
    obtain ⟨g', c, cs, hg, rfl, hn, hA, g1, g2, g3⟩ := h.head (by intro e; subst e; simp at hd; omega)
    simp only [Option.some.injEq, Addr.mk.injEq, and_true] at hg
    subst hg
    have hcl : l.length ≤ cs.length := by omega
    have hAs := At.setCells (bvs s) 0 w cs hA (by rw [bvs_length]; omega)
    refine ⟨w.setCells g 0 (bvs s), ?_, ?_, hAs.2⟩
    · have hrun := run_copy_cells (P := Tryd.prog) w 22 22 ty 5 g 0 d dc ⟨b, off, none⟩ s.length c2 (bvs s) Tryd.underlying22 hsz (by rw [bvs_length]; exact (Nat.min_eq_left hsd).symm)
        (fun j v hj => by
          have hj' : j < s.length := by
            have := (List.getElem?_eq_some_iff.1 hj).1
            rwa [bvs_length] at this
          have := hc j hj'
          have e : v = .int .u8 (s[j].toNat : Int) := by
            have h9 : (bvs s)[j]? = some (.int .u8 (s[j].toNat : Int)) := by simp [bvs, bv, hj']
            rw [h9] at hj
            exact (Option.some.inj hj).symm
          subst e
          unfold Addr.add
          split
          · next h0 => subst h0; simpa using this
          · exact this)
        (fun j hj => by
          rw [bvs_length] at hj
          rw [Nat.zero_add, (h.at j (by omega)).1]
          rfl)
        (fun j hj => by
          rw [bvs_length] at hj
          rw [Nat.zero_add]
          exact (h.at j (by omega)).2) (bvs_one s)
      rw [bvs_length] at hrun
      exact hrun
    · have hA2 := hAs.1
      simp only [List.take_zero, List.nil_append, Nat.zero_add, bvs_length] at hA2
      have hll : (s ++ l.drop s.length).length = l.length := by simp; omega
      unfold OwnB
      rw [hll]
      refine ⟨by rw [bvs_length, hll, Nat.mul_one], .inr ⟨g, c, _, by rw [hn], hA2, by omega, ?_, ?_, ?_⟩⟩
      · obtain ⟨_, _, e, _, h⟩ := Own.shape h
        simp only [Value.slice.injEq] at e
        omega
      · simp only [List.length_append, bvs_length, List.length_drop]
        omega
      · have h5 := g3
        rw [hn] at h5
        rw [Nat.mul_one, bvs_append, List.take_append, bvs_length, List.take_of_length_le (by rw [bvs_length]; omega), List.take_drop]
        congr 1
        rw [show s.length + (l.length - s.length) = l.length from by omega, h5]
        simp [bvs, List.map_drop]

theorem Bytes.take {w : World} {ao : Option Addr} {n cap : Nat} {l : List UInt8} (h : Bytes w (.slice ao n cap) l) (k : Nat) (hk : k ≤ l.length) : Bytes w (.slice ao k cap) (l.take k) := by
  obtain ⟨ao', cap', e, h1, h2, h3⟩ := h.open
  simp only [Value.slice.injEq] at e
  obtain ⟨rfl, rfl, rfl⟩ := e
  have hlen : (l.take k).length = k := by simp; omega
  refine ⟨by rw [bvs_length, Nat.mul_one], _, cap, by rw [hlen], by rw [hlen]; omega, h2, fun hne => ?_⟩
  have hl : l ≠ [] := fun e => hne (by subst e; simp [bvs])
  obtain ⟨b, off, rfl, hc⟩ := h3 hl
  refine ⟨b, off, rfl, fun j u hj => ?_⟩
  have hj' : j < k := by
    have := (List.getElem?_eq_some_iff.1 hj).1
    simp [bvs] at this
    omega
  rw [hc j (by omega), ← hj]
  simp [bvs, bv, hj', show j < l.length by omega]

set_option maxRecDepth 20000 in
set_option maxHeartbeats 1000000 in
theorem frames_walk (w : World) (x y : Value) (l r : List UInt8) (hx : Bytes w x l) (hy : Bytes w y r) (hl : l.length ≤ 1048576) (_hr : r.length ≤ 1048576) (hT : TabAt w) (_hylt : ∀ k, inFoot y k → k < w.heap.size) :
    Calls Tryd.prog 3 #[x, y] w fun e w' => e = .returned (.bool true) ∧ Ext Nil w w' := by
  obtain ⟨ax, cx, rfl, hcx, hmx, -⟩ := hx.open
  obtain ⟨ay, cy, rfl, hcy, hmy, -⟩ := hy.open
  unfold maxLen at hmx hmy
  have HT := Lib.hid hT
  clear hT
  go_enter Tryd.func3, Tryd.ntmps3
  go_wp2_with fail
  refine (lent7_any w _ l hx (by unfold Fits; omega)).mono ?_
  rintro e w1 ⟨g, cap, c1, c2, rfl, O1, S1⟩
  have hF : Bytes w1 (.slice (some ⟨g, 0, none⟩) l.length cap) l := by
    have h := O1.front l.length (by simp)
    rwa [List.take_left] at h
  have HF := Lib.hid hF
  clear hF
  have hfb := fB_fits (l := l)
  go_wp2_with fail
  refine (frameA w1 _ l HF.out (HT.out.ext S1.1 fun h => h)).mono ?_
  rintro e w2 ⟨ao2, cap2, rfl, O2, S2⟩
  have T2 := S1.1.same S2.1
  go_wp2_with fail
  refine (frameA w2 _ l (HF.out.ext S2.1 fun _ _ h => h) (HT.out.ext T2 fun h => h)).mono ?_
  rintro e w3 ⟨ao3, cap3, rfl, O3, S3⟩
  have T3 := T2.same S3.1
  go_wp2_with fail
  refine (refFrameA w3 _ l (hx.ext T3 fun _ _ h => h)).mono ?_
  rintro e w4 ⟨ao4, cap4, rfl, O4, S4⟩
  have T4 := T3.same S4.1
  generalize hB : fB l = B at *
  generalize hE : fE l = E at *
  have HB := Lib.hid hB
  have HE := Lib.hid hE
  clear hB hE
  have O2' := (O2.ext S3.1 fun _ _ h => h).ext S4.1 fun _ _ h => h
  have O3' := O3.ext S4.1 fun _ _ h => h
  go_wp2_with (first
    | (go_at_call 7; refine (num7_any _ _).mono ?_; rintro e w' ⟨rfl, rfl⟩))
  refine (same_any B B w4 _ _ O2'.bytes O4.bytes).mono ?_
  rintro e w5 ⟨rfl, n5, rfl⟩
  go_wp2_with fail
  refine (same_any B B _ _ _ (O3'.drewN n5).bytes (O4.drewN n5).bytes).mono ?_
  rintro e w6 ⟨rfl, n6, rfl⟩
  rw [World.drewN_drewN]
  have D6 : Ext Nil w4 (w4.drewN (n5 + n6)) := (Ext.refl Nil w4).drewN _
  generalize w4.drewN (n5 + n6) = w6 at *
  have T6 := T4.same D6
  have O16 := ((((O1.ext S2.1 fun _ _ h => h).ext S3.1 fun _ _ h => h).ext S4.1 fun _ _ h => h).ext D6 fun _ _ h => h)
  go_wp2_with fail
  refine (kept7_any w6 g cap _ l O16 (hx.ext T6 fun _ _ h => h) (by unfold Fits; omega)).mono ?_
  rintro e w7 ⟨rfl, O7, E7⟩
  have hgw : w.heap.size ≤ g := (S1.2 g rfl).resolve_left fun h => h
  have gfoot : ∀ k, inFoot (.slice (some ⟨g, 0, none⟩) (l.length + 2) cap) k ↔ k = g := fun k => by
    obtain ⟨c, rfl⟩ : ∃ c, cap = c + 1 := ⟨cap - 1, by omega⟩
    exact ⟨fun h => (Option.some.inj h).symm, fun h => by subst h; rfl⟩
  have hg1 : g < w1.heap.size := O1.lt g ((gfoot g).2 rfl)
  have hs12 := S2.1.size
  have hs23 := S3.1.size
  have hs34 := S4.1.size
  have ga : ∀ k, inFoot (.slice ao2 B.length cap2) k → ¬ One g k := fun k hk e => by
    have h1 := (S2.2 k hk).resolve_left fun h => h
    have e : k = g := e
    omega
  have gb : ∀ k, inFoot (.slice ao3 B.length cap3) k → ¬ One g k := fun k hk e => by
    have h1 := (S3.2 k hk).resolve_left fun h => h
    have e : k = g := e
    omega
  have gc : ∀ k, inFoot (.slice ao4 B.length cap4) k → ¬ One g k := fun k hk e => by
    have h1 := (S4.2 k hk).resolve_left fun h => h
    have e : k = g := e
    omega
  have bg : ¬ inFoot (.slice ao3 B.length cap3) g := fun hk => by
    have h1 := (S3.2 g hk).resolve_left fun h => h
    omega
  have ab : ∀ k, inFoot (.slice ao2 B.length cap2) k → ¬ inFoot (.slice ao3 B.length cap3) k := fun k hk hk2 => by
    have h1 := (S3.2 k hk2).resolve_left fun h => h
    have h2 := O2.lt k hk
    omega
  have cb : ∀ k, inFoot (.slice ao4 B.length cap4) k → ¬ inFoot (.slice ao3 B.length cap3) k := fun k hk hk2 => by
    have h1 := (S4.2 k hk).resolve_left fun h => h
    have h2 := O3.lt k hk2
    omega
  have A7 := (O2'.ext D6 fun _ _ h => h).ext E7 ga
  have B7 := (O3'.ext D6 fun _ _ h => h).ext E7 gb
  have C7 := (O4.ext D6 fun _ _ h => h).ext E7 gc
  have T7 : Ext Nil w w7 := T6.trans E7 fun i hi e => by have e : i = g := e; omega
  generalize hLL : List.map (fun x => ~~~x) (l ++ [171, 172]) = LL at *
  have hLLn : LL.length = l.length + 2 := by rw [← hLL]; simp
  clear hLL O1 O16 HF O2 O2' O3 O3' O4
  go_wp2_with fail
  refine (turn_any w7 _ B B7 (by unfold Fits; omega)).mono ?_
  rintro e w8 ⟨rfl, E8⟩
  have A8 := A7.ext E8 ab
  have C8 := C7.ext E8 cb
  have L8 := O7.ext E8 (fun k hk => by
    obtain rfl := (gfoot k).1 hk
    exact bg)
  have T8 : Ext Nil w w8 := T7.trans E8 fun i hi e => by
    have h1 := (S3.2 i e).resolve_left fun h => h
    have := T2.size
    omega
  clear A7 B7 C7 O7
  clear gb ab cb
  have hy8 := hy.ext T8 fun _ _ h => h
  have HG := Lib.hid gfoot
  clear gfoot
  obtain ⟨n, hmin, hnl, hnr⟩ : ∃ n : Nat, min (l.length : Int) (r.length : Int) = (n : Int) ∧ n ≤ l.length ∧ n ≤ r.length := ⟨min l.length r.length, by omega, by omega, by omega⟩
  have hs := hy8.take n hnr
  have hsl : (r.take n).length = n := by rw [List.length_take]; omega
  obtain ⟨w9, hcp, L9, E9⟩ := copy_front L8 l.length cap (by omega) (s := r.take n) (by rw [hsl]; exact hs) (by rw [hsl]; exact hnl) 3
  rw [hsl] at hcp L9
  have F9 := L9.front n (by rw [List.length_append, hsl]; omega)
  rw [List.take_left' hsl] at F9
  have HSL := Lib.hid hsl
  clear hsl L9 hs
  have hni : (n : Int) ≤ r.length := by omega
  have hni2 : (n : Int) ≤ l.length := by omega
  have T9 : Ext Nil w w9 := T8.trans E9 fun i hi e => by have e : i = g := e; omega
  have hy9 := hy.ext T9 fun _ _ h => h
  have s9 := hy9.take n hnr
  generalize r.take n = R at *
  have hge : ∀ k, One g k → k = g := fun k h => h
  have A9 := A8.ext E9 ga
  have C9 := C8.ext E9 gc
  have hfr := fB_fits (l := R)
  clear A8 C8
  go_wp2_with fail
  refine (frameA w9 _ R F9 (HT.out.ext T9 fun h => h)).mono ?_
  rintro e w10 ⟨ao10, cap10, rfl, O10, S10⟩
  have T10 := T9.same S10.1
  go_wp2_with fail
  refine (refFrameA w10 _ R (s9.ext S10.1 fun _ _ h => h)).mono ?_
  rintro e w11 ⟨ao11, cap11, rfl, O11, S11⟩
  have T11 := T10.same S11.1
  generalize hB2 : fB R = B2 at *
  generalize hE2 : fE R = E2 at *
  clear hB2 hE2 hcp hmin
  have O10' := O10.ext S11.1 fun _ _ h => h
  have A11 := (A9.ext S10.1 fun _ _ h => h).ext S11.1 fun _ _ h => h
  have C11 := (C9.ext S10.1 fun _ _ h => h).ext S11.1 fun _ _ h => h
  go_wp2_with (first
    | (go_at_call 7; refine (num7_any _ _).mono ?_; rintro e w' ⟨rfl, rfl⟩))
  refine (same_any B2 B2 w11 _ _ O10'.bytes O11.bytes).mono ?_
  rintro e w12 ⟨rfl, n12, rfl⟩
  have D12 : Ext Nil w11 (w11.drewN n12) := (Ext.refl Nil w11).drewN _
  generalize w11.drewN n12 = w12 at *
  have T12 := T11.same D12
  have O12 := O10'.ext D12 fun _ _ h => h
  have A12 := A11.ext D12 fun _ _ h => h
  have C12 := C11.ext D12 fun _ _ h => h
  have ca : ∀ k, inFoot (.slice ao2 B.length cap2) k → ¬ inFoot (.slice ao10 B2.length cap10) k := fun k hk hk2 => by
    have h1 := (S10.2 k hk2).resolve_left fun h => h
    have h2 := A9.lt k hk
    omega
  have cc : ∀ k, inFoot (.slice ao4 B.length cap4) k → ¬ inFoot (.slice ao10 B2.length cap10) k := fun k hk hk2 => by
    have h1 := (S10.2 k hk2).resolve_left fun h => h
    have h2 := C9.lt k hk
    omega
  go_wp2_with fail
  refine (turn_any w12 _ B2 O12 (by unfold Fits; omega)).mono ?_
  rintro e w13 ⟨rfl, E13⟩
  have A13 := A12.ext E13 ca
  have C13 := C12.ext E13 cc
  have T13 : Ext Nil w w13 := T12.trans E13 fun i hi e => by
    have h1 := (S10.2 i e).resolve_left fun h => h
    have := T9.size
    omega
  go_wp2_with fail
  refine (same_any B B w13 _ _ A13.bytes C13.bytes).mono ?_
  rintro e w14 ⟨rfl, n14, rfl⟩
  go_wp2_with fail
  go_ret
  exact ⟨by simp, T13.drewN n14⟩
end Go.Proofs.YtgabmidkonphdaaDoor
