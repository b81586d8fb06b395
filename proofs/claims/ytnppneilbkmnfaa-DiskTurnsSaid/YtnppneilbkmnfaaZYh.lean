/- The walk of DiskMakes: it returns true, and no older memory turns. Condition: the argument can be read. -/
import Derived.Test.YtnppneilbkmnfaaZYf
namespace Go.Proofs.Ytnppneilbkmnfaa
open Go.RowKit

theorem opok_ask (w : World) (k : Int) (s : ByteArray) (hs : s.size ≤ maxLen) : OpOk w ⟨k, 0, s, none, 0, 0, 0, 0, 0, false, none, 0, 0, 0⟩ [] [] :=
  ⟨hs, rfl, ⟨rfl, _, _, rfl, Nat.le_refl _, by simp [maxLen], fun h => absurd rfl h⟩, fun k hk => by simp [inFoot, foot] at hk, rfl, ⟨rfl, _, _, rfl, Nat.le_refl _, by simp [maxLen], fun h => absurd rfl h⟩, fun k hk => by simp [inFoot, foot] at hk, ⟨Int.le_refl _, by show (0 : Int) < 256; omega⟩⟩
/-- a file or its size asked of both disks -/
theorem pl_ask {W w : World} {d q p : Nat} {D : Dk} {K : Nat → Prop} (h : Play W w d q D K p) (k : Int) (hk : k = 6 ∨ k = 7) (s : ByteArray) (hs : s.size ≤ maxLen) (hc : D.calls ≤ 1099511627776) (ha : D.arms.length ≤ 1099511627776) :
    Calls Try.prog 41 #[.agg #[.pointer (some ⟨d, 0, none⟩), .pointer (some ⟨q, 0, none⟩)], .agg #[.int .i64 k, .int .i64 0, .string s, .slice none 0 0, .int .i64 0, .int .i64 0, .int .i64 0, .bool false, .slice none 0 0, .int .u8 0]] w fun e w' =>
      e = .returned (.bool true) ∧ (∃ K', Play W w' d q D K' p) ∧ Ext K w w' := by
  have hD : D.steps ⟨k, 0, s, none, 0, 0, 0, 0, 0, false, none, 0, 0, 0⟩ [] = D := by
    unfold Dk.steps Dk.does
    rcases hk with rfl | rfl <;> simp
  refine (step_m w d q D K h.pq ⟨k, 0, s, none, 0, 0, 0, 0, 0, false, none, 0, 0, 0⟩ [] [] (opok_ask w k s hs) (fun k hk => by simp [inFoot, foot] at hk) (fun k hk => by simp [inFoot, foot] at hk) hc ha (by simp) (by simp)).mono ?_
  intro e w' hq
  rw [hD] at hq
  have h2 := h.stepped hq
  obtain ⟨-, K2, -, hS⟩ := hq
  exact ⟨h2.1, h2.2, hS.1⟩

set_option maxRecDepth 20000 in
set_option maxHeartbeats 2000000 in
theorem makes_any (w : World) (lim : Int) (m : Bool) (v : Value) (l : List FI) (hI : ImgR w v l) (hfew : l.length ≤ 1048576) (hbyt : ∀ x ∈ l, x.b.length ≤ 1073741824) :
    Calls Try.prog 9 #[.agg #[.int .i64 lim, .bool m, v]] w fun e w' => e = .returned (.bool true) ∧ Ext Nil w w' := by
  obtain ⟨ao, cap, rfl, hi1, hi2⟩ := hI.see.shape
  have eW : Ext Nil w (w.alloc (.cells #[.int .i64 lim, .bool m, .slice ao l.length cap] 44 (0, 0))) := (Ext.refl _ _).alloc _
  have a1 := At.new w [.int .i64 lim, .bool m, .slice ao l.length cap] 44
  have b0 := a1.cell 0 rfl
  have b1 := a1.cell 1 rfl
  have b2 := a1.cell 2 rfl
  have HIW := Lib.hid (hI.ext eW fun _ _ h => h)
  have HI0 := Lib.hid hI; have EW := Lib.hid eW; have HA1 := Lib.hid a1; have HY := Lib.hid hbyt; have HDC := Lib.hid (fun D (h : openD lim m l = some D) => openD_calm h)
  have HCS : Hid (openD lim m l = none ∨ ∃ D, openD lim m l = some D) := Lib.hid (by cases openD lim m l with | none => exact .inl rfl | some D => exact .inr ⟨D, rfl⟩)
  clear hI a1 eW hbyt
  unfold maxLen at hi2
  rcases HCS.out with hr | ⟨D, hr⟩
  · have HR := Lib.hid hr
    clear hr
    go_enter Try.func9, Try.ntmps9
    go_wp2_with (go_at_call 38; refine (made_no _ lim m _ l HIW.out hfew HY.out HR.out).mono ?_; rintro e w1 ⟨rfl, e1⟩)
    go_ret
    exact ⟨rfl, (EW.out.same e1).alloc _⟩
  · have HR := Lib.hid hr
    clear hr
    have HC := Lib.hid (HDC.out D HR.out)
    go_enter Try.func9, Try.ntmps9
    go_wp2_with (go_at_call 38; refine (made_yes _ lim m _ l HIW.out hfew HY.out HR.out).mono ?_; rintro e w1 ⟨d, q, K0, rfl, hP, hK, e1⟩; have HPL := Lib.hid (Play.start (W := w.alloc (.cells #[.int .i64 lim, .bool m, .slice ao l.length cap] 44 (0, 0))) hP hK e1); clear hP hK e1 b0 b1)
    generalize w1.heap.size = p at *
    generalize hWN : w1.alloc (.cells #[.pointer (some ⟨d, 0, none⟩), .pointer (some ⟨q, 0, none⟩)] 82 (0, 0)) = wn at *
    clear hWN
    generalize hWB : w.alloc (.cells #[.int .i64 lim, .bool m, .slice ao l.length cap] 44 (0, 0)) = wb at *
    clear hWB
    have HB2 := Lib.hid b2
    clear b2
    have hoff : D.off = false := HC.out.1
    have hcal : D.calls = 0 := HC.out.2.2.1
    have HOFF := Lib.hid hoff; have HCAL := Lib.hid hcal
    clear hoff hcal
    refine wp_region_held_drew (S := fun w' => At w' p 82 [.pointer (some ⟨d, 0, none⟩), .pointer (some ⟨q, 0, none⟩)]) (by kernel_rfl) HPL.out.box (fun hHeld => ?_)
    refine wpAnyH_take (i := 0) (v := .pointer (some ⟨p, 0, none⟩)) rfl (by kernel_rfl) (by kernel_rfl) (by kernel_rfl) (fun _ _ _ h => h) (Or.inl ⟨by kernel_rfl, ?y1⟩) (by assumption) ?r1
    case y1 => (intro w hSw; have t0 := hSw.cell 0 rfl; have t1 := hSw.cell 1 rfl; clear hSw; go_simp)
    simp only [Act.put]
    refine wpAnyH_take (i := 1) (v := .pointer (some ⟨d, 0, none⟩)) rfl (by kernel_rfl) (by kernel_rfl) (by kernel_rfl) (fun _ _ _ h => h) (Or.inl ⟨by kernel_rfl, ?y2⟩) (by assumption) ?r2
    case y2 => (intro w hSw; have t0 := hSw.cell 0 rfl; have t1 := hSw.cell 1 rfl; clear hSw; go_simp)
    simp only [Act.put]
    refine wpAnyH_ready (rs := [2]) (by kernel_rfl) (by simp) (AllReadyH.cons rfl (fun KK' hK => ?_) AllReadyH.nil)
    go_simp
    refine (pq_on (HPL.out.pq.ext0 (Ext.refl Nil _).drew)).mono ?_
    rintro e w' ⟨rfl, rfl⟩
    rw [HOFF.out]
    go_wp2_with fail
    refine hK.out _ _ HPL.out.box (fun hHeld => ?_)
    clear hK KK'
    refine wpAnyH_take (i := 3) (v := .bool false) rfl (by kernel_rfl) (by kernel_rfl) (by kernel_rfl) (fun _ _ _ h => h) (Or.inl ⟨by kernel_rfl, ?y3⟩) (by assumption) ?r3
    case y3 => (intro w hSw; have t0 := hSw.cell 0 rfl; have t1 := hSw.cell 1 rfl; clear hSw; go_simp)
    simp only [Act.put]
    refine wpAnyH_take (i := 4) (v := .bool false) rfl (by kernel_rfl) (by kernel_rfl) (by kernel_rfl) (fun _ _ _ h => h) (Or.inl ⟨by kernel_rfl, ?y4⟩) (by assumption) ?r4
    case y4 => (intro w hSw; have t0 := hSw.cell 0 rfl; have t1 := hSw.cell 1 rfl; clear hSw; go_simp)
    simp only [Act.put]
    refine wpAnyH_take (i := 5) (v := .pointer (some ⟨p, 0, none⟩)) rfl (by kernel_rfl) (by kernel_rfl) (by kernel_rfl) (fun _ _ _ h => h) (Or.inl ⟨by kernel_rfl, ?y5⟩) (by assumption) ?r5
    case y5 => (intro w hSw; have t0 := hSw.cell 0 rfl; have t1 := hSw.cell 1 rfl; clear hSw; go_simp)
    simp only [Act.put]
    refine wpAnyH_take (i := 6) (v := .pointer (some ⟨d, 0, none⟩)) rfl (by kernel_rfl) (by kernel_rfl) (by kernel_rfl) (fun _ _ _ h => h) (Or.inl ⟨by kernel_rfl, ?y6⟩) (by assumption) ?r6
    case y6 => (intro w hSw; have t0 := hSw.cell 0 rfl; have t1 := hSw.cell 1 rfl; clear hSw; go_simp)
    simp only [Act.put]
    refine wpAnyH_ready (rs := [7]) (by kernel_rfl) (by simp) (AllReadyH.cons rfl (fun KK' hK => ?_) AllReadyH.nil)
    go_simp
    refine (pq_calls (HPL.out.pq.ext0 (Ext.refl Nil _).drew)).mono ?_
    rintro e w' ⟨rfl, rfl⟩
    rw [HCAL.out]
    go_wp2_with fail
    refine hK.out _ _ HPL.out.box (fun hHeld => ?_)
    clear hK KK'
    refine wpAnyH_take (i := 8) (v := .bool false) rfl (by kernel_rfl) (by kernel_rfl) (by kernel_rfl) (fun _ _ _ h => h) (Or.inl ⟨by kernel_rfl, ?y7⟩) (by assumption) ?r7
    case y7 => (intro w hSw; have t0 := hSw.cell 0 rfl; have t1 := hSw.cell 1 rfl; clear hSw; go_simp)
    simp only [Act.put]
    refine wpAnyH_take (i := 9) (v := .bool false) rfl (by kernel_rfl) (by kernel_rfl) (by kernel_rfl) (fun _ _ _ h => h) (Or.inl ⟨by kernel_rfl, ?y8⟩) (by assumption) ?r8
    case y8 => (intro w hSw; have t0 := hSw.cell 0 rfl; have t1 := hSw.cell 1 rfl; clear hSw; go_simp)
    simp only [Act.put]
    refine wpAnyH_take (i := 10) (v := .bool false) rfl (by kernel_rfl) (by kernel_rfl) (by kernel_rfl) (fun _ _ _ h => h) (Or.inl ⟨by kernel_rfl, ?y9⟩) (by assumption) ?r9
    case y9 => (intro w hSw; have t0 := hSw.cell 0 rfl; have t1 := hSw.cell 1 rfl; clear hSw; go_simp)
    simp only [Act.put]
    refine wpAnyH_take (i := 11) (v := .pointer (some ⟨p, 0, none⟩)) rfl (by kernel_rfl) (by kernel_rfl) (by kernel_rfl) (fun _ _ _ h => h) (Or.inl ⟨by kernel_rfl, ?y10⟩) (by assumption) ?r10
    case y10 => (intro w hSw; have t0 := hSw.cell 0 rfl; have t1 := hSw.cell 1 rfl; clear hSw; go_simp)
    simp only [Act.put]
    refine wpAnyH_take (i := 12) (v := .pointer (some ⟨d, 0, none⟩)) rfl (by kernel_rfl) (by kernel_rfl) (by kernel_rfl) (fun _ _ _ h => h) (Or.inl ⟨by kernel_rfl, ?y11⟩) (by assumption) ?r11
    case y11 => (intro w hSw; have t0 := hSw.cell 0 rfl; have t1 := hSw.cell 1 rfl; clear hSw; go_simp)
    simp only [Act.put]
    refine wpAnyH_take (i := 14) (v := .pointer (some ⟨p, 1, none⟩)) rfl (by kernel_rfl) (by kernel_rfl) (by kernel_rfl) (fun _ _ _ h => h) (Or.inl ⟨by kernel_rfl, ?y12⟩) (by assumption) ?r12
    case y12 => (intro w hSw; have t0 := hSw.cell 0 rfl; have t1 := hSw.cell 1 rfl; clear hSw; go_simp)
    simp only [Act.put]
    refine wpAnyH_take (i := 15) (v := .pointer (some ⟨q, 0, none⟩)) rfl (by kernel_rfl) (by kernel_rfl) (by kernel_rfl) (fun _ _ _ h => h) (Or.inl ⟨by kernel_rfl, ?y13⟩) (by assumption) ?r13
    case y13 => (intro w hSw; have t0 := hSw.cell 0 rfl; have t1 := hSw.cell 1 rfl; clear hSw; go_simp)
    simp only [Act.put]
    refine wpAnyH_ready (rs := [13]) (by kernel_rfl) (by simp) (AllReadyH.cons rfl (fun KK' hK => ?_) AllReadyH.nil)
    go_simp
    refine (pq_names (HPL.out.pq.ext0 (Ext.refl Nil _).drew)).mono ?_
    rintro e w3 ⟨aop, cap_p, rfl, Op, Sp⟩
    have h3 := HPL.out.ext0 (show Ext Nil wn w3 from ((Ext.refl Nil _).drew).same Sp.1)
    have HOp := Lib.hid Op; have HP3 := Lib.hid h3
    clear Op Sp h3
    go_wp2_with fail
    refine hK.out _ _ HP3.out.box (fun hHeld => ?_)
    clear hK KK'
    refine wpAnyH_ready (rs := [16]) (by kernel_rfl) (by simp) (AllReadyH.cons rfl (fun KK' hK => ?_) AllReadyH.nil)
    go_simp
    refine (qq_names HP3.out.pq).mono ?_
    rintro e w4 ⟨aoq, cap_q, rfl, Oq, Sq⟩
    have h4 := HP3.out.ext0 Sq.1
    have HOq := Lib.hid Oq; have HX4 := Lib.hid Sq.1; have HP4 := Lib.hid h4
    clear Oq Sq h4
    go_wp2_with fail
    refine hK.out _ _ HP4.out.box (fun hHeld => ?_)
    clear hK KK'
    refine wpAnyH_ready (rs := [17]) (by kernel_rfl) (by simp) (AllReadyH.cons rfl (fun KK' hK => ?_) AllReadyH.nil)
    go_simp
    refine (sameNames_m w4 _ _ D.names (HOp.out.ext HX4.out fun _ _ h => h) HOq.out).mono ?_
    rintro e w5 ⟨rfl, e5⟩
    have h5 := HP4.out.ext0 e5
    have HP5 := Lib.hid h5
    clear e5 h5
    go_wp2_with fail
    refine hK.out _ _ HP5.out.box (fun hHeld => ?_)
    clear hK KK'
    refine wpAnyH_take (i := 18) (v := .bool false) rfl (by kernel_rfl) (by kernel_rfl) (by kernel_rfl) (fun _ _ _ h => h) (Or.inl ⟨by kernel_rfl, ?y14⟩) (by assumption) ?r14
    case y14 => (intro w hSw; have t0 := hSw.cell 0 rfl; have t1 := hSw.cell 1 rfl; clear hSw; go_simp)
    simp only [Act.put]
    refine wpAnyH_take (i := 19) (v := .bool false) rfl (by kernel_rfl) (by kernel_rfl) (by kernel_rfl) (fun _ _ _ h => h) (Or.inl ⟨by kernel_rfl, ?y15⟩) (by assumption) ?r15
    case y15 => (intro w hSw; have t0 := hSw.cell 0 rfl; have t1 := hSw.cell 1 rfl; clear hSw; go_simp)
    simp only [Act.put]
    refine wpAnyH_done (by kernel_rfl) ?_ _
    clear hHeld
    go_simp
    go_wp2_with fail
    clear hi1
    go_loopw [5] (fun i wr => ∃ (k : Nat) (K : Nat → Prop), i = .int .i64 (k : Int) ∧ k ≤ l.length ∧ Play wb wr d q D K p) (fun i _ => l.length - (intOf i).toNat)
    case atStart => exact ⟨0, K0, rfl, Nat.zero_le _, HP5.out⟩
    case round =>
      obtain ⟨k, K, rfl, hk, hP⟩ := hrel
      have b2 := hP.ext.cell HB2.out fun h => h
      by_cases hlt : k < l.length
      · obtain ⟨bi, oi, cap', hao, -, -, hcell⟩ := HIW.out.open (by omega)
        simp only [Value.slice.injEq, true_and] at hao
        obtain ⟨rfl, rfl⟩ := hao
        obtain ⟨x, hx⟩ : ∃ x, l[k]? = some x := ⟨_, List.getElem?_eq_getElem hlt⟩
        have c0 := (hcell k x hx).1
        have hxs := HIW.out.names x (List.mem_of_getElem? hx)
        have hsz : (⟨x.nm.toArray⟩ : ByteArray).size ≤ maxLen := by rw [encS_size]; exact hxs
        have hc0 := HC.out.2.2.1
        have ha0 := HC.out.2.2.2
        have hc1 : D.calls ≤ 1099511627776 := by rw [hc0]; exact Nat.zero_le _
        have ha1 : D.arms.length ≤ 1099511627776 := by rw [ha0]; exact Nat.zero_le _
        have HS1 := Lib.hid (pl_ask (hP.ext0 (Ext.refl Nil wr).drew) 6 (.inl rfl) ⟨x.nm.toArray⟩ hsz hc1 ha1)
        have HPW := Lib.hid hP; have HSZ := Lib.hid hsz; have HCA := Lib.hid (And.intro hc1 ha1); have HCC := Lib.hid c0
        have hcn : ∀ W', Ext Nil wb W' → W'.cell? ⟨w.heap.size, 2, none⟩ = some (.slice (some ⟨bi, oi, none⟩) l.length cap) ∧ W'.cell? ⟨bi, oi + k * 2, none⟩ = some (.string ⟨x.nm.toArray⟩) := fun W' e => ⟨e.cell HB2.out fun h => h, e.cell HCC.out fun h => h⟩
        have HCN := Lib.hid hcn
        have hin : k < l.length := hlt
        clear hP hx hcell c0 hxs hsz hc0 ha0 hc1 ha1 hcn
        go_wp2_with fail
        refine wp_region_held_drew (S := fun w' => At w' p 82 [.pointer (some ⟨d, 0, none⟩), .pointer (some ⟨q, 0, none⟩)] ∧ w'.cell? ⟨w.heap.size, 2, none⟩ = some (.slice (some ⟨bi, oi, none⟩) l.length cap) ∧ w'.cell? ⟨bi, oi + k * 2, none⟩ = some (.string ⟨x.nm.toArray⟩)) (by kernel_rfl) ⟨HPW.out.box, HCN.out _ HPW.out.ext.drew⟩ (fun hHeld => ?_)
        refine wpAnyH_take (i := 0) (v := .agg #[.pointer (some ⟨d, 0, none⟩), .pointer (some ⟨q, 0, none⟩)]) rfl (by kernel_rfl) (by kernel_rfl) (by kernel_rfl) (fun _ _ _ h => h) (Or.inl ⟨by kernel_rfl, ?y16⟩) (by assumption) ?r16
        case y16 => (intro w hSw; have t0 := hSw.1.cell 0 rfl; have t1 := hSw.1.cell 1 rfl; have t2 := hSw.2.1; have t3 := hSw.2.2; clear hSw; go_simp)
        simp only [Act.put]
        refine wpAnyH_take (i := 1) (v := .pointer (some ⟨w.heap.size, 2, none⟩)) rfl (by kernel_rfl) (by kernel_rfl) (by kernel_rfl) (fun _ _ _ h => h) (Or.inl ⟨by kernel_rfl, ?y17⟩) (by assumption) ?r17
        case y17 => (intro w hSw; have t0 := hSw.1.cell 0 rfl; have t1 := hSw.1.cell 1 rfl; have t2 := hSw.2.1; have t3 := hSw.2.2; clear hSw; go_simp)
        simp only [Act.put]
        refine wpAnyH_take (i := 2) (v := .pointer (some ⟨w.heap.size, 2, none⟩)) rfl (by kernel_rfl) (by kernel_rfl) (by kernel_rfl) (fun _ _ _ h => h) (Or.inl ⟨by kernel_rfl, ?y18⟩) (by assumption) ?r18
        case y18 => (intro w hSw; have t0 := hSw.1.cell 0 rfl; have t1 := hSw.1.cell 1 rfl; have t2 := hSw.2.1; have t3 := hSw.2.2; clear hSw; go_simp)
        simp only [Act.put]
        refine wpAnyH_take (i := 3) (v := .slice (some ⟨bi, oi, none⟩) l.length cap) rfl (by kernel_rfl) (by kernel_rfl) (by kernel_rfl) (fun _ _ _ h => h) (Or.inl ⟨by kernel_rfl, ?y19⟩) (by assumption) ?r19
        case y19 => (intro w hSw; have t0 := hSw.1.cell 0 rfl; have t1 := hSw.1.cell 1 rfl; have t2 := hSw.2.1; have t3 := hSw.2.2; clear hSw; go_simp)
        simp only [Act.put]
        refine wpAnyH_take (i := 4) (v := .int .i64 (k : Int)) rfl (by kernel_rfl) (by kernel_rfl) (by kernel_rfl) (fun _ _ _ h => h) (Or.inl ⟨by kernel_rfl, ?y20⟩) (by assumption) ?r20
        case y20 => (intro w hSw; have t0 := hSw.1.cell 0 rfl; have t1 := hSw.1.cell 1 rfl; have t2 := hSw.2.1; have t3 := hSw.2.2; clear hSw; go_simp)
        simp only [Act.put]
        refine wpAnyH_take (i := 5) (v := .pointer (some ⟨bi, oi + k * 2, none⟩)) rfl (by kernel_rfl) (by kernel_rfl) (by kernel_rfl) (fun _ _ _ h => h) (Or.inl ⟨by kernel_rfl, ?y21⟩) (by assumption) ?r21
        case y21 => (intro w hSw; have t0 := hSw.1.cell 0 rfl; have t1 := hSw.1.cell 1 rfl; have t2 := hSw.2.1; have t3 := hSw.2.2; clear hSw; go_simp)
        simp only [Act.put]
        refine wpAnyH_take (i := 6) (v := .pointer (some ⟨bi, oi + k * 2, none⟩)) rfl (by kernel_rfl) (by kernel_rfl) (by kernel_rfl) (fun _ _ _ h => h) (Or.inl ⟨by kernel_rfl, ?y22⟩) (by assumption) ?r22
        case y22 => (intro w hSw; have t0 := hSw.1.cell 0 rfl; have t1 := hSw.1.cell 1 rfl; have t2 := hSw.2.1; have t3 := hSw.2.2; clear hSw; go_simp)
        simp only [Act.put]
        refine wpAnyH_take (i := 7) (v := .string ⟨x.nm.toArray⟩) rfl (by kernel_rfl) (by kernel_rfl) (by kernel_rfl) (fun _ _ _ h => h) (Or.inl ⟨by kernel_rfl, ?y23⟩) (by assumption) ?r23
        case y23 => (intro w hSw; have t0 := hSw.1.cell 0 rfl; have t1 := hSw.1.cell 1 rfl; have t2 := hSw.2.1; have t3 := hSw.2.2; clear hSw; go_simp)
        simp only [Act.put]
        refine wpAnyH_take (i := 8) (v := .agg #[.int .i64 6, .int .i64 0, .string ⟨x.nm.toArray⟩, .slice none 0 0, .int .i64 0, .int .i64 0, .int .i64 0, .bool false, .slice none 0 0, .int .u8 0]) rfl (by kernel_rfl) (by kernel_rfl) (by kernel_rfl) (fun _ _ _ h => h) (Or.inl ⟨by kernel_rfl, ?y24⟩) (by assumption) ?r24
        case y24 => (intro w hSw; have t0 := hSw.1.cell 0 rfl; have t1 := hSw.1.cell 1 rfl; have t2 := hSw.2.1; have t3 := hSw.2.2; clear hSw; go_simp)
        simp only [Act.put]
        refine wpAnyH_ready (rs := [9]) (by kernel_rfl) (by simp) (AllReadyH.cons rfl (fun KK' hK => ?_) AllReadyH.nil)
        go_simp
        refine (HS1.out).mono ?_
        rintro e w3 ⟨rfl, ⟨K3, hP3⟩, -⟩
        have HP3 := Lib.hid hP3
        have HS2 := Lib.hid (pl_ask hP3 7 (.inr rfl) ⟨x.nm.toArray⟩ HSZ.out HCA.out.1 HCA.out.2)
        clear hP3
        go_wp2_with fail
        refine hK.out _ _ ⟨HP3.out.box, HCN.out _ HP3.out.ext⟩ (fun hHeld => ?_)
        clear hK KK'
        refine wpAnyH_take (i := 10) (v := .bool false) rfl (by kernel_rfl) (by kernel_rfl) (by kernel_rfl) (fun _ _ _ h => h) (Or.inl ⟨by kernel_rfl, ?y25⟩) (by assumption) ?r25
        case y25 => (intro w hSw; have t0 := hSw.1.cell 0 rfl; have t1 := hSw.1.cell 1 rfl; have t2 := hSw.2.1; have t3 := hSw.2.2; clear hSw; go_simp)
        simp only [Act.put]
        refine wpAnyH_take (i := 11) (v := .bool false) rfl (by kernel_rfl) (by kernel_rfl) (by kernel_rfl) (fun _ _ _ h => h) (Or.inl ⟨by kernel_rfl, ?y26⟩) (by assumption) ?r26
        case y26 => (intro w hSw; have t0 := hSw.1.cell 0 rfl; have t1 := hSw.1.cell 1 rfl; have t2 := hSw.2.1; have t3 := hSw.2.2; clear hSw; go_simp)
        simp only [Act.put]
        refine wpAnyH_take (i := 12) (v := .agg #[.pointer (some ⟨d, 0, none⟩), .pointer (some ⟨q, 0, none⟩)]) rfl (by kernel_rfl) (by kernel_rfl) (by kernel_rfl) (fun _ _ _ h => h) (Or.inl ⟨by kernel_rfl, ?y27⟩) (by assumption) ?r27
        case y27 => (intro w hSw; have t0 := hSw.1.cell 0 rfl; have t1 := hSw.1.cell 1 rfl; have t2 := hSw.2.1; have t3 := hSw.2.2; clear hSw; go_simp)
        simp only [Act.put]
        refine wpAnyH_take (i := 13) (v := .pointer (some ⟨w.heap.size, 2, none⟩)) rfl (by kernel_rfl) (by kernel_rfl) (by kernel_rfl) (fun _ _ _ h => h) (Or.inl ⟨by kernel_rfl, ?y28⟩) (by assumption) ?r28
        case y28 => (intro w hSw; have t0 := hSw.1.cell 0 rfl; have t1 := hSw.1.cell 1 rfl; have t2 := hSw.2.1; have t3 := hSw.2.2; clear hSw; go_simp)
        simp only [Act.put]
        refine wpAnyH_take (i := 14) (v := .pointer (some ⟨w.heap.size, 2, none⟩)) rfl (by kernel_rfl) (by kernel_rfl) (by kernel_rfl) (fun _ _ _ h => h) (Or.inl ⟨by kernel_rfl, ?y29⟩) (by assumption) ?r29
        case y29 => (intro w hSw; have t0 := hSw.1.cell 0 rfl; have t1 := hSw.1.cell 1 rfl; have t2 := hSw.2.1; have t3 := hSw.2.2; clear hSw; go_simp)
        simp only [Act.put]
        refine wpAnyH_take (i := 15) (v := .slice (some ⟨bi, oi, none⟩) l.length cap) rfl (by kernel_rfl) (by kernel_rfl) (by kernel_rfl) (fun _ _ _ h => h) (Or.inl ⟨by kernel_rfl, ?y30⟩) (by assumption) ?r30
        case y30 => (intro w hSw; have t0 := hSw.1.cell 0 rfl; have t1 := hSw.1.cell 1 rfl; have t2 := hSw.2.1; have t3 := hSw.2.2; clear hSw; go_simp)
        simp only [Act.put]
        refine wpAnyH_take (i := 16) (v := .int .i64 (k : Int)) rfl (by kernel_rfl) (by kernel_rfl) (by kernel_rfl) (fun _ _ _ h => h) (Or.inl ⟨by kernel_rfl, ?y31⟩) (by assumption) ?r31
        case y31 => (intro w hSw; have t0 := hSw.1.cell 0 rfl; have t1 := hSw.1.cell 1 rfl; have t2 := hSw.2.1; have t3 := hSw.2.2; clear hSw; go_simp)
        simp only [Act.put]
        refine wpAnyH_take (i := 17) (v := .pointer (some ⟨bi, oi + k * 2, none⟩)) rfl (by kernel_rfl) (by kernel_rfl) (by kernel_rfl) (fun _ _ _ h => h) (Or.inl ⟨by kernel_rfl, ?y32⟩) (by assumption) ?r32
        case y32 => (intro w hSw; have t0 := hSw.1.cell 0 rfl; have t1 := hSw.1.cell 1 rfl; have t2 := hSw.2.1; have t3 := hSw.2.2; clear hSw; go_simp)
        simp only [Act.put]
        refine wpAnyH_take (i := 18) (v := .pointer (some ⟨bi, oi + k * 2, none⟩)) rfl (by kernel_rfl) (by kernel_rfl) (by kernel_rfl) (fun _ _ _ h => h) (Or.inl ⟨by kernel_rfl, ?y33⟩) (by assumption) ?r33
        case y33 => (intro w hSw; have t0 := hSw.1.cell 0 rfl; have t1 := hSw.1.cell 1 rfl; have t2 := hSw.2.1; have t3 := hSw.2.2; clear hSw; go_simp)
        simp only [Act.put]
        refine wpAnyH_take (i := 19) (v := .string ⟨x.nm.toArray⟩) rfl (by kernel_rfl) (by kernel_rfl) (by kernel_rfl) (fun _ _ _ h => h) (Or.inl ⟨by kernel_rfl, ?y34⟩) (by assumption) ?r34
        case y34 => (intro w hSw; have t0 := hSw.1.cell 0 rfl; have t1 := hSw.1.cell 1 rfl; have t2 := hSw.2.1; have t3 := hSw.2.2; clear hSw; go_simp)
        simp only [Act.put]
        refine wpAnyH_take (i := 20) (v := .agg #[.int .i64 7, .int .i64 0, .string ⟨x.nm.toArray⟩, .slice none 0 0, .int .i64 0, .int .i64 0, .int .i64 0, .bool false, .slice none 0 0, .int .u8 0]) rfl (by kernel_rfl) (by kernel_rfl) (by kernel_rfl) (fun _ _ _ h => h) (Or.inl ⟨by kernel_rfl, ?y35⟩) (by assumption) ?r35
        case y35 => (intro w hSw; have t0 := hSw.1.cell 0 rfl; have t1 := hSw.1.cell 1 rfl; have t2 := hSw.2.1; have t3 := hSw.2.2; clear hSw; go_simp)
        simp only [Act.put]
        refine wpAnyH_ready (rs := [21]) (by kernel_rfl) (by simp) (AllReadyH.cons rfl (fun KK' hK => ?_) AllReadyH.nil)
        go_simp
        refine (HS2.out).mono ?_
        rintro e w4 ⟨rfl, ⟨K4, hP4⟩, -⟩
        have HP4 := Lib.hid hP4
        clear hP4
        go_wp2_with fail
        refine hK.out _ _ ⟨HP4.out.box, HCN.out _ HP4.out.ext⟩ (fun hHeld => ?_)
        clear hK KK'
        refine wpAnyH_take (i := 22) (v := .bool false) rfl (by kernel_rfl) (by kernel_rfl) (by kernel_rfl) (fun _ _ _ h => h) (Or.inl ⟨by kernel_rfl, ?y36⟩) (by assumption) ?r36
        case y36 => (intro w hSw; have t0 := hSw.1.cell 0 rfl; have t1 := hSw.1.cell 1 rfl; have t2 := hSw.2.1; have t3 := hSw.2.2; clear hSw; go_simp)
        simp only [Act.put]
        refine wpAnyH_take (i := 23) (v := .bool false) rfl (by kernel_rfl) (by kernel_rfl) (by kernel_rfl) (fun _ _ _ h => h) (Or.inl ⟨by kernel_rfl, ?y37⟩) (by assumption) ?r37
        case y37 => (intro w hSw; have t0 := hSw.1.cell 0 rfl; have t1 := hSw.1.cell 1 rfl; have t2 := hSw.2.1; have t3 := hSw.2.2; clear hSw; go_simp)
        simp only [Act.put]
        refine wpAnyH_done (by kernel_rfl) ?_ _
        clear hHeld
        go_simp
        go_wp2_with fail
        exact ⟨⟨k + 1, K4, by go_num, by omega, HP4.out⟩, by simp [intOf]; omega⟩
      · have hnot : ¬ (k : Int) < (l.length : Int) := by omega
        have HE := Lib.hid (EW.out.same hP.ext)
        clear hP
        go_wp2_with fail
        go_ret
        exact ⟨rfl, HE.out⟩
end Go.Proofs.Ytnppneilbkmnfaa
