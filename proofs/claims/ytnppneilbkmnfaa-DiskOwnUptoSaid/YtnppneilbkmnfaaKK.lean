/- The law's Book.mark. Condition: the items lie in memory of their own. -/
import Derived.Test.YtnppneilbkmnfaaKJ
namespace Go.Proofs.Ytnppneilbkmnfaa
open Go.RowKit

theorem mark_rows {a : Nat → List Value} {its : Nat → List (Value × Value)} {w : World} {bp : Nat} {r : Nat → Value} {ib : List (Value × Value)} {xs : Nat → List Value} {W : World} {r1 : Nat → Value} {xs1 : Nat → List Value} {l : List FI} (h : Pre a its w bp r ib xs W r1 xs1 l) (hib : its 0 = ib ++ l.map fileIt)
    (xr : ∀ c, c < 3 → c ≠ 0 → xs (2 * c) = a (2 * c) ++ (its c).map Prod.fst ∧ xs (2 * c + 1) = a (2 * c + 1) ++ (its c).map Prod.snd) (la : ∀ c, c < 3 → (a (2 * c)).length = (a (2 * c + 1)).length) : St a its W W bp r1 xs1 its (fun _ => 0) := by
  refine ⟨h.kk.anew, ⟨fun c hc => ?_, fun c hc => ?_, la⟩, fun _ => rfl, fun _ => Iff.rfl, Step.refl _ _⟩
  · by_cases hc0 : c = 0
    · subst hc0
      rw [hib]
      exact h.r0
    · rw [h.rj _ (by omega)]
      exact (xr c hc hc0).1
  · by_cases hc0 : c = 0
    · subst hc0
      rw [hib]
      exact h.r1'
    · rw [h.rj _ (by omega)]
      exact (xr c hc hc0).2
set_option maxRecDepth 20000 in
set_option maxHeartbeats 2000000 in
theorem mark_m (w : World) (bp : Nat) (r : Nat → Value) (xs : Nat → List Value) (a : Nat → List Value) (its : Nat → List (Value × Value)) (ib : List (Value × Value)) (l : List FI) (h : Mk w.heap.size w bp r xs (a 0).length (a 2).length (a 4).length its (fun _ => 0))
    (hib : its 0 = ib ++ l.map fileIt) (hf : (its 2 = [] ∧ l = []) ∨ ∃ p, its 2 = [p] ∧ ImgV w p.1 l) (x0 : xs 0 = a 0 ++ ib.map Prod.fst) (x1 : xs 1 = a 1 ++ ib.map Prod.snd)
    (xr : ∀ c, c < 3 → c ≠ 0 → xs (2 * c) = a (2 * c) ++ (its c).map Prod.fst ∧ xs (2 * c + 1) = a (2 * c + 1) ++ (its c).map Prod.snd) (la : ∀ c, c < 3 → (a (2 * c)).length = (a (2 * c + 1)).length) (hbig : ∀ c, c < 3 → (a (2 * c)).length + (its c).length ≤ 1099511627776) :
    Calls Try.prog 47 #[.pointer (some ⟨bp, 0, none⟩)] w fun e w' => e = .returned (.tuple #[]) ∧ ∃ r' ys jts, Mk w.heap.size w' bp r' ys (ys 0).length (ys 2).length (ys 4).length jts (fun c => (jts c).length) ∧ Rw a ys jts ∧ (∀ k, ifeet jts k ↔ ifeet its k) ∧ (∀ c, (jts c).length = (its c).length) ∧ Step (fun k => bkBlk r bp k ∨ ifeet its k) w (fun k => bkBlk r' bp k ∨ ifeet its k) w' := by
  have z8 := h.bk.cells.cell 8 rfl
  have hpre : Pre a its w bp r ib xs w r xs [] := ⟨h, by rw [x0]; simp, by rw [x1]; simp, fun _ _ => rfl, Step.refl _ _⟩
  have hx4 : xs 4 = a 4 ++ (its 2).map Prod.fst := (xr 2 (by omega) (by omega)).1
  obtain ⟨n2, h2⟩ : ∃ n, (a (2 * 2)).length + (its 2).length = n := ⟨_, rfl⟩
  have hl4 : (xs 4).length = n2 := by rw [hx4, List.length_append, List.length_map]; exact h2
  have hb2 : n2 ≤ 1099511627776 := by rw [← h2]; exact hbig 2 (by omega)
  have hn2 : (a 4).length ≤ n2 := by rw [← h2]; exact Nat.le_add_right _ _
  have hstart : (a 4).length = n2 → [] = l := by
    intro e
    rcases hf with hf | ⟨p, hp, -⟩
    · exact hf.2.symm
    · rw [hp] at h2
      have h2 : (a 4).length + 1 = n2 := h2
      omega
  have hlt0 : (its 0).length = ib.length + l.length := by rw [hib, List.length_append, List.length_map]
  have hla0 : (a 0).length = (a 1).length := la 0 (by omega)
  have hb00 : (a 0).length + (ib.length + l.length) ≤ 1099511627776 := by rw [← hlt0]; exact hbig 0 (by omega)
  have HPRE := Lib.hid hpre; have HF := Lib.hid hf; have HX4 := Lib.hid hx4; have HL4 := Lib.hid hl4; have HH2 := Lib.hid h2; have HIB := Lib.hid hib; have HXR := Lib.hid xr; have HLA := Lib.hid la; have HBIG := Lib.hid hbig; have HST := Lib.hid hstart; have HAP := Lib.hid h.ap
  have HLA0 := Lib.hid hla0
  clear h hpre hx4 hl4 h2 hf hib x0 x1 xr la hbig hstart hlt0 hla0
  go_enter Try.func47, Try.ntmps47
  go_wp2_with fail
  go_loopw [2] (fun i wr => ∃ (k : Nat) (lm : List FI) (r1 : Nat → Value) (xs1 : Nat → List Value), i = .int .i64 (k : Int) ∧ (a 4).length ≤ k ∧ k ≤ n2 ∧ (k = n2 → lm = l) ∧ (k < n2 → lm = []) ∧ Pre a its w bp r ib xs wr r1 xs1 lm) (fun i _ => n2 - (intOf i).toNat)
  case atStart => exact ⟨(a 4).length, [], r, xs, rfl, Nat.le_refl _, hn2, HST.out, fun _ => rfl, HPRE.out⟩
  case round =>
    rename World => wo
    obtain ⟨k, lm, r1, xs1, rfl, hk1, hk2, hke, hkl, hP⟩ := hrel
    have hl41 : (xs1 4).length = n2 := by rw [hP.rj 4 (by omega)]; exact HL4.out
    obtain ⟨ao4, cp4, hcp1, hcp2, z4⟩ := hP.kk.bk.lenAt (i := 4) (by omega) hl41
    unfold maxLen at hcp2
    clear z8
    by_cases hlt : k < n2
    · have hlt2 : (k : Int) < (n2 : Int) := by omega
      obtain rfl := hkl hlt
      obtain ⟨p, hp, hI⟩ : ∃ p, its 2 = [p] ∧ ImgV w p.1 l := by
        rcases HF.out with hf | hf
        · have h2 := HH2.out
          rw [hf.1] at h2
          have h2 : (a 4).length + 0 = n2 := h2
          omega
        · exact hf
      have hk4 : k = (a 4).length := by
        have h2 := HH2.out
        rw [hp] at h2
        have h2 : (a 4).length + 1 = n2 := h2
        omega
      have HNK := Lib.hid (show n2 = k + 1 from by have h2 := HH2.out; rw [hp] at h2; have h2 : (a 4).length + 1 = n2 := h2; omega)
      obtain ⟨ai, ci, hv, hi1, hi2⟩ := hI.shape
      unfold maxLen at hi2
      have hfeet : ∀ q ∈ ibl p.1 l, ifeet its q := by
        intro q hq
        simp only [ibl, List.mem_append, List.mem_flatMap] at hq
        rcases hq with hq | ⟨x, hx, hq⟩
        · exact ⟨2, p, by omega, by rw [hp]; simp, mem_footL.1 hq⟩
        · exact ⟨0, fileIt x, by omega, by rw [HIB.out]; exact List.mem_append_right _ (List.mem_map_of_mem hx), mem_footL.1 hq⟩
      have HIM := Lib.hid (fun W' (e : Ext (bkBlk r bp) w W') => hI.ext e fun q hq hq2 => HAP.out q (hfeet q hq) hq2)
      have hrow : ∀ W' r' xs' lm', Pre a its w bp r ib xs W' r' xs' lm' → ∃ g c, W'.cell? ⟨bp, 4, none⟩ = some (.slice (some ⟨g, 0, none⟩) n2 (c + 1)) ∧ n2 ≤ c + 1 ∧ W'.cell? ⟨g, k, none⟩ = some p.1 ∧ ¬ inFoot (r' 0) g ∧ ¬ inFoot (r' 0) bp := by
        intro W' r' xs' lm' hP'
        have hx' : xs' 4 = a 4 ++ [p.1] := by rw [hP'.rj 4 (by omega), HX4.out, hp]; rfl
        have hl' : (xs' 4).length = n2 := by rw [hP'.rj 4 (by omega)]; exact HL4.out
        obtain ⟨g, c, u, hr, q1, -, q2, q3, -, q5⟩ := hP'.kk.bk.elem (i := 4) (by omega) (k := k) (by omega)
        obtain rfl : p.1 = u := by rw [hx', hk4, List.getElem?_append_right (Nat.le_refl _), Nat.sub_self] at q2; exact Option.some.inj q2
        rw [hl'] at q1 q5
        exact ⟨g, c, q1, q5, q3, fun h0 => absurd (hP'.kk.bk.apart 0 4 g (by omega) (by omega) h0 (by rw [hr]; rfl)) (by omega), hP'.kk.bk.abp 0 (by omega)⟩
      rw [hv] at hrow HIM hfeet
      have HFT := Lib.hid hfeet
      have HROW := Lib.hid hrow; have HP := Lib.hid hP
      clear hrow hP hI hv hp hke hkl hl41 hfeet hk4
      go_wp2_with fail
      clear z4
      go_loopw [3] (fun i wr => ∃ (j : Nat) (r2 : Nat → Value) (xs2 : Nat → List Value), i = .int .i64 (j : Int) ∧ j ≤ l.length ∧ Pre a its w bp r ib xs wr r2 xs2 (l.take j)) (fun i _ => l.length - (intOf i).toNat)
      case atStart => exact ⟨0, r1, xs1, rfl, Nat.zero_le _, HP.out⟩
      case round =>
        obtain ⟨j, r2, xs2, rfl, hj, hP2⟩ := hrel
        obtain ⟨g4, c4, y4, y5, y6, hg1, hg2⟩ := HROW.out _ _ _ _ hP2
        have hc4 : (n2 : Int) ≤ (c4 : Int) + 1 := by omega
        by_cases hjl : j < l.length
        · have hjl2 : (j : Int) < (l.length : Int) := by omega
          obtain ⟨x, hx⟩ : ∃ x, l[j]? = some x := ⟨_, List.getElem?_eq_getElem hjl⟩
          obtain ⟨bi, oi, bx, cx, rfl, hxv, -, v1, hbi, -⟩ := (HIM.out wr hP2.ext.1).at hx
          have hl20 : (xs2 0).length ≤ 1099511627776 := by rw [hP2.r0]; simp only [List.length_append, List.length_map, List.length_take]; omega
          have hl21 : (xs2 1).length ≤ 1099511627776 := by rw [hP2.r1']; simp only [List.length_append, List.length_map, List.length_take]; have := HLA0.out; omega
          have hci : (l.length : Int) ≤ (ci : Int) := by omega
          have hbi0 : ¬ inFoot (r2 0) bi := by
            intro h0
            have hf : ifeet its bi := HFT.out bi (by
              obtain ⟨c', rfl⟩ : ∃ c', ci = c' + 1 := ⟨ci - 1, by omega⟩
              simp [ibl, footL, foot])
            exact hP2.kk.ap bi hf (.inr ⟨0, by omega, h0⟩)
          obtain ⟨ao0, cp0, hr0, hr1, hr2, hr3, hr4⟩ := hP2.kk.bk.row (i := 0) (by omega)
          obtain ⟨ao1, cp1, hr5, -, -, -, -⟩ := hP2.kk.bk.row (i := 1) (by omega)
          obtain ⟨ao, cap, w2, hrun, z0, f0, eA, hN⟩ := hP2.first (X := wr.drew) ((Ext.refl Nil wr).drew) hl20 hl21 bx x.b.length cx 92
          rw [hr0] at hrun z0
          have HSS := Lib.hid (fun (X : World) (e : Ext (inFoot (r2 0)) wr X) => (⟨e.cell y4 hg2, e.cell y6 hg1, e.cell v1 hbi0⟩ : X.cell? ⟨bp, 4, none⟩ = some (.slice (some ⟨g4, 0, none⟩) n2 (c4 + 1)) ∧ X.cell? ⟨g4, k, none⟩ = some (.slice (some ⟨bi, oi, none⟩) l.length ci) ∧ X.cell? ⟨bi, oi + j * 2 + 1, none⟩ = some (.slice bx x.b.length cx)))
          have HEA := Lib.hid (show Ext (inFoot (r2 0)) wr w2 from ((Ext.refl _ wr).drew).same eA)
          have hnb : ∀ g', inFoot (r2 4) g' → g' ≠ bp := fun g' h0 e => hP2.kk.bk.abp 4 (by omega) (by rw [← e]; exact h0)
          have hg4bp : g4 ≠ bp := by
            intro e
            obtain ⟨g', c', u', hr', q1, -⟩ := hP2.kk.bk.elem (i := 4) (by omega) (k := k) (by rw [hP2.rj 4 (by omega), HL4.out]; exact hlt)
            rw [y4] at q1
            simp only [Option.some.injEq, Value.slice.injEq, Addr.mk.injEq, and_true] at q1
            exact hnb g4 (by rw [hr', ← q1.1]; rfl) e
          have hbibp : bi ≠ bp := by
            intro e
            have hf : ifeet its bi := HFT.out bi (by
              obtain ⟨c', rfl⟩ : ∃ c', ci = c' + 1 := ⟨ci - 1, by omega⟩
              simp [ibl, footL, foot])
            exact hP2.kk.ap bi hf (.inl e)
          have m4 : (⟨bp, 0, none⟩ : Addr) ≠ ⟨bp, 4, none⟩ := by simp
          have m5 : (⟨bp, 0, none⟩ : Addr) ≠ ⟨g4, k, none⟩ := by intro e; simp only [Addr.mk.injEq] at e; exact hg4bp e.1.symm
          have m6 : (⟨bp, 0, none⟩ : Addr) ≠ ⟨bi, oi + j * 2 + 1, none⟩ := by intro e; simp only [Addr.mk.injEq] at e; exact hbibp e.1.symm
          have HNX := Lib.hid hN; have HJX := Lib.hid hx; have HXV := Lib.hid hxv
          have HZ0 := Lib.hid z0; have HF0 := Lib.hid f0
          have HR1 := Lib.hid hr5
          have hbl : bp < wr.heap.size := hP2.kk.bk.cells.lt
          have HBL := Lib.hid hbl
          clear hP2 hN hx hxv hnb hg4bp hbibp hr0 hr5 hbi0 hbi eA hg1 hg2 hl20 hl21 hbl z0 f0 hr4
          go_wp2_with fail
          clear y4 y6 v1
          refine wp_region_held_drew (S := fun w' => w'.cell? ⟨bp, 4, none⟩ = some (.slice (some ⟨g4, 0, none⟩) n2 (c4 + 1)) ∧ w'.cell? ⟨g4, k, none⟩ = some (.slice (some ⟨bi, oi, none⟩) l.length ci) ∧ w'.cell? ⟨bi, oi + j * 2 + 1, none⟩ = some (.slice bx x.b.length cx)) (by kernel_rfl) (HSS.out _ ((Ext.refl _ wr).drew)) (fun hHeld => ?_)
          refine wpAnyH_take (i := 0) (v := .pointer (some ⟨bp, 0, none⟩)) rfl (by kernel_rfl) (by kernel_rfl) (by kernel_rfl) (fun _ _ _ h => h) (Or.inl ⟨by kernel_rfl, ?y1⟩) (by assumption) ?r1
          case y1 => (intro w hSw; obtain ⟨s1, s2, s3⟩ := hSw; go_simp)
          simp only [Act.put]
          refine wpAnyH_take (i := 1) (v := .pointer (some ⟨bp, 0, none⟩)) rfl (by kernel_rfl) (by kernel_rfl) (by kernel_rfl) (fun _ _ _ h => h) (Or.inl ⟨by kernel_rfl, ?y2⟩) (by assumption) ?r2
          case y2 => (intro w hSw; obtain ⟨s1, s2, s3⟩ := hSw; go_simp)
          simp only [Act.put]
          refine wpAnyH_take (i := 2) (v := .pointer (some ⟨bp, 0, none⟩)) rfl (by kernel_rfl) (by kernel_rfl) (by kernel_rfl) (fun _ _ _ h => h) (Or.inl ⟨by kernel_rfl, ?y3⟩) (by assumption) ?r3
          case y3 => (intro w hSw; obtain ⟨s1, s2, s3⟩ := hSw; go_simp)
          simp only [Act.put]
          refine wpAnyH_take (i := 3) (v := .pointer (some ⟨bp, 0, none⟩)) rfl (by kernel_rfl) (by kernel_rfl) (by kernel_rfl) (fun _ _ _ h => h) (Or.inl ⟨by kernel_rfl, ?y4⟩) (by assumption) ?r4
          case y4 => (intro w hSw; obtain ⟨s1, s2, s3⟩ := hSw; go_simp)
          simp only [Act.put]
          refine wpAnyH_take (i := 5) (v := .pointer (some ⟨bp, 0, none⟩)) rfl (by kernel_rfl) (by kernel_rfl) (by kernel_rfl) (fun _ _ _ h => h) (Or.inl ⟨by kernel_rfl, ?y5⟩) (by assumption) ?r5
          case y5 => (intro w hSw; obtain ⟨s1, s2, s3⟩ := hSw; go_simp)
          simp only [Act.put]
          refine wpAnyH_take (i := 6) (v := .pointer (some ⟨bp, 0, none⟩)) rfl (by kernel_rfl) (by kernel_rfl) (by kernel_rfl) (fun _ _ _ h => h) (Or.inl ⟨by kernel_rfl, ?y6⟩) (by assumption) ?r6
          case y6 => (intro w hSw; obtain ⟨s1, s2, s3⟩ := hSw; go_simp)
          simp only [Act.put]
          refine wpAnyH_take (i := 7) (v := .pointer (some ⟨bp, 4, none⟩)) rfl (by kernel_rfl) (by kernel_rfl) (by kernel_rfl) (fun _ _ _ h => h) (Or.inl ⟨by kernel_rfl, ?y7⟩) (by assumption) ?r7
          case y7 => (intro w hSw; obtain ⟨s1, s2, s3⟩ := hSw; go_simp)
          simp only [Act.put]
          refine wpAnyH_take (i := 8) (v := .slice (some ⟨g4, 0, none⟩) n2 (c4 + 1)) rfl (by kernel_rfl) (by kernel_rfl) (by kernel_rfl) (fun _ _ _ h => h) (Or.inl ⟨by kernel_rfl, ?y8⟩) (by assumption) ?r8
          case y8 => (intro w hSw; obtain ⟨s1, s2, s3⟩ := hSw; go_simp)
          simp only [Act.put]
          refine wpAnyH_take (i := 9) (v := .int .i64 (k : Int)) rfl (by kernel_rfl) (by kernel_rfl) (by kernel_rfl) (fun _ _ _ h => h) (Or.inl ⟨by kernel_rfl, ?y9⟩) (by assumption) ?r9
          case y9 => (intro w hSw; obtain ⟨s1, s2, s3⟩ := hSw; go_simp)
          simp only [Act.put]
          refine wpAnyH_take (i := 10) (v := .pointer (some ⟨g4, k, none⟩)) rfl (by kernel_rfl) (by kernel_rfl) (by kernel_rfl) (fun _ _ _ h => h) (Or.inl ⟨by kernel_rfl, ?y10⟩) (by assumption) ?r10
          case y10 => (intro w hSw; obtain ⟨s1, s2, s3⟩ := hSw; go_simp)
          simp only [Act.put]
          refine wpAnyH_take (i := 11) (v := .slice (some ⟨bi, oi, none⟩) l.length ci) rfl (by kernel_rfl) (by kernel_rfl) (by kernel_rfl) (fun _ _ _ h => h) (Or.inl ⟨by kernel_rfl, ?y11⟩) (by assumption) ?r11
          case y11 => (intro w hSw; obtain ⟨s1, s2, s3⟩ := hSw; go_simp)
          simp only [Act.put]
          refine wpAnyH_take (i := 12) (v := .int .i64 (j : Int)) rfl (by kernel_rfl) (by kernel_rfl) (by kernel_rfl) (fun _ _ _ h => h) (Or.inl ⟨by kernel_rfl, ?y12⟩) (by assumption) ?r12
          case y12 => (intro w hSw; obtain ⟨s1, s2, s3⟩ := hSw; go_simp)
          simp only [Act.put]
          refine wpAnyH_take (i := 13) (v := .pointer (some ⟨bi, oi + j * 2, none⟩)) rfl (by kernel_rfl) (by kernel_rfl) (by kernel_rfl) (fun _ _ _ h => h) (Or.inl ⟨by kernel_rfl, ?y13⟩) (by assumption) ?r13
          case y13 => (intro w hSw; obtain ⟨s1, s2, s3⟩ := hSw; go_simp)
          simp only [Act.put]
          refine wpAnyH_take (i := 14) (v := .pointer (some ⟨bi, oi + j * 2 + 1, none⟩)) rfl (by kernel_rfl) (by kernel_rfl) (by kernel_rfl) (fun _ _ _ h => h) (Or.inl ⟨by kernel_rfl, ?y14⟩) (by assumption) ?r14
          case y14 => (intro w hSw; obtain ⟨s1, s2, s3⟩ := hSw; go_simp)
          simp only [Act.put]
          refine wpAnyH_take (i := 15) (v := .slice bx x.b.length cx) rfl (by kernel_rfl) (by kernel_rfl) (by kernel_rfl) (fun _ _ _ h => h) (Or.inl ⟨by kernel_rfl, ?y15⟩) (by assumption) ?r15
          case y15 => (intro w hSw; obtain ⟨s1, s2, s3⟩ := hSw; go_simp)
          simp only [Act.put]
          refine wpAnyH_ready (rs := [4, 16]) (by kernel_rfl) (by simp) (AllReadyH.cons rfl (fun K hK => ?o4) (AllReadyH.cons rfl (fun K hK => ?o16) AllReadyH.nil))
          case o4 =>
            go_simp
            refine hK.out _ _ (HSS.out _ ((Ext.refl _ wr).drew)) (fun hHeld => ?_)
            clear hK K
            refine wpAnyH_ready (rs := [16]) (by kernel_rfl) (by simp) (AllReadyH.cons rfl (fun K hK => ?_) AllReadyH.nil)
            go_simp
            refine hK.out _ _ (HSS.out _ (((Ext.refl _ wr).drew).alloc _)) (fun hHeld => ?_)
            clear hK K
            refine wpAnyH_ready (rs := [17]) (by kernel_rfl) (by simp) (AllReadyH.cons rfl (fun K hK => ?_) AllReadyH.nil)
            refine step_append_run rfl _ _ _ _ rfl _ _ _ rfl rfl hrun ?_
            refine hK.out _ _ (HSS.out _ HEA.out) (fun hHeld => ?_)
            clear hK K
            simp only [Act.put]
            refine wpAnyH_take (i := 18) (v := .pointer (some ⟨bp, 0, none⟩)) rfl (by kernel_rfl) (by kernel_rfl) (by kernel_rfl) (fun _ _ _ h => h) (Or.inl ⟨by kernel_rfl, ?y16⟩) (by assumption) ?r16
            case y16 => (intro w hSw; obtain ⟨s1, s2, s3⟩ := hSw; go_simp)
            simp only [Act.put]
            refine wpAnyH_take (i := 19) (v := .pointer (some ⟨bp, 0, none⟩)) rfl (by kernel_rfl) (by kernel_rfl) (by kernel_rfl) (fun _ _ _ h => h) (Or.inl ⟨by kernel_rfl, ?y17⟩) (by assumption) ?r17
            case y17 => (intro w hSw; obtain ⟨s1, s2, s3⟩ := hSw; go_simp)
            simp only [Act.put]
            have z0 := HZ0.out; have f0 := HF0.out
            refine wpAnyH_ready (rs := [20]) (by kernel_rfl) (by simp) (AllReadyH.cons rfl (fun K hK => ?_) AllReadyH.nil)
            go_simp
            refine hK.out _ _ ⟨(World.cell?_setCell_other _ _ _ _ m4).trans (HSS.out _ HEA.out).1, (World.cell?_setCell_other _ _ _ _ m5).trans (HSS.out _ HEA.out).2.1, (World.cell?_setCell_other _ _ _ _ m6).trans (HSS.out _ HEA.out).2.2⟩ (fun hHeld => ?_)
            clear hK K
            clear z0 f0
            refine wpAnyH_done (by kernel_rfl) ?_ _
            clear hHeld
            obtain ⟨z1, hN2⟩ := HNX.out _ rfl
            obtain ⟨ao', cap', w4, hrun2, z1', f1', hfin⟩ := hN2 92
            obtain ⟨r3, xs3, hP3⟩ := hfin x HXV.out
            have HP3 := Lib.hid hP3
            rw [HR1.out] at z1 z1' hrun2
            clear hP3 hfin hN2
            generalize (w2.setCell ⟨bp, 0, none⟩ (.slice ao ((xs2 0).length + 1) cap)) = w3 at *
            go_wp2_with (at_builtin; refine wpList_append_run rfl (.tmp 65) (.tmp 66) 92 92 rfl _ _ _ rfl rfl hrun2 ?_)
            exact ⟨⟨j + 1, r3, xs3, by go_num, by omega, by rw [List.take_add_one, HJX.out]; exact HP3.out⟩, by simp [intOf]; omega⟩
          case o16 =>
            go_simp
            refine hK.out _ _ (HSS.out _ (((Ext.refl _ wr).drew).alloc _)) (fun hHeld => ?_)
            clear hK K
            refine wpAnyH_ready (rs := [4]) (by kernel_rfl) (by simp) (AllReadyH.cons rfl (fun K hK => ?_) AllReadyH.nil)
            have q0 := ((Ext.refl Nil wr).alloc (.cells #[.slice bx x.b.length cx] 31 (0, 0))).cell hr3 (fun h => h)
            go_simp
            clear q0
            refine hK.out _ _ (HSS.out _ (((Ext.refl _ wr).drew).alloc _)) (fun hHeld => ?_)
            clear hK K
            refine wpAnyH_ready (rs := [17]) (by kernel_rfl) (by simp) (AllReadyH.cons rfl (fun K hK => ?_) AllReadyH.nil)
            refine step_append_run rfl _ _ _ _ rfl _ _ _ rfl rfl hrun ?_
            refine hK.out _ _ (HSS.out _ HEA.out) (fun hHeld => ?_)
            clear hK K
            simp only [Act.put]
            refine wpAnyH_take (i := 18) (v := .pointer (some ⟨bp, 0, none⟩)) rfl (by kernel_rfl) (by kernel_rfl) (by kernel_rfl) (fun _ _ _ h => h) (Or.inl ⟨by kernel_rfl, ?y18⟩) (by assumption) ?r18
            case y18 => (intro w hSw; obtain ⟨s1, s2, s3⟩ := hSw; go_simp)
            simp only [Act.put]
            refine wpAnyH_take (i := 19) (v := .pointer (some ⟨bp, 0, none⟩)) rfl (by kernel_rfl) (by kernel_rfl) (by kernel_rfl) (fun _ _ _ h => h) (Or.inl ⟨by kernel_rfl, ?y19⟩) (by assumption) ?r19
            case y19 => (intro w hSw; obtain ⟨s1, s2, s3⟩ := hSw; go_simp)
            simp only [Act.put]
            have z0 := HZ0.out; have f0 := HF0.out
            refine wpAnyH_ready (rs := [20]) (by kernel_rfl) (by simp) (AllReadyH.cons rfl (fun K hK => ?_) AllReadyH.nil)
            go_simp
            refine hK.out _ _ ⟨(World.cell?_setCell_other _ _ _ _ m4).trans (HSS.out _ HEA.out).1, (World.cell?_setCell_other _ _ _ _ m5).trans (HSS.out _ HEA.out).2.1, (World.cell?_setCell_other _ _ _ _ m6).trans (HSS.out _ HEA.out).2.2⟩ (fun hHeld => ?_)
            clear hK K
            clear z0 f0
            refine wpAnyH_done (by kernel_rfl) ?_ _
            clear hHeld
            obtain ⟨z1, hN2⟩ := HNX.out _ rfl
            obtain ⟨ao', cap', w4, hrun2, z1', f1', hfin⟩ := hN2 92
            obtain ⟨r3, xs3, hP3⟩ := hfin x HXV.out
            have HP3 := Lib.hid hP3
            rw [HR1.out] at z1 z1' hrun2
            clear hP3 hfin hN2
            generalize (w2.setCell ⟨bp, 0, none⟩ (.slice ao ((xs2 0).length + 1) cap)) = w3 at *
            go_wp2_with (at_builtin; refine wpList_append_run rfl (.tmp 65) (.tmp 66) 92 92 rfl _ _ _ rfl rfl hrun2 ?_)
            exact ⟨⟨j + 1, r3, xs3, by go_num, by omega, by rw [List.take_add_one, HJX.out]; exact HP3.out⟩, by simp [intOf]; omega⟩
        · have hjl2 : ¬ (j : Int) < (l.length : Int) := by omega
          have hP3 : Pre a its w bp r ib xs wr r2 xs2 l := by rw [List.take_of_length_le (by omega)] at hP2; exact hP2
          have HP3 := Lib.hid hP3
          clear hP2 hP3
          go_wp2_with fail
          exact ⟨⟨k + 1, l, r2, xs2, by go_num, by omega, by omega, fun _ => rfl, fun h9 => absurd h9 (by have h2 := HNK.out; omega), HP3.out⟩, by simp [intOf]; omega⟩
    · obtain rfl : n2 = k := by omega
      obtain rfl := hke rfl
      have hno : ¬ (n2 : Int) < (n2 : Int) := by omega
      have HSTT := Lib.hid (mark_rows hP HIB.out HXR.out HLA.out)
      have HE1 := Lib.hid hP.ext
      have zn := hP.kk.bk.cells.cell 6 rfl
      clear hP hke hkl hl41
      go_wp2_with fail
      clear zn z4 hno hlt hcp1 hcp2 hk1 hk2
      rename World => w1
      obtain ⟨jts0, hj0⟩ : ∃ j, j = its := ⟨_, rfl⟩
      obtain ⟨ys0, hy0⟩ : ∃ j, j = xs1 := ⟨_, rfl⟩
      obtain ⟨M0, hm0⟩ : ∃ M : Nat → Nat, M = fun _ => 0 := ⟨_, rfl⟩
      have HST0 : Hid (St a its w1 w1 bp r1 ys0 jts0 M0) := by rw [hj0, hm0, hy0]; exact HSTT
      have HZ0 : Hid (∀ d, 0 ≤ d → M0 d = 0) := Lib.hid (fun d _ => by rw [hm0])
      have HD0 : Hid (∀ d, d < 0 → (its d).length ≤ M0 d) := Lib.hid (fun d hd => absurd hd (Nat.not_lt_zero d))
      obtain ⟨n0, h0⟩ : ∃ n, (a (2 * 0)).length + (its 0).length = n := ⟨_, rfl⟩
      obtain ⟨n1, h1⟩ : ∃ n, (a (2 * 1)).length + (its 1).length = n := ⟨_, rfl⟩
      have hn0 : (a 0).length ≤ n0 := by rw [← h0]; exact Nat.le_add_right _ _
      have hn1 : (a 2).length ≤ n1 := by rw [← h1]; exact Nat.le_add_right _ _
      have hb0 : n0 ≤ 1099511627776 := by rw [← h0]; exact HBIG.out 0 (by omega)
      have hb1 : n1 ≤ 1099511627776 := by rw [← h1]; exact HBIG.out 1 (by omega)
      have HN0 := Lib.hid h0; have HN1 := Lib.hid h1; have HN2 := HH2
      clear h0 h1 hj0 hm0 hy0 HSTT HPRE HF HX4 HL4 HH2 HIB HXR HLA HBIG HST HAP hb00 HLA0
      go_loopw [4] (fun i wr => ∃ (k : Nat) (ys : Nat → List Value) (jts : Nat → List (Value × Value)) (M : Nat → Nat), i = .int .i64 (k : Int) ∧ (a 0).length ≤ k ∧ k ≤ n0 ∧ M 0 = k - (a 0).length ∧ (∀ d, d < 0 → (its d).length ≤ M d) ∧ (∀ d, 0 < d → M d = 0) ∧ St a its w1 wr bp r1 ys jts M) (fun i _ => n0 - (intOf i).toNat)
      case atStart => exact ⟨(a 0).length, ys0, jts0, M0, rfl, Nat.le_refl _, hn0, by rw [HZ0.out 0 (by omega)]; omega, HD0.out, fun d hd => HZ0.out d (by omega), HST0.out⟩
      case round =>
        rename World => wo
        obtain ⟨k, ys, jts, M, rfl, hk1, hk2, hMc, hMd, hMz, hS⟩ := hrel
        obtain ⟨ao, cp, hcp1, hcp2, zl⟩ := hS.head (c := 0) (by omega) HN0.out
        replace zl : wo.cell? ⟨bp, 0, none⟩ = some (.slice ao n0 cp) := zl
        unfold maxLen at hcp2
        by_cases hlt : k < n0
        · have hlt2 : (k : Int) < (n0 : Int) := by omega
          obtain ⟨v, n, cs, g, cap, g', cap', hO, hn, q1, q2, q3, q4, hW⟩ := hS.item (c := 0) (by omega) HN0.out hk1 hlt hMc
          replace q1 : wo.cell? ⟨bp, 0, none⟩ = some (.slice (some ⟨g, 0, none⟩) n0 (cap + 1)) := q1
          obtain ⟨ax, cx, rfl, hx1, hx2⟩ := Own.shape hO
          unfold maxLen at hx2
          have HSX := Lib.hid hS; have HMD := Lib.hid hMd; have HMZ := Lib.hid hMz; have HO := Lib.hid hO; have HW := Lib.hid hW; have HMC := Lib.hid hMc
          have hgb : (n0 : Int) ≤ (cap : Int) + 1 := by omega
          clear hS hMd hMz hO hW hMc zl hcp1 hcp2
          go_wp2_with fail
          clear q1 q3
          go_loopw [6] (fun i wr => ∃ (l : List UInt8), i = .int .i64 (l.length : Int) ∧ l.length ≤ n ∧ Own wr 5 1 (.slice ax n cx) n (bvs l ++ cs.drop l.length) ∧ Ext (inFoot (.slice ax n cx)) wo wr) (fun i _ => n - (intOf i).toNat)
          case atStart => exact ⟨[], rfl, Nat.zero_le _, HO.out, Ext.refl _ _⟩
          case round =>
            obtain ⟨l, rfl, hl, hOq, hEq⟩ := hrel
            have hcl : cs.length = n := by have := HO.out.1; have e : csz 0 = 1 := rfl; rw [e] at this; omega
            by_cases hj : l.length < n
            · have hj2 : (l.length : Int) < (n : Int) := by omega
              obtain ⟨gv, cv, u, hv, h1, h2, h3, h4⟩ := own_byte hOq hcl hj
              simp only [Value.slice.injEq, true_and] at hv
              obtain ⟨rfl, rfl⟩ := hv
              obtain ⟨b1, hb1⟩ := wrap_byte (k : Int)
              obtain ⟨b2, hb2⟩ := wrap_byte (3 * (l.length : Int))
              have hxr := xor_u8 b1 b2
              skip
              have H4 := Lib.hid (h4 (b1 ^^^ b2)); have HEQ := Lib.hid hEq
              clear h4 hOq hEq
              go_wp2_with fail
              exact ⟨⟨l ++ [b1 ^^^ b2], by rw [List.length_append, List.length_singleton]; first | rfl | go_num, by rw [List.length_append, List.length_singleton]; omega, H4.out, HEQ.out.setCell (p := ⟨gv, l.length, none⟩) (fun _ => rfl) _⟩, by simp [intOf]; omega⟩
            · obtain rfl : n = l.length := by omega
              have hj2 : ¬ (l.length : Int) < (l.length : Int) := by omega
              have hOB : OwnB wr (.slice ax l.length cx) l := by
                have e : bvs l ++ cs.drop l.length = bvs l := by rw [List.drop_of_length_le (by omega), List.append_nil]
                rw [e] at hOq
                exact hOq
              have hsrc := Reads.src (P := Try.prog) hOB.bytes Try.underlying31 (bvs_one l)
              have HOB := Lib.hid hOB; have HEQ := Lib.hid hEq
              clear hOq hOB hEq
              go_wp2_with (at_builtin; refine wpList_append_fresh hsrc (by unfold Fits; omega) rfl (.tmp 105) (.tmp 106) rfl rfl rfl ?_; intro ao2 cap2 w2 hc1 hc2 hown hst; have hE2 : Ext (inFoot (.slice ax l.length cx)) wo w2 := HEQ.out.trans hst.1 (fun _ _ h => h.elim); have hnew : ∀ k, inFoot (.slice ao2 l.length cap2) k → wo.heap.size ≤ k := (fun k hk => by have := HEQ.out.size; have := (hst.2 k hk).resolve_left (fun h => h); omega); have hvo : Own w2 5 1 (.slice ax l.length cx) l.length (bvs l) := HOB.out.ext hst.1 (fun _ _ h => h); obtain ⟨s1, s2, ⟨u, s3⟩, hfin⟩ := HW.out _ hE2; replace s1 : w2.cell? ⟨bp, 1, none⟩ = some (.slice (some ⟨g', 0, none⟩) n0 (cap' + 1)) := s1; obtain ⟨ys', jts', hfin⟩ := hfin (.slice ao2 l.length cap2) l.length (bvs l) hvo hown (cgd_b l) (by omega) hnew; have HF := Lib.hid hfin; clear hfin hE2 hnew; clear hvo hown hst)
              exact ⟨⟨k + 1, _, _, _, by go_num, by omega, by omega, by rw [upd_self], fun d hd => by rw [upd_ne _ _ (by omega)]; exact HMD.out d hd, fun d hd => by rw [upd_ne _ _ (by omega)]; exact HMZ.out d hd, HF.out⟩, by simp [intOf]; omega⟩
        · obtain rfl : n0 = k := by omega
          have hno : ¬ (n0 : Int) < (n0 : Int) := by omega
          have HST1 := Lib.hid hS; have HD1 := Lib.hid (show ∀ d, d < 1 → (its d).length ≤ M d from fun d hd => by by_cases e : d = 0; (subst e; have e9 : (a 0).length + (its 0).length = n0 := HN0.out; omega); exact hMd d (by omega)); have HZ1 := Lib.hid (show ∀ d, 1 ≤ d → M d = 0 from fun d hd => hMz d (by omega))
          have zn := hS.nums.2.1
          clear hS hMd hMz hMc
          go_wp2_with fail
          clear hlt hno zl zn hcp1 hcp2 hk1 hk2
          obtain ⟨ys1, jts1, M1, hyy⟩ : ∃ (ys' : Nat → List Value) (jts' : Nat → List (Value × Value)) (M' : Nat → Nat), ys' = ys ∧ jts' = jts ∧ M' = M := ⟨_, _, _, rfl, rfl, rfl⟩
          obtain ⟨rfl, rfl, rfl⟩ := hyy
          go_loopw [8] (fun i wr => ∃ (k : Nat) (ys : Nat → List Value) (jts : Nat → List (Value × Value)) (M : Nat → Nat), i = .int .i64 (k : Int) ∧ (a 2).length ≤ k ∧ k ≤ n1 ∧ M 1 = k - (a 2).length ∧ (∀ d, d < 1 → (its d).length ≤ M d) ∧ (∀ d, 1 < d → M d = 0) ∧ St a its w1 wr bp r1 ys jts M) (fun i _ => n1 - (intOf i).toNat)
          case atStart => exact ⟨(a 2).length, ys1, jts1, M1, rfl, Nat.le_refl _, hn1, by rw [HZ1.out 1 (by omega)]; omega, HD1.out, fun d hd => HZ1.out d (by omega), HST1.out⟩
          case round =>
            rename World => wo
            obtain ⟨k, ys, jts, M, rfl, hk1, hk2, hMc, hMd, hMz, hS⟩ := hrel
            obtain ⟨ao, cp, hcp1, hcp2, zl⟩ := hS.head (c := 1) (by omega) HN1.out
            replace zl : wo.cell? ⟨bp, 2, none⟩ = some (.slice ao n1 cp) := zl
            unfold maxLen at hcp2
            by_cases hlt : k < n1
            · have hlt2 : (k : Int) < (n1 : Int) := by omega
              obtain ⟨v, n, cs, g, cap, g', cap', hO, hn, q1, q2, q3, q4, hW⟩ := hS.item (c := 1) (by omega) HN1.out hk1 hlt hMc
              replace q1 : wo.cell? ⟨bp, 2, none⟩ = some (.slice (some ⟨g, 0, none⟩) n1 (cap + 1)) := q1
              obtain ⟨ax, cx, rfl, hx1, hx2⟩ := Own.shape hO
              unfold maxLen at hx2
              have HSX := Lib.hid hS; have HMD := Lib.hid hMd; have HMZ := Lib.hid hMz; have HO := Lib.hid hO; have HW := Lib.hid hW; have HMC := Lib.hid hMc
              have hgb : (n1 : Int) ≤ (cap : Int) + 1 := by omega
              clear hS hMd hMz hO hW hMc zl hcp1 hcp2
              go_wp2_with fail
              clear q1 q3
              go_loopw [10, 11] (fun z i wr => ∃ (l : List Nm), i = .int .i64 (l.length : Int) ∧ l.length ≤ n ∧ Own wr 9 1 (.slice ax n cx) n (namesV l ++ cs.drop l.length) ∧ Own wr 9 1 z l.length (namesV l) ∧ (∀ k, inFoot z k → wo.heap.size ≤ k) ∧ Ext (inFoot (.slice ax n cx)) wo wr) (fun _ i _ => n - (intOf i).toNat)
              case atStart => exact ⟨[], rfl, Nat.zero_le _, HO.out, Own.nil _ _ _, (fun k hk => by simp [inFoot, foot] at hk), Ext.refl _ _⟩
              case round =>
                obtain ⟨l, rfl, hl, hOq, hOz, hzn, hEq⟩ := hrel
                obtain ⟨za, zc, rfl, hz1, hz2⟩ := Own.shape hOz
                have hcl : cs.length = n := by have := HO.out.1; have e : csz 1 = 1 := rfl; rw [e] at this; omega
                by_cases hj : l.length < n
                · have hj2 : (l.length : Int) < (n : Int) := by omega
                  obtain ⟨b1, hb1⟩ := wrap_byte (k : Int)
                  obtain ⟨b2, hb2⟩ := wrap_byte (l.length : Int)
                  obtain ⟨gv, cv, u, hv, h1, h2, h3, hgv, h4⟩ := own_name (hOq.alloc (.cells #[.int .u8 (b1.toNat : Int), .int .u8 (b2.toNat : Int)] 5 (0, 0))) hcl hj
                  simp only [Value.slice.injEq, true_and] at hv
                  obtain ⟨rfl, rfl⟩ := hv
                  have hcv := two_bytes wr b1 b2
                  have hgc : (n : Int) ≤ (cv : Int) + 1 := by omega
                  have H4 := Lib.hid (h4 [b1, b2]); have HEQ := Lib.hid hEq; have HOZ := Lib.hid hOz; have HZN := Lib.hid hzn
                  have HE2 := Lib.hid (show Ext (inFoot (.slice (some ⟨gv, 0, none⟩) n (cv + 1))) wr ((wr.alloc (.cells #[.int .u8 (b1.toNat : Int), .int .u8 (b2.toNat : Int)] 5 (0, 0))).setCell ⟨gv, l.length, none⟩ (.string ⟨[b1, b2].toArray⟩)) from ((Ext.refl (inFoot (.slice (some ⟨gv, 0, none⟩) n (cv + 1))) wr).alloc _).setCell (p := ⟨gv, l.length, none⟩) (fun _ => rfl) _)
                  have HLT := Lib.hid (show ∀ k, inFoot (.slice (some ⟨gv, 0, none⟩) n (cv + 1)) k → k < wo.heap.size from HO.out.lt)
                  have hit := Reads.item ((wr.alloc (.cells #[.int .u8 (b1.toNat : Int), .int .u8 (b2.toNat : Int)] 5 (0, 0))).setCell ⟨gv, l.length, none⟩ (.string ⟨[b1, b2].toArray⟩)) [.string ⟨[b1, b2].toArray⟩] 9 1 rfl
                  rw [show ((wr.alloc (.cells #[.int .u8 (b1.toNat : Int), .int .u8 (b2.toNat : Int)] 5 (0, 0))).setCell ⟨gv, l.length, none⟩ (.string ⟨[b1, b2].toArray⟩)).heap.size = wr.heap.size + 1 by simp [World.setCell]] at hit
                  have HIT := Lib.hid hit
                  clear h4 hOq hEq hOz hzn hgv hit
                  go_wp2_with (at_builtin; refine wpList_append_own info_strJ rfl Try.underlying78 ((HOZ.out.ext HE2.out (fun k hk hk2 => by have := HLT.out k hk2; have := HZN.out k hk; omega)).alloc _) (Reads.src (P := Try.prog) HIT.out Try.underlying78 (by intro u hu; simp only [List.mem_cons, List.not_mem_nil, or_false] at hu; rcases hu with rfl | rfl <;> rfl)) (by unfold maxLen; omega) (by omega) rfl (.tmp 150) (.tmp 155) rfl rfl rfl ?_; intro ao2 cap2 w3 hc1 hc2 hown hst; have hT := turn_next (H4.out.alloc _) (HE2.out.alloc _) HZN.out HEQ.out HLT.out hst; have HT := Lib.hid hT; have HOW := Lib.hid hown; clear hown hst hT)
                  exact ⟨⟨l ++ [[b1, b2]], by rw [List.length_append, List.length_singleton]; first | rfl | go_num, by rw [List.length_append, List.length_singleton]; omega, HT.out.1, by rw [List.length_append, List.length_singleton]; unfold namesV; rw [List.map_append]; exact HOW.out, HT.out.2.2, HT.out.2.1⟩, by simp [intOf]; omega⟩
                · obtain rfl : n = l.length := by omega
                  have hj2 : ¬ (l.length : Int) < (l.length : Int) := by omega
                  have hOV : Own wr 9 1 (.slice ax l.length cx) l.length (namesV l) := by
                    have e : namesV l ++ cs.drop l.length = namesV l := by rw [List.drop_of_length_le (by omega), List.append_nil]
                    rw [e] at hOq
                    exact hOq
                  obtain ⟨s1, s2, ⟨u, s3⟩, hfin⟩ := HW.out _ hEq
                  replace s1 : wr.cell? ⟨bp, 3, none⟩ = some (.slice (some ⟨g', 0, none⟩) n1 (cap' + 1)) := s1
                  obtain ⟨ys', jts', hfin⟩ := hfin (.slice za l.length zc) l.length (namesV l) hOV hOz (cgd_n l) (by omega) hzn
                  have hgb2 : (n1 : Int) ≤ (cap' : Int) + 1 := by omega
                  have HF := Lib.hid hfin
                  clear hfin hOq hOV hEq hOz hzn
                  go_wp2_with fail
                  exact ⟨⟨k + 1, _, _, _, by go_num, by omega, by omega, by rw [upd_self], fun d hd => by rw [upd_ne _ _ (by omega)]; exact HMD.out d hd, fun d hd => by rw [upd_ne _ _ (by omega)]; exact HMZ.out d hd, HF.out⟩, by simp [intOf]; omega⟩
            · obtain rfl : n1 = k := by omega
              have hno : ¬ (n1 : Int) < (n1 : Int) := by omega
              have HST2 := Lib.hid hS; have HD2 := Lib.hid (show ∀ d, d < 2 → (its d).length ≤ M d from fun d hd => by by_cases e : d = 1; (subst e; have e9 : (a 2).length + (its 1).length = n1 := HN1.out; omega); exact hMd d (by omega)); have HZ2 := Lib.hid (show ∀ d, 2 ≤ d → M d = 0 from fun d hd => hMz d (by omega))
              have zn := hS.nums.2.2
              clear hS hMd hMz hMc
              go_wp2_with fail
              clear hlt hno zl zn hcp1 hcp2 hk1 hk2
              obtain ⟨ys2, jts2, M2, hyy⟩ : ∃ (ys' : Nat → List Value) (jts' : Nat → List (Value × Value)) (M' : Nat → Nat), ys' = ys ∧ jts' = jts ∧ M' = M := ⟨_, _, _, rfl, rfl, rfl⟩
              obtain ⟨rfl, rfl, rfl⟩ := hyy
              go_loopw [12] (fun i wr => ∃ (k : Nat) (ys : Nat → List Value) (jts : Nat → List (Value × Value)) (M : Nat → Nat), i = .int .i64 (k : Int) ∧ (a 4).length ≤ k ∧ k ≤ n2 ∧ M 2 = k - (a 4).length ∧ (∀ d, d < 2 → (its d).length ≤ M d) ∧ (∀ d, 2 < d → M d = 0) ∧ St a its w1 wr bp r1 ys jts M) (fun i _ => n2 - (intOf i).toNat)
              case atStart => exact ⟨(a 4).length, ys2, jts2, M2, rfl, Nat.le_refl _, hn2, by rw [HZ2.out 2 (by omega)]; omega, HD2.out, fun d hd => HZ2.out d (by omega), HST2.out⟩
              case round =>
                rename World => wo
                obtain ⟨k, ys, jts, M, rfl, hk1, hk2, hMc, hMd, hMz, hS⟩ := hrel
                obtain ⟨ao, cp, hcp1, hcp2, zl⟩ := hS.head (c := 2) (by omega) HN2.out
                replace zl : wo.cell? ⟨bp, 4, none⟩ = some (.slice ao n2 cp) := zl
                unfold maxLen at hcp2
                by_cases hlt : k < n2
                · have hlt2 : (k : Int) < (n2 : Int) := by omega
                  obtain ⟨v, n, cs, g, cap, g', cap', hO, hn, q1, q2, q3, q4, hW⟩ := hS.item (c := 2) (by omega) HN2.out hk1 hlt hMc
                  replace q1 : wo.cell? ⟨bp, 4, none⟩ = some (.slice (some ⟨g, 0, none⟩) n2 (cap + 1)) := q1
                  obtain ⟨ax, cx, rfl, hx1, hx2⟩ := Own.shape hO
                  unfold maxLen at hx2
                  have HSX := Lib.hid hS; have HMD := Lib.hid hMd; have HMZ := Lib.hid hMz; have HO := Lib.hid hO; have HW := Lib.hid hW; have HMC := Lib.hid hMc
                  have hgb : (n2 : Int) ≤ (cap : Int) + 1 := by omega
                  clear hS hMd hMz hO hW hMc zl hcp1 hcp2
                  go_wp2_with fail
                  clear q1 q3
                  go_loopw [14, 15] (fun z i wr => ∃ (l : List Nm), i = .int .i64 (l.length : Int) ∧ l.length ≤ n ∧ Own wr 41 2 (.slice ax n cx) n (filesV l ++ cs.drop (l.length * 2)) ∧ Own wr 41 2 z l.length (filesV l) ∧ (∀ k, inFoot z k → wo.heap.size ≤ k) ∧ Ext (inFoot (.slice ax n cx)) wo wr) (fun _ i _ => n - (intOf i).toNat)
                  case atStart => exact ⟨[], rfl, Nat.zero_le _, HO.out, Own.nil _ _ _, (fun k hk => by simp [inFoot, foot] at hk), Ext.refl _ _⟩
                  case round =>
                    obtain ⟨l, rfl, hl, hOq, hOz, hzn, hEq⟩ := hrel
                    obtain ⟨za, zc, rfl, hz1, hz2⟩ := Own.shape hOz
                    have hcl : cs.length = n * 2 := by have := HO.out.1; have e : csz 2 = 2 := rfl; rw [e] at this; omega
                    by_cases hj : l.length < n
                    · have hj2 : (l.length : Int) < (n : Int) := by omega
                      obtain ⟨b1, hb1⟩ := wrap_byte (k : Int)
                      obtain ⟨b2, hb2⟩ := wrap_byte (l.length : Int)
                      obtain ⟨gv, cv, u, u', hv, h1, h2, h2', h3, h3', hgv, h4⟩ := own_file (hOq.alloc (.cells #[.int .u8 (b1.toNat : Int), .int .u8 (b2.toNat : Int)] 5 (0, 0))) hcl hj
                      simp only [Value.slice.injEq, true_and] at hv
                      obtain ⟨rfl, rfl⟩ := hv
                      have hcv := two_bytes wr b1 b2
                      have hgc : (n : Int) ≤ (cv : Int) + 1 := by omega
                      have H4 := Lib.hid (h4 [b1, b2]); have HEQ := Lib.hid hEq; have HOZ := Lib.hid hOz; have HZN := Lib.hid hzn
                      have HE2 := Lib.hid (show Ext (inFoot (.slice (some ⟨gv, 0, none⟩) n (cv + 1))) wr (((wr.alloc (.cells #[.int .u8 (b1.toNat : Int), .int .u8 (b2.toNat : Int)] 5 (0, 0))).setCell ⟨gv, l.length * 2, none⟩ (.string ⟨[b1, b2].toArray⟩)).setCell ⟨gv, l.length * 2 + 1, none⟩ (.slice none 0 0)) from (((Ext.refl (inFoot (.slice (some ⟨gv, 0, none⟩) n (cv + 1))) wr).alloc _).setCell (p := ⟨gv, l.length * 2, none⟩) (fun _ => rfl) _).setCell (p := ⟨gv, l.length * 2 + 1, none⟩) (fun _ => rfl) _)
                      have HLT := Lib.hid (show ∀ k, inFoot (.slice (some ⟨gv, 0, none⟩) n (cv + 1)) k → k < wo.heap.size from HO.out.lt)
                      have hit := Reads.item (((wr.alloc (.cells #[.int .u8 (b1.toNat : Int), .int .u8 (b2.toNat : Int)] 5 (0, 0))).setCell ⟨gv, l.length * 2, none⟩ (.string ⟨[b1, b2].toArray⟩)).setCell ⟨gv, l.length * 2 + 1, none⟩ (.slice none 0 0)) [.string ⟨[b1, b2].toArray⟩, .slice none 0 0] 41 2 rfl
                      rw [show (((wr.alloc (.cells #[.int .u8 (b1.toNat : Int), .int .u8 (b2.toNat : Int)] 5 (0, 0))).setCell ⟨gv, l.length * 2, none⟩ (.string ⟨[b1, b2].toArray⟩)).setCell ⟨gv, l.length * 2 + 1, none⟩ (.slice none 0 0)).heap.size = wr.heap.size + 1 by simp [World.setCell]] at hit
                      have HIT := Lib.hid hit
                      clear h4 hOq hEq hOz hzn hgv hit
                      go_wp2_with (at_builtin; refine wpList_append_own info_file rfl Try.underlying34 ((HOZ.out.ext HE2.out (fun k hk hk2 => by have := HLT.out k hk2; have := HZN.out k hk; omega)).alloc _) (Reads.src (P := Try.prog) HIT.out Try.underlying34 (by intro u hu; simp only [List.mem_cons, List.not_mem_nil, or_false] at hu; rcases hu with rfl | rfl <;> rfl)) (by unfold maxLen; omega) (by omega) rfl (.tmp 200) (.tmp 205) rfl rfl rfl ?_; intro ao2 cap2 w3 hc1 hc2 hown hst; have hT := turn_next (H4.out.alloc _) (HE2.out.alloc _) HZN.out HEQ.out HLT.out hst; have HT := Lib.hid hT; have HOW := Lib.hid hown; clear hown hst hT)
                      exact ⟨⟨l ++ [[b1, b2]], by rw [List.length_append, List.length_singleton]; first | rfl | go_num, by rw [List.length_append, List.length_singleton]; omega, HT.out.1, by rw [List.length_append, List.length_singleton, filesV_snoc]; exact HOW.out, HT.out.2.2, HT.out.2.1⟩, by simp [intOf]; omega⟩
                    · obtain rfl : n = l.length := by omega
                      have hj2 : ¬ (l.length : Int) < (l.length : Int) := by omega
                      have hOV : Own wr 41 2 (.slice ax l.length cx) l.length (filesV l) := by
                        have e : filesV l ++ cs.drop (l.length * 2) = filesV l := by rw [List.drop_of_length_le (by omega), List.append_nil]
                        rw [e] at hOq
                        exact hOq
                      obtain ⟨s1, s2, ⟨u, s3⟩, hfin⟩ := HW.out _ hEq
                      replace s1 : wr.cell? ⟨bp, 5, none⟩ = some (.slice (some ⟨g', 0, none⟩) n2 (cap' + 1)) := s1
                      obtain ⟨ys', jts', hfin⟩ := hfin (.slice za l.length zc) l.length (filesV l) hOV hOz (cgd_f l) (by omega) hzn
                      have hgb2 : (n2 : Int) ≤ (cap' : Int) + 1 := by omega
                      have HF := Lib.hid hfin
                      clear hfin hOq hOV hEq hOz hzn
                      go_wp2_with fail
                      exact ⟨⟨k + 1, _, _, _, by go_num, by omega, by omega, by rw [upd_self], fun d hd => by rw [upd_ne _ _ (by omega)]; exact HMD.out d hd, fun d hd => by rw [upd_ne _ _ (by omega)]; exact HMZ.out d hd, HF.out⟩, by simp [intOf]; omega⟩
                · obtain rfl : n2 = k := by omega
                  have hno : ¬ (n2 : Int) < (n2 : Int) := by omega
                  have HSF := Lib.hid hS; have HDF := Lib.hid (show ∀ d, d < 3 → (its d).length ≤ M d from fun d hd => by by_cases e : d = 2; (subst e; have e9 : (a 4).length + (its 2).length = n2 := HN2.out; omega); exact hMd d (by omega))
                  have HGW := Lib.hid (grow_m _ wo bp r1 ys (a 0) (a 2) (a 4) jts M hS.kk (hS.rws.p 0 (by omega)) (hS.rws.p 1 (by omega)) (hS.rws.p 2 (by omega)) (fun c hc => by rw [hS.len]; exact HDF.out c hc))
                  have HL0 := Lib.hid (show (ys 0).length = n0 from by have := hS.lenp (c := 0) (by omega); rw [HN0.out] at this; exact this); have HL1 := Lib.hid (show (ys 2).length = n1 from by have := hS.lenp (c := 1) (by omega); rw [HN1.out] at this; exact this); have HL2 := Lib.hid (show (ys 4).length = n2 from by have := hS.lenp (c := 2) (by omega); rw [HN2.out] at this; exact this)
                  clear hS hMd hMz hMc hcp1 hcp2
                  go_wp2_with (go_at_call 82; refine (HGW.out).mono ?_; rintro e w9 ⟨rfl, hM9, hE9⟩; obtain ⟨aa, ca, hca, hca2, k0⟩ := hM9.bk.lenAt (i := 0) (by omega) HL0.out; obtain ⟨ab, cb, hcb, hcb2, k1⟩ := hM9.bk.lenAt (i := 2) (by omega) HL1.out; obtain ⟨ac, cc, hcc, hcc2, k2⟩ := hM9.bk.lenAt (i := 4) (by omega) HL2.out; have f6 := hM9.bk.cells.frozen 6 (by simp [bkCells]); have f7 := hM9.bk.cells.frozen 7 (by simp [bkCells]); have f8 := hM9.bk.cells.frozen 8 (by simp [bkCells]); have k6 := hM9.bk.cells.cell 6 rfl; have k7 := hM9.bk.cells.cell 7 rfl; have k8 := hM9.bk.cells.cell 8 rfl; have HM9 := Lib.hid hM9; have HE9 := Lib.hid hE9; clear hM9 hE9)
                  go_end0
                  obtain ⟨ys', jts', d1, d2, d3, d4, d5⟩ := HSF.out.done (fun c hc => HDF.out c hc) HM9.out HE9.out HN0.out HN1.out HN2.out rfl
                  have hle := HE1.out.1.size
                  exact ⟨rfl, r1, ys', jts', d1.low hle, d2, d3, d4, (HE1.out.1.mono fun k _ hk => .inl hk).trans d5.1 (fun k hk hk2 => hk2.imp (fun hk2 => (HE1.out.2 k hk2).resolve_right (by omega)) id), fun k hk => by rcases hk with hk | hk; exact (HE1.out.2 k hk).imp .inl id; exact .inl (.inr hk)⟩
end Go.Proofs.Ytnppneilbkmnfaa
